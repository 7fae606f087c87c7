/- Part of the proof. -/
import Derived.Test.YtkhnmniiopodoaaGreatGIK03
set_option linter.unusedSimpArgs false
set_option linter.unusedVariables false
set_option maxRecDepth 8000
namespace Go.AM.Fd
open Nat (reduceAdd reduceEqDiff reduceLT reduceLeDiff reduceMul reduceSub)
open Go.Proofs Go.AM.F
theorem row_lt{H:AHeap}{esz:Nat}{v:Value}{i:Nat}{r:List Value}(h:rowA H esz v i=some r):bn v-1<H.n:=by
 obtain⟨b,o,n,k,rfl,h1,own,room,z,c,e,h2,h3,h4⟩:=rowA_range h
 have:=AHeap.get_lt h2
 simp[bn,blk,slc];omega
theorem nd_step{l:List (Int×Bool)}{j:Nat}(h:j<l.length)(b:Bool)(p:Nat):ndP (l.take (j+1)) b p=(ndP (l.take j) b p||(decide ((p:Int)=(l.getD j (0,false)).1)&&(b==(l.getD j (0,false)).2))):=by
 unfold ndP
 rw[List.take_add_one,List.getElem?_eq_getElem h,List.getD_eq_getElem?_getD,List.getElem?_eq_getElem h,List.contains_append]
 simp only[Option.toList_some,Option.getD_some]
 congr 1
 obtain⟨x,y⟩:=l[j]
 simp only[List.contains_cons,List.contains_nil,Bool.or_false]
 rw[Bool.eq_iff_iff]
 simp
theorem nd_zero(b:Bool):Value.int .u32 0=S32 (ndP [] b):=by rw[p_zero];rfl
def xrow(L:Ly)(r:Ro)(i j:Nat):List Value:=[S64 (trP r),S64 (fiP r),S64 (ahP L r),S32 (ndP ((nds r).take j) false),S32 (ndP ((nds r).take j) true),S64 (tabP L i)]
theorem _root_.Go.AM.OW.set{e esz:Nat}{H K:AHeap}{v:Value}{rows:List (List Value)}(h:OW e esz H K v rows){b:Nat}{o:AO}(hb:bn v≠b+1)(hH:H.n≤b)(hK:b<K.n):OW e esz H (K.set b o) v rows:=
 ⟨h.ap.chg1 (Chg.set K hK o) hb,h.r,h.k.set hH hK o,h.f⟩
theorem _root_.Go.AM.OW.sep{e esz:Nat}{H K:AHeap}{v:Value}{rows:List (List Value)}(h:OW e esz H K v rows){b z t:Nat}{o r:Bool}{c:List Value}(g:K.get b=some (.cells o r z c t))(hz:z≠esz):bn v≠b+1:=by
 rcases h.ap with⟨rfl,_,_⟩|⟨b',room,rfl,_,h2⟩
 ·simp[bn,blk]
 ·intro e
  have e2:b'=b:=by simp[bn,blk,slc]at e;exact e
  subst e2
  rw[h2]at g
  cases g
  exact hz rfl
theorem _root_.Go.AM.OW.apart{e z e' z':Nat}{H H' K:AHeap}{v w:Value}{rows rows':List (List Value)}(h:OW e z H K v rows)(h':OW e' z' H' K w rows')(hz:z≠z'):∀b∈blkL v,b∉blkL w:=by
 intro b hb hb'
 rw[mem_blkL]at hb hb'
 rcases h.ap with⟨rfl,_,_⟩|⟨c,room,rfl,_,h2⟩
 ·cases hb
 ·rcases h'.ap with⟨rfl,_,_⟩|⟨c',room',rfl,_,h2'⟩
  ·cases hb'
  ·cases hb;cases hb'
   have e:=Option.some.inj (h2.symm.trans h2')
   injection e with _ _ e3 _ _
   exact hz e3
theorem _root_.Go.AM.OW.chg{e z:Nat}{H K K':AHeap}{v:Value}{rows:List (List Value)}{S:List Nat}(h:OW e z H K v rows)(c:Chg S K K')(hS:∀b∈blkL v,b∉S)(k:Keeps H K'):OW e z H K' v rows:=
 ⟨h.ap.chg c hS,h.r,k,h.f⟩
theorem fillW(a:Value)(h:a.cells.toList=[a]):fillA [.int .u64 0] [(0,1,a)]=some [a]:=by
 rw[fill_cons,h,if_pos ⟨rfl,by simp⟩];rfl
theorem not_blkL{v:Value}{b:Nat}(h:bn v≠b+1):b∉blkL v:=by
 intro hm
 have:=mem_blkL.1 hm
 apply h;unfold bn;rw[this]
theorem fillZ(a b c d e f:Value):fillA [.int .u64 0,.int .u64 0,.int .u64 0,.int .u32 0,.int .u32 0,.int .u64 0] [(0,6,.agg #[a,b,c,d,e,f])]=some [a,b,c,d,e,f]:=rfl
theorem fillM(a c:Nat→Bool)(b:Nat→Bool):fillA [.slice none 0 0,.slice none 0 0,.int .u64 0,.int .u32 0,.int .u64 0] [(2,1,S64 a),(3,1,S32 b),(4,1,S64 c)]=some [.slice none 0 0,.slice none 0 0,S64 a,S32 b,S64 c]:=rfl
theorem fillR(a b c d:Nat→Bool):fillA [.int .u64 0,.int .u64 0,.int .u64 0,.int .u32 0,.int .u32 0,.int .u64 0] [(0,1,S64 a),(1,1,S64 b),(2,1,S64 c),(5,1,S64 d)]=some [S64 a,S64 b,S64 c,.int .u32 0,.int .u32 0,S64 d]:=rfl
set_option maxHeartbeats 4000000 in
theorem t12{H:AHeap}{u:V4}{xs:List RV}{L:Ly}(h:LyR H u xs L)(hf:LyIn 9223372036854775807 L):
 ∃w H',ARun Tryz.prog 0 12 [.agg u.l.toArray] H w H'∧Keeps H H'∧(checkE L≠0→w=.tuple #[.agg #[.slice none 0 0,.slice none 0 0,.int .u64 0,.int .u32 0,.int .u64 0],.int .i64 (checkE L)])∧
  (checkE L=0→∃vr vl,w=.tuple #[.agg (mcells L vr vl).toArray,.int .i64 0]∧Sl H' 6 vr (mrows L)∧Sl H' 1 vl (mlies L)∧Fresh H.n vr∧Fresh H.n vl):=by
 refine walk2 f12_ok f12_n ?_
 intro Q hq1 hq2
 have os:=Sl.one h.s
 have op:=Sl.one h.p
 have og:=Sl.one h.g
 have or:=Sl.one h.r
 have is:=Sl.is h.s
 have ip:=Sl.is h.p
 have ig:=Sl.is h.g
 have ir:=Sl.is h.r
 have hul:u.l=[u.s,u.p,u.g,u.r]:=rfl
 obtain⟨K0,hK0⟩:∃X,X=(H.alloc (.cells true false 4 [u.s,u.p,u.g,u.r] 27)).alloc (.cells true false 5 [.slice none 0 0,.slice none 0 0,.int .u64 0,.int .u32 0,.int .u64 0] 59):=⟨_,rfl⟩
 have k0:Keeps H K0:=by rw[hK0];exact((Keeps.refl H).alloc _).alloc _
 have n0:K0.n=H.n+2:=by rw[hK0];rfl
 have gl0:K0.get H.n=some (.cells true false 4 [u.s,u.p,u.g,u.r] 27):=by rw[hK0];exact((Keeps.refl _).alloc _).at_ (AHeap.get_alloc_new H _)
 have gw0:K0.get (H.n+1)=some (.cells true false 5 [.slice none 0 0,.slice none 0 0,.int .u64 0,.int .u32 0,.int .u64 0] 59):=by rw[hK0];exact AHeap.get_alloc_new (H.alloc _) _
 have tT:=t27 (h.keeps k0) hf
 simp only[hul]at tT ⊢
 simp(disch:=first|assumption|omega|(simp only[LN]<;>omega)|(simp(disch:=first|assumption|omega|(simp only[LN]<;>omega))only[row_alloc,row_set];assumption))only[f12,W_block,P3,seval,initFr,clsA,os,op,og,or]
 simp only[←hK0]
 refine callK tT ?_
 rintro tv K1 ⟨k1,e1,e2⟩
 by_cases he:checkE L=0
 case neg=>
  rw[e1 he]
  have ne:(checkE L != 0)=true:=by simp[he]
  have gw1:=k1.at_ gw0
  have l0:=AHeap.get_lt gw1
  simp(disch:=first|assumption|omega|(simp only[LN]<;>omega)|(simp(disch:=first|assumption|omega|(simp only[LN]<;>omega))only[row_alloc,row_set];assumption))only[W_block,P3,seval,initFr,clsA,ne,gw1]
  refine hq2 _ _ ⟨.tuple #[.agg #[.slice none 0 0,.slice none 0 0,.int .u64 0,.int .u32 0,.int .u64 0],.int .i64 (checkE L)],?_,(k0.trans k1).set (by omega) l0 _,fun _=>rfl,fun e=>absurd e he⟩
  show resO [.cn 5 2,.t 3] _ _=_
  have gg:=AHeap.get_set_same gw1 (.cells true false 5 [.slice none 0 0,.slice none 0 0,.int .u64 0,.int .u32 0,.int .u64 0] 59)
  simp[resO,resVs,RX.get,celln,ptr,rangeA,gg];rfl
 case pos=>
 obtain⟨tb,rfl,htb,gt1⟩:=e2 he
 have hmay:=check_may he
 have hL:=may_lim hmay
 have hLs:=hL.s
 have hLp:=hL.p
 have hLg:=hL.g
 have hLr:=hL.r
 have hrl:=h.rlen
 have gl1:=k1.at_ gl0
 have gw1:=k1.at_ gw0
 have n1:=k1.n
 have hA:=(h.keeps k0).keeps k1
 have lr:=h.r.len
 have ls:=h.s.len
 have lp:=h.p.len
 have lg:=h.g.len
 rw[hrl]at lr
 simp(disch:=first|assumption|omega)only[W_block,P3,seval,initFr,clsA,gl1,lr,ir]
 refine callQ (t28 _) ?_
 simp(disch:=first|assumption|omega)only[W_block,P3,seval,initFr,clsA,gl1,lp,ip]
 refine callQ (t28 _) ?_
 simp(disch:=first|assumption|omega)only[W_block,P3,seval,initFr,clsA,gl1,ls,is,s_down]
 refine callQ (t28 _) ?_
 obtain⟨K2,hK2⟩:∃X,X=K1.alloc (.cells true false 5 (mcells L (.slice none 0 0) (.slice none 0 0)) 59):=⟨_,rfl⟩
 have hK2':=hK2
 unfold mcells at hK2'
 simp(disch:=first|assumption|omega|(simp only[LN]<;>omega)|(simp(disch:=first|assumption|omega|(simp only[LN]<;>omega))only[row_alloc,row_set];assumption))only[P3,seval,initFr,clsA,gl1,lr,ir,o_s64,o_s32,one_s64,one_s32,cells_s64,cells_s32,fillM]
 rw[←hK2',W_block]
 have k2:Keeps K1 K2:=by rw[hK2];exact(Keeps.refl K1).alloc _
 have gm2:K2.get K1.n=some (.cells true false 5 (mcells L (.slice none 0 0) (.slice none 0 0)) 59):=by rw[hK2];exact AHeap.get_alloc_new K1 _
 refine W_loop2 (fun q fr M=>∃i vr x7 x8 x9 x10 x11 x16 x17 x18 x19 x20 x21 x22 x23 x24 x25,fr=[.agg #[u.s,u.p,u.g,u.r],ptr H.n 0,ptr (H.n+1) 0,.int .i64 0,slc tb 0 L.r.length L.r.length,.int .i64 0,ptr K1.n 0,x7,x8,x9,x10,x11,
  .bool false,u.r,.int .i64 ((L.r.length:Nat):Int),.int .i64 ((i:Nat):Int),x16,x17,x18,x19,x20,x21,x22,x23,x24,x25]∧
  M.get K1.n=some (.cells true false 5 (mcells L vr (.slice none 0 0)) 59)∧OW 88 6 K1 M vr ((List.range i).map (mrow L))∧bn vr≠K1.n+1∧i≤L.r.length∧q=L.r.length-i) L.r.length
  ⟨0,.slice none 0 0,_,_,_,_,_,_,_,_,_,_,_,_,_,_,_,rfl,gm2,OW.nil _ _ k2,by simp[bn,blk],by omega,rfl⟩ ?_
 rintro Q' q fr M ⟨i,vr,x7,x8,x9,x10,x11,x16,x17,x18,x19,x20,x21,x22,x23,x24,x25,rfl,gm,ow,bv,hi,rfl⟩ hn' hx' hret
 have km:=ow.k
 have gl2:=km.at_ gl1
 have gt2:=km.at_ gt1
 by_cases hlt:i<L.r.length
 ·obtain⟨hyr,hyo⟩:=rv_ro h (i:=i) hlt
  obtain⟨na,ra⟩:=(hA.r.keeps km).at_ (i:=i) (by omega)
  have hgood:=check_good he (List.getElem_mem hlt)
  rw[←ro_eq hlt,←hyr]at hgood
  have hmr:mrow L i=[S64 (trP (ro L i)),S64 (fiP (ro L i)),S64 (ahP L (ro L i)),S32 (ndP (nds (ro L i)) false),S32 (ndP (nds (ro L i)) true),S64 (tabP L i)]:=rfl
  rw[←hyr]at hmr
  generalize xs.getD i rv0=y at*
  have hlim:=hgood.lim
  have lP:=hlim.p
  have lO:=hlim.o
  have lQ:=hlim.q
  have lF:=hlim.f
  have h0:(0:Int)≤(i:Int):=by omega
  have h1:(i:Int)<((L.r.length:Nat):Int):=by omega
  have hw:IntKind.i64.wrap ((i:Int)+1)=((i+1:Nat):Int):=by rw[wrap_i64 (by omega) (by omega)];simp
  have rowy:y.row=[.string ⟨y.r.n.toArray⟩,.int .i64 y.r.g,y.vp,y.vq,y.vo,y.vf]:=rfl
  obtain⟨a3,a4,a5,a6⟩:=RV.ones hyo
  have a1:one1 (Value.int .i64 y.r.g)=True:=by simp[one1,one_int]
  have a2:one1 (Value.string ⟨y.r.n.toArray⟩)=True:=by simp[one1,one_str]
  obtain⟨M1,hM1⟩:∃X,X=M.alloc (.cells true false 6 y.row 49):=⟨_,rfl⟩
  have m1:M1.n=M.n+1:=by rw[hM1];rfl
  have kM1:Keeps M M1:=by rw[hM1];exact(Keeps.refl M).alloc _
  have gy1:M1.get M.n=some (.cells true false 6 y.row 49):=by rw[hM1];exact AHeap.get_alloc_new M _
  have hMn:=AHeap.get_lt gm
  have kmn:=km.n
  have hM1':=hM1
  simp only[rowy]at ra hM1' gy1
  have yo1:=((hyo.keeps (k0.trans k1)).keeps km).keeps kM1
  have tTr:=t30 yo1 (by omega)
  simp only[rowy]at tTr
  simp(disch:=first|assumption|omega)only[P3,seval,initFr,clsA,h1]
  rw[W_block]
  simp(disch:=first|assumption|omega|(simp only[LN]<;>omega)|(simp(disch:=first|assumption|omega|(simp only[LN]<;>omega))only[row_alloc,row_set];assumption))only[P3,seval,initFr,clsA,lr,ra,na,a_loadnvf,a1,a2,a3,a4,a5,a6]
  rw[←hM1']
  refine callK tTr ?_
  rintro tv M2 ⟨htv,kM2,_⟩
  have hti:IL M2 tv (trk y.r):=htv.sl
  simp(disch:=first|assumption|omega)only[P3,seval,initFr,clsA,gy1]
  refine callQ (t29 hti (by simp[trk];omega)) ?_
  have gl3:=(kM1.trans kM2).at_ gl2
  have gy3:=kM2.at_ gy1
  have gt3:=(kM1.trans kM2).at_ gt2
  have lpt:=yo1.p.len
  obtain⟨nap,rap⟩:=(yo1.p.keeps kM2).at_ (i:=0) hgood.ne
  have p0:(0:Int)<((y.r.path.length:Nat):Int):=by have:=hgood.ne;omega
  obtain⟨_,rap1⟩:=yo1.p.at_ (i:=0) hgood.ne
  have q1:=row_lt rap1
  have q2:=kM2.get _ q1
  have q3:bn y.vp-1<M2.n:=by have:=kM2.n;omega
  have q4:M.n<M2.n:=by have:=kM2.n;omega
  simp(disch:=first|assumption|omega)only[P3,seval,initFr,clsA,gy3,gy1,nap,rap,lpt,a_load1v,p0,q1,q2,q3,q4]
  refine callQ (t31z _) ?_
  obtain⟨n,hn⟩:∃n:Nat,y.r.g=(n:Int):=⟨y.r.g.toNat,by have:=hlim.g.1;omega⟩
  have hnl:n<L.g.length:=by have:=hlim.g.2;omega
  obtain⟨nag,rag1⟩:=(((hA.g.keeps km).keeps kM1).at_ hnl)
  obtain⟨_,rag⟩:=((((hA.g.keeps km).keeps kM1).keeps kM2).at_ hnl)
  have hah:ahP L y.r=oneP (L.g.getD n ([],0)).2 :=by unfold ahP;rw[hn];rfl
  have q5:=row_lt rag1
  have q6:=kM2.get _ q5
  have q7:bn u.g-1<M2.n:=by have:=kM2.n;omega
  have q8:M1.get H.n=some (.cells true false 4 [u.s,u.p,u.g,u.r] 27):=kM1.at_ gl2
  have q9:H.n<M1.n:=AHeap.get_lt q8
  have q10:H.n<M2.n:=AHeap.get_lt gl3
  have q11:M.n<M1.n:=AHeap.get_lt gy1
  have g0:(0:Int)≤(n:Int):=by omega
  have g1:(n:Int)<((L.g.length:Nat):Int):=by omega
  simp(disch:=first|assumption|omega)only[P3,seval,initFr,clsA,gy3,gy1,gl3,q8,hn,g0,g1,nag,rag,lg,a_load1v,a_loadnvf,q4,q5,q6,q7,q9,q10,q11]
  refine callQ (t31z _) ?_
  have tbi:(tabC L)[i]? =some (S64 (tabP L i)):=by unfold tabC;simp[hlt]
  have gt1':=kM1.at_ gt2
  have q12:tb<M1.n:=AHeap.get_lt gt1'
  have q13:tb<M2.n:=AHeap.get_lt gt3
  obtain⟨M3,hM3⟩:∃X,X=M2.alloc (.cells true false 6 [S64 (trP y.r),S64 (fiP y.r),S64 (ahP L y.r),.int .u32 0,.int .u32 0,S64 (tabP L i)] 88):=⟨_,rfl⟩
  have m3:M3.n=M2.n+1:=by rw[hM3];rfl
  have kM3:Keeps M2 M3:=by rw[hM3];exact(Keeps.refl M2).alloc _
  have gx3:M3.get M2.n=some (.cells true false 6 [S64 (trP y.r),S64 (fiP y.r),S64 (ahP L y.r),.int .u32 0,.int .u32 0,S64 (tabP L i)] 88):=by rw[hM3];exact AHeap.get_alloc_new M2 _
  have hM3':=hM3
  unfold trP fiP at hM3'
  rw[hah]at hM3'
  have gy4:=kM3.at_ gy3
  have tN:=t32 ((yo1.keeps kM2).keeps kM3) (by omega)
  simp only[rowy,hn]at tN
  simp only[hn]at gy4
  simp(disch:=first|assumption|omega|(simp only[LN]<;>omega)|(simp(disch:=first|assumption|omega|(simp only[LN]<;>omega))only[row_alloc,row_set];assumption))only[P3,seval,initFr,clsA,gt1',gt3,tbi,h0,h1,fillR,Int.toNat_natCast,Nat.mul_one,Nat.zero_add,o_s64,o_s32,one_s64,one_s32,q12,q13,gy3,hn,q4]
  simp only[←hM3']
  refine callK tN ?_
  rintro nv M4 ⟨hnv,kM4,fnv⟩
  have hni:NL M4 nv (nds y.r):=hnv.sl
  have lnv:=hni.len
  have isn:=Sl.is hni
  have ndl:(nds y.r).length≤32:=by simp[nds];omega
  have gx4:=kM4.at_ gx3
  have e0:[S64 (trP y.r),S64 (fiP y.r),S64 (ahP L y.r),.int .u32 0,.int .u32 0,S64 (tabP L i)]=xrow L y.r i 0:=by
   unfold xrow;rw[List.take_zero,←nd_zero,←nd_zero]
  rw[e0]at gx4
  simp(disch:=first|assumption|omega)only[P3,seval,initFr,clsA,lnv,isn]
  rw[W_block]
  refine W_loop2 (fun q fr N=>∃j x10 x20 x21,fr=[.agg #[u.s,u.p,u.g,u.r],ptr H.n 0,ptr (H.n+1) 0,.int .i64 0,slc tb 0 L.r.length L.r.length,.int .i64 0,ptr K1.n 0,.int .i64 ((i:Nat):Int),ptr M.n 0,ptr M2.n 0,x10,x11,
   .bool false,u.r,.int .i64 ((L.r.length:Nat):Int),.int .i64 ((i:Nat):Int),.bool true,nv,.int .i64 (((nds y.r).length:Nat):Int),.int .i64 ((j:Nat):Int),x20,x21,x22,x23,x24,x25]∧
   Chg [M2.n] M4 N∧N.get M2.n=some (.cells true false 6 (xrow L y.r i j) 88)∧j≤(nds y.r).length∧q=(nds y.r).length - j) (nds y.r).length
   ⟨0,_,_,_,rfl,Chg.refl _ _,gx4,by omega,rfl⟩ ?_
  rintro Q2 q fr N ⟨j,x10,x20,x21,rfl,cN,gxN,hj,rfl⟩ hn2 hx2 hret2
  have nbn:∀b,blk nv=some b→b∉[M2.n]:=fun b hb=>by have:=fnv b hb;simp;omega
  have hniN:NL N nv (nds y.r):=Sl.chg hni cN nbn
  by_cases hlj:j<(nds y.r).length
  ·obtain⟨nj,rj⟩:=hniN.at_ hlj
   have hw2:IntKind.i64.wrap ((j:Int)+1)=((j+1:Nat):Int):=by rw[wrap_i64 (by omega) (by omega)];simp
   have j0:(0:Int)≤(j:Int):=by omega
   have j1:((j:Nat):Int)<(((nds y.r).length:Nat):Int):=by omega
   have sf:=nd_step hlj false
   have st:=nd_step hlj true
   have hmem:(nds y.r).getD j (0,false)∈nds y.r:=by rw[List.getD_eq_getElem?_getD,List.getElem?_eq_getElem hlj];exact List.getElem_mem hlj
   have hrng:=hgood.nd _ hmem
   generalize(nds y.r).getD j (0,false)=z at*
   obtain⟨zp,zb⟩:=z
   obtain⟨m,rfl⟩:∃m:Nat,zp=(m:Int):=⟨zp.toNat,by have:=hrng.1;omega⟩
   have hm32:m<32:=by have:=hrng.2;simp only at this;omega
   have s1:=p_shl1 hm32
   have hxl:=AHeap.get_lt gxN
   have gxA:(N.alloc (.cells true false 2 [.int .i64 (m:Int),.bool zb] 55)).get M2.n=some (.cells true false 6 (xrow L y.r i j) 88):=((Keeps.refl N).alloc _).at_ gxN
   have gnA:=AHeap.get_alloc_new N (.cells true false 2 [.int .i64 (m:Int),.bool zb] 55)
   have cA:Chg [M2.n] M4 (N.alloc (.cells true false 2 [.int .i64 (m:Int),.bool zb] 55)):=cN.alloc _
   unfold xrow at gxA gxN
   cases zb with
   |true=>
    simp(disch:=first|assumption|omega|(simp only[LN]<;>omega)|(simp(disch:=first|assumption|omega|(simp only[LN]<;>omega))only[row_alloc,row_set];assumption))only[W_block,P3,seval,initFr,clsA,j1,lnv,nj,rj,a_loadnvf,gxN,s1,p_or,o_s32,one_s32,hw2]
    have ex:xrow L y.r i (j+1)=[S64 (trP y.r),S64 (fiP y.r),S64 (ahP L y.r),S32 (ndP ((nds y.r).take j) false),S32 (fun i=>ndP ((nds y.r).take j) true i||decide (i=m)),S64 (tabP L i)]:=by
     unfold xrow
     rw[show ndP ((nds y.r).take (j+1)) false=ndP ((nds y.r).take j) false from funext fun p=>by rw[sf];simp,
      show ndP ((nds y.r).take (j+1)) true=fun i=>ndP ((nds y.r).take j) true i||decide (i=m)from funext fun p=>by rw[st];simp only[beq_self_eq_true,Bool.and_true,Int.ofNat_inj]]
    exact hn2 _ _ _ ⟨j+1,_,_,_,rfl,(cN.trans (Chg.set N hxl _) (by simp)).alloc _,((Keeps.refl _).alloc _).at_ (by rw[ex];exact AHeap.get_set_same gxN _),by omega,rfl⟩ (by omega)
   |false=>
    simp(disch:=first|assumption|omega|(simp only[LN]<;>omega)|(simp(disch:=first|assumption|omega|(simp only[LN]<;>omega))only[row_alloc,row_set];assumption))only[W_block,P3,seval,initFr,clsA,j1,lnv,nj,rj,a_loadnvf,gxN,s1,p_or,o_s32,one_s32,hw2]
    have ex:xrow L y.r i (j+1)=[S64 (trP y.r),S64 (fiP y.r),S64 (ahP L y.r),S32 (fun i=>ndP ((nds y.r).take j) false i||decide (i=m)),S32 (ndP ((nds y.r).take j) true),S64 (tabP L i)]:=by
     unfold xrow
     rw[show ndP ((nds y.r).take (j+1)) true=ndP ((nds y.r).take j) true from funext fun p=>by rw[st];simp,
      show ndP ((nds y.r).take (j+1)) false=fun i=>ndP ((nds y.r).take j) false i||decide (i=m)from funext fun p=>by rw[sf];simp only[beq_self_eq_true,Bool.and_true,Int.ofNat_inj]]
    exact hn2 _ _ _ ⟨j+1,_,_,_,rfl,(cN.trans (Chg.set N hxl _) (by simp)).alloc _,((Keeps.refl _).alloc _).at_ (by rw[ex];exact AHeap.get_set_same gxN _),by omega,rfl⟩ (by omega)
  ·have j1:¬((j:Nat):Int)<(((nds y.r).length:Nat):Int):=by omega
   have hje:j=(nds y.r).length:=by omega
   subst hje
   have exl:xrow L y.r i (nds y.r).length=mrow L i:=by unfold xrow;rw[List.take_length,hmr,hyr]
   rw[exl,hmr]at gxN
   have kMN:Keeps M N:=(((kM1.trans kM2).trans kM3).trans kM4).chg_trans cN (by simp;omega)
   have owN:=ow.keeps kMN
   have gmN:=kMN.at_ gm
   unfold mcells at gmN
   have isv:=owN.is
   simp(disch:=first|assumption|omega)only[W_block,P3,seval,initFr,clsA,j1]
   refine hx2 _ _ _ ?_
   simp(disch:=first|assumption|omega|(simp only[LN]<;>omega)|(simp(disch:=first|assumption|omega|(simp only[LN]<;>omega))only[row_alloc,row_set];assumption))only[W_block,P3,seval,initFr,clsA,gmN,gxN,isv,fillZ,one_s64,one_s32,o_s64,o_s32]
   have lvr:=ow.len
   refine OW.appR (owN.keeps ((Keeps.refl N).alloc _)) (Sl.one1 rfl rfl) (by simp;omega) ?_
   intro v' K' ow' c'
   have gmK:=c'.at_ (((Keeps.refl N).alloc _).at_ gmN) (not_blkL bv)
   have bv':=ow'.sep gmK (by omega)
   have hbK:=AHeap.get_lt gmK
   have o1:=ow'.one
   simp(disch:=first|assumption|omega)only[W_block,P3,seval,initFr,clsA,gmK,o1,hw]
   have ers:(List.range (i+1)).map (mrow L)=(List.range i).map (mrow L)++[[S64 (trP y.r),S64 (fiP y.r),S64 (ahP L y.r),S32 (ndP (nds y.r) false),S32 (ndP (nds y.r) true),S64 (tabP L i)]]:=by
    rw[List.range_succ,List.map_append,←hmr];rfl
   exact hn' _ _ _ ⟨i+1,v',_,_,_,_,_,_,_,_,_,_,_,_,_,_,_,rfl,AHeap.get_set_same gmK _,by rw[ers];exact ow'.set bv' (Nat.le_refl _) hbK,bv',by omega,rfl⟩ (by omega)
 ·have h1:¬((i:Nat):Int)<((L.r.length:Nat):Int):=by omega
  have hin:i=L.r.length:=by omega
  subst hin
  simp(disch:=first|assumption|omega)only[W_block,P3,seval,initFr,clsA,h1]
  refine hx' _ _ _ ?_
  simp(disch:=first|assumption|omega)only[P3,seval,initFr,clsA,gl2,lp,ip]
  rw[W_block]
  refine W_loop2 (fun q fr N=>∃i vl x11 x25,fr=[.agg #[u.s,u.p,u.g,u.r],ptr H.n 0,ptr (H.n+1) 0,.int .i64 0,slc tb 0 L.r.length L.r.length,.int .i64 0,ptr K1.n 0,x7,x8,x9,x10,x11,
   .bool false,u.r,.int .i64 ((L.r.length:Nat):Int),.int .i64 ((L.r.length:Nat):Int),.bool false,x17,x18,x19,x20,x21,u.p,.int .i64 ((L.p.length:Nat):Int),.int .i64 ((i:Nat):Int),x25]∧
   N.get K1.n=some (.cells true false 5 (mcells L vr vl) 59)∧OW 88 6 K1 N vr (mrows L)∧OW 33 1 K1 N vl ((List.range i).map fun i=>[S64 (lieP L i)])∧i≤L.p.length∧q=L.p.length-i) L.p.length
   ⟨0,.slice none 0 0,_,_,rfl,gm,ow,OW.nil _ _ km,by omega,rfl⟩ ?_
  rintro Q2 q fr N ⟨i,vl,x11,x25,rfl,gmN,owr,owl,hi,rfl⟩ hn2 hx2 hret2
  have kN:=owr.k
  by_cases hlt:i<L.p.length
  ·obtain⟨np,rp⟩:=(hA.p.keeps kN).at_ hlt
   have h0:(0:Int)≤(i:Int):=by omega
   have h1:(i:Int)<((L.p.length:Nat):Int):=by omega
   have hw:IntKind.i64.wrap ((i:Int)+1)=((i+1:Nat):Int):=by rw[wrap_i64 (by omega) (by omega)];simp
   have hli:lieP L i=oneP (L.p.getD i ([],0)).2 :=rfl
   generalize L.p.getD i ([],0)=z at*
   have w1:one1 (Value.int .i64 z.2)=True:=by simp[one1,one_int]
   have w2:one1 (Value.string ⟨z.1.toArray⟩)=True:=by simp[one1,one_str]
   have isl:=owl.is
   have isr:=owr.is
   unfold mcells at gmN
   obtain⟨N1,hN1⟩:∃X,X=N.alloc (.cells true false 2 [.string ⟨z.1.toArray⟩,.int .i64 z.2] 52):=⟨_,rfl⟩
   have kN1:Keeps N N1:=by rw[hN1];exact(Keeps.refl N).alloc _
   have gmN1:=kN1.at_ gmN
   simp(disch:=first|assumption|omega|(simp only[LN]<;>omega)|(simp(disch:=first|assumption|omega|(simp only[LN]<;>omega))only[row_alloc,row_set];assumption))only[W_block,P3,seval,initFr,clsA,h1,lp,np,rp,a_loadnvf,gmN,w1,w2]
   have gpN1:=AHeap.get_alloc_new N (.cells true false 2 [.string ⟨z.1.toArray⟩,.int .i64 z.2] 52)
   rw[←hN1]at gpN1 ⊢
   have t1:K1.n<N1.n:=AHeap.get_lt gmN1
   simp(disch:=first|assumption|omega)only[W_block,P3,seval,initFr,clsA,gmN1,gpN1,isl]
   refine callQ (t31z _) ?_
   have lvl:=owl.len
   have fW:=fillW (S64 (oneP z.2)) rfl
   simp(disch:=first|assumption|omega)only[W_block,P3,seval,initFr,clsA,gmN1,gpN1,isl,fW,one_s64,o_s64,t1]
   refine⟨by simp,OW.appD (owl.keeps (kN1.alloc _)) (Sl.one1 (row:=[S64 (oneP z.2)]) rfl rfl) ?_ ?_⟩
   ·simp only[List.length_map,List.length_range,List.length_cons,List.length_nil];omega
   intro v' K' ow' c'
   have owr':=(owr.keeps (kN1.alloc (.cells true false 1 [S64 (oneP z.2)] 33))).chg c' (owr.apart owl (by omega)) ow'.k
   have hml:K1.n∉blkL vl:=not_blkL (owl.sep gmN (by omega))
   have gmK:=c'.at_ (((Keeps.refl N1).alloc (.cells true false 1 [S64 (oneP z.2)] 33)).at_ gmN1) hml
   have bv':=ow'.sep gmK (by omega)
   have br':=owr'.sep gmK (by omega)
   have hbK:=AHeap.get_lt gmK
   have o1:=ow'.one
   simp(disch:=first|assumption|omega)only[W_block,P3,seval,initFr,clsA,gmK,o1,hw]
   have ers:(List.range (i+1)).map (fun i=>[S64 (lieP L i)])=(List.range i).map (fun i=>[S64 (lieP L i)])++[[S64 (oneP z.2)]]:=by
    rw[List.range_succ,List.map_append,←hli];rfl
   exact hn2 _ _ _ ⟨i+1,v',_,_,rfl,AHeap.get_set_same gmK _,owr'.set br' (Nat.le_refl _) hbK,by rw[ers];exact ow'.set bv' (Nat.le_refl _) hbK,by omega,rfl⟩ (by omega)
  ·have h1:¬((i:Nat):Int)<((L.p.length:Nat):Int):=by omega
   have hie:i=L.p.length:=by omega
   subst hie
   unfold mcells at gmN
   have isl:=owl.one
   have isr:=owr.one
   have gwN:=kN.at_ gw1
   have hwl:=AHeap.get_lt gwN
   simp(disch:=first|assumption|omega)only[W_block,P3,seval,initFr,clsA,h1]
   refine hx2 _ _ _ ?_
   simp(disch:=first|assumption|omega|(simp only[LN]<;>omega)|(simp(disch:=first|assumption|omega|(simp only[LN]<;>omega))only[row_alloc,row_set];assumption))only[W_block,P3,seval,initFr,clsA,gmN,gwN,isl,isr,o_s64,o_s32,one_s64,one_s32]
   refine hq2 _ _ ⟨.tuple #[.agg (mcells L vr vl).toArray,.int .i64 0],?_,(k0.trans (k1.trans kN)).set (by omega) hwl _,fun e=>absurd he e,fun _=>⟨vr,vl,rfl,owr.sl.chg1 (Chg.set N hwl _) (owr.sep gwN (by omega)),owl.sl.chg1 (Chg.set N hwl _) (owl.sep gwN (by omega)),fun b hb=>Nat.le_trans (by omega) (owr.f b hb),fun b hb=>Nat.le_trans (by omega) (owl.f b hb)⟩⟩
   show resO [.cn 5 2,.t 3] _ _=_
   have gg:=AHeap.get_set_same gwN (.cells true false 5 [vr,vl,S64 (lowP ((L.r.length:Nat):Int)),S32 (lowP ((L.p.length:Nat):Int)),S64 (lowP ((L.s.length:Nat):Int))] 59)
   simp[resO,resVs,RX.get,celln,ptr,rangeA,gg,mcells];rfl
end Go.AM.Fd

set_option maxRecDepth 100000
set_option maxHeartbeats 0
namespace Go.AM.F
def Z68K:List Value:=[(.int .u64 0),(.int .u64 0),(.int .u64 0)]++List.replicate 64 (.int .u8 0)++[(.int .u32 0)]
def Z74K:List Value:=[(.pointer none),(.int .u64 0),(.int .u64 0),(.int .u64 0)]++List.replicate 64 (.int .u8 0)++[(.int .u32 0),(.int .u64 0),(.int .u32 0),(.int .u32 0),(.slice none 0 0),(.int .u64 0)]
def O68K:List Nat:=List.replicate 68 1
def zclK:TypeId→List Value
 |105=>[(.slice none 0 0),(.slice none 0 0),(.int .i64 0),(.int .u32 0)]
 |49=>[(.string ByteArray.empty),(.int .i64 0),(.slice none 0 0),(.slice none 0 0),(.slice none 0 0),(.slice none 0 0)]
 |108=>[(.int .i64 0),(.int .i64 0),(.slice none 0 0),(.slice none 0 0),(.slice none 0 0)]
 |52=>[(.string ByteArray.empty),(.int .i64 0)]
 |37=>Z68K
 |68=>[(.int .u64 0),(.int .u32 0)]
 |111=>Z74K
 |39=>[(.int .u8 0),(.int .i64 0)]
 |139=>[.nilFunc,.nilFunc,.nilFunc,.nilFunc]
 |35=>[(.int .u32 0)]
 |55=>[(.int .i64 0),(.bool false)]
 |_=>[]
def zvlK:TypeId→Value
 |_=>undef
def zklK:TypeId→List Nat
 |37=>O68K
 |_=>[]
def zrlK:Nat→TypeId→List Value
 |1,108=>[(.int .i64 0),(.int .i64 0),(.slice none 0 0),(.slice none 0 0),(.slice none 0 0)]
 |1,3=>[(.int .i64 0)]
 |_,_=>[]
noncomputable def f17:AFunc:=by
 refine(fun(_:Cz zclK zvlK zklK zrlK Go.Proofs.Tryz.prog 0 [0,1,2,3,4,6,7,8,9,10,17,25,26,27,28,62,63,64,65] 17 ?a)=>?a) ?h
 case h=>
 intro zc zv zk zr hc hv hk hr
 conv=>lhs;cbv;try simp only[hc,hv,hk,hr,zclK,zvlK,zklK,zrlK]
theorem f17_ok:compF Go.Proofs.Tryz.prog 0 [0,1,2,3,4,6,7,8,9,10,17,25,26,27,28,62,63,64,65] 17=some f17:=by kernel_rfl
theorem f17_n:argsOK Go.Proofs.Tryz.prog 17 1=true:=by kernel_rfl
noncomputable def f18:AFunc:=by
 refine(fun(_:Cz zclK zvlK zklK zrlK Go.Proofs.Tryz.prog 0 [0,1,2,4,5,6,7,8,10,11,12,13,15,39,40,41,42,53,54,55,59,74,75,76,80] 18 ?a)=>?a) ?h
 case h=>
 intro zc zv zk zr hc hv hk hr
 conv=>lhs;cbv;try simp only[hc,hv,hk,hr,zclK,zvlK,zklK,zrlK]
theorem f18_ok:compF Go.Proofs.Tryz.prog 0 [0,1,2,4,5,6,7,8,10,11,12,13,15,39,40,41,42,53,54,55,59,74,75,76,80] 18=some f18:=by kernel_rfl
theorem f18_n:argsOK Go.Proofs.Tryz.prog 18 3=true:=by kernel_rfl
noncomputable def f19:AFunc:=by
 refine(fun(_:Cz zclK zvlK zklK zrlK Go.Proofs.Tryz.prog 0 [0,1,3,4,5,6,8,22,23,24,30,40,50] 19 ?a)=>?a) ?h
 case h=>
 intro zc zv zk zr hc hv hk hr
 conv=>lhs;cbv;try simp only[hc,hv,hk,hr,zclK,zvlK,zklK,zrlK]
theorem f19_ok:compF Go.Proofs.Tryz.prog 0 [0,1,3,4,5,6,8,22,23,24,30,40,50] 19=some f19:=by kernel_rfl
theorem f19_n:argsOK Go.Proofs.Tryz.prog 19 2=true:=by kernel_rfl
noncomputable def f21:AFunc:=by
 refine(fun(_:Cz zclK zvlK zklK zrlK Go.Proofs.Tryz.prog 0 [0,1,3,4,5,6,15,19,20,21,22,30,40] 21 ?a)=>?a) ?h
 case h=>
 intro zc zv zk zr hc hv hk hr
 conv=>lhs;cbv;try simp only[hc,hv,hk,hr,zclK,zvlK,zklK,zrlK]
theorem f21_ok:compF Go.Proofs.Tryz.prog 0 [0,1,3,4,5,6,15,19,20,21,22,30,40] 21=some f21:=by kernel_rfl
theorem f21_n:argsOK Go.Proofs.Tryz.prog 21 2=true:=by kernel_rfl
noncomputable def f47:AFunc:=by
 refine(fun(_:Cz zclK zvlK zklK zrlK Go.Proofs.Tryz.prog 0 [0,1,2,4,5,6,7,21,23,24,25,26,42] 47 ?a)=>?a) ?h
 case h=>
 intro zc zv zk zr hc hv hk hr
 conv=>lhs;cbv;try simp only[hc,hv,hk,hr,zclK,zvlK,zklK,zrlK]
theorem f47_ok:compF Go.Proofs.Tryz.prog 0 [0,1,2,4,5,6,7,21,23,24,25,26,42] 47=some f47:=by kernel_rfl
theorem f47_n:argsOK Go.Proofs.Tryz.prog 47 2=true:=by kernel_rfl
noncomputable def f48:AFunc:=by
 refine(fun(_:Cz zclK zvlK zklK zrlK Go.Proofs.Tryz.prog 0 [0,1,3,4,5,23,53] 48 ?a)=>?a) ?h
 case h=>
 intro zc zv zk zr hc hv hk hr
 conv=>lhs;cbv;try simp only[hc,hv,hk,hr,zclK,zvlK,zklK,zrlK]
theorem f48_ok:compF Go.Proofs.Tryz.prog 0 [0,1,3,4,5,23,53] 48=some f48:=by kernel_rfl
theorem f48_n:argsOK Go.Proofs.Tryz.prog 48 2=true:=by kernel_rfl
noncomputable def f49:AFunc:=by
 refine(fun(_:Cz zclK zvlK zklK zrlK Go.Proofs.Tryz.prog 0 [0,1,4] 49 ?a)=>?a) ?h
 case h=>
 intro zc zv zk zr hc hv hk hr
 conv=>lhs;cbv;try simp only[hc,hv,hk,hr,zclK,zvlK,zklK,zrlK]
theorem f49_ok:compF Go.Proofs.Tryz.prog 0 [0,1,4] 49=some f49:=by kernel_rfl
theorem f49_n:argsOK Go.Proofs.Tryz.prog 49 2=true:=by kernel_rfl
noncomputable def f50:AFunc:=by
 refine(fun(_:Cz zclK zvlK zklK zrlK Go.Proofs.Tryz.prog 0 [0,1,4,5,19,29,46,55,76] 50 ?a)=>?a) ?h
 case h=>
 intro zc zv zk zr hc hv hk hr
 conv=>lhs;cbv;try simp only[hc,hv,hk,hr,zclK,zvlK,zklK,zrlK]
theorem f50_ok:compF Go.Proofs.Tryz.prog 0 [0,1,4,5,19,29,46,55,76] 50=some f50:=by kernel_rfl
theorem f50_n:argsOK Go.Proofs.Tryz.prog 50 2=true:=by kernel_rfl
noncomputable def f51:AFunc:=by
 refine(fun(_:Cz zclK zvlK zklK zrlK Go.Proofs.Tryz.prog 0 [0,1,4,5,6,34] 51 ?a)=>?a) ?h
 case h=>
 intro zc zv zk zr hc hv hk hr
 conv=>lhs;cbv;try simp only[hc,hv,hk,hr,zclK,zvlK,zklK,zrlK]
theorem f51_ok:compF Go.Proofs.Tryz.prog 0 [0,1,4,5,6,34] 51=some f51:=by kernel_rfl
theorem f51_n:argsOK Go.Proofs.Tryz.prog 51 2=true:=by kernel_rfl
noncomputable def f52:AFunc:=by
 refine(fun(_:Cz zclK zvlK zklK zrlK Go.Proofs.Tryz.prog 0 [0,1,4] 52 ?a)=>?a) ?h
 case h=>
 intro zc zv zk zr hc hv hk hr
 conv=>lhs;cbv;try simp only[hc,hv,hk,hr,zclK,zvlK,zklK,zrlK]
theorem f52_ok:compF Go.Proofs.Tryz.prog 0 [0,1,4] 52=some f52:=by kernel_rfl
theorem f52_n:argsOK Go.Proofs.Tryz.prog 52 2=true:=by kernel_rfl
noncomputable def f56:AFunc:=by
 refine(fun(_:Cz zclK zvlK zklK zrlK Go.Proofs.Tryz.prog 0 [0,1,3] 56 ?a)=>?a) ?h
 case h=>
 intro zc zv zk zr hc hv hk hr
 conv=>lhs;cbv;try simp only[hc,hv,hk,hr,zclK,zvlK,zklK,zrlK]
theorem f56_ok:compF Go.Proofs.Tryz.prog 0 [0,1,3] 56=some f56:=by kernel_rfl
theorem f56_n:argsOK Go.Proofs.Tryz.prog 56 2=true:=by kernel_rfl
noncomputable def f58:AFunc:=by
 refine(fun(_:Cz zclK zvlK zklK zrlK Go.Proofs.Tryz.prog 0 [0,1,2,3] 58 ?a)=>?a) ?h
 case h=>
 intro zc zv zk zr hc hv hk hr
 conv=>lhs;cbv;try simp only[hc,hv,hk,hr,zclK,zvlK,zklK,zrlK]
theorem f58_ok:compF Go.Proofs.Tryz.prog 0 [0,1,2,3] 58=some f58:=by kernel_rfl
theorem f58_n:argsOK Go.Proofs.Tryz.prog 58 2=true:=by kernel_rfl
noncomputable def f84:AFunc:=by
 refine(fun(_:Cz zclK zvlK zklK zrlK Go.Proofs.Tryz.prog 0 [0,1,4,6,8,34,36,37,38,39,69,83,84,85,86,90] 84 ?a)=>?a) ?h
 case h=>
 intro zc zv zk zr hc hv hk hr
 conv=>lhs;cbv;try simp only[hc,hv,hk,hr,zclK,zvlK,zklK,zrlK]
theorem f84_ok:compF Go.Proofs.Tryz.prog 0 [0,1,4,6,8,34,36,37,38,39,69,83,84,85,86,90] 84=some f84:=by kernel_rfl
theorem f84_n:argsOK Go.Proofs.Tryz.prog 84 2=true:=by kernel_rfl
noncomputable def f85:AFunc:=by
 refine(fun(_:Cz zclK zvlK zklK zrlK Go.Proofs.Tryz.prog 0 [0,1,25,50] 85 ?a)=>?a) ?h
 case h=>
 intro zc zv zk zr hc hv hk hr
 conv=>lhs;cbv;try simp only[hc,hv,hk,hr,zclK,zvlK,zklK,zrlK]
theorem f85_ok:compF Go.Proofs.Tryz.prog 0 [0,1,25,50] 85=some f85:=by kernel_rfl
theorem f85_n:argsOK Go.Proofs.Tryz.prog 85 2=true:=by kernel_rfl
noncomputable def f86:AFunc:=by
 refine(fun(_:Cz zclK zvlK zklK zrlK Go.Proofs.Tryz.prog 0 [0,1,3,4,5,18,25,26,27,28,40] 86 ?a)=>?a) ?h
 case h=>
 intro zc zv zk zr hc hv hk hr
 conv=>lhs;cbv;try simp only[hc,hv,hk,hr,zclK,zvlK,zklK,zrlK]
theorem f86_ok:compF Go.Proofs.Tryz.prog 0 [0,1,3,4,5,18,25,26,27,28,40] 86=some f86:=by kernel_rfl
theorem f86_n:argsOK Go.Proofs.Tryz.prog 86 2=true:=by kernel_rfl
noncomputable def f87:AFunc:=by
 refine(fun(_:Cz zclK zvlK zklK zrlK Go.Proofs.Tryz.prog 0 [0,1,2,4] 87 ?a)=>?a) ?h
 case h=>
 intro zc zv zk zr hc hv hk hr
 conv=>lhs;cbv;try simp only[hc,hv,hk,hr,zclK,zvlK,zklK,zrlK]
theorem f87_ok:compF Go.Proofs.Tryz.prog 0 [0,1,2,4] 87=some f87:=by kernel_rfl
theorem f87_n:argsOK Go.Proofs.Tryz.prog 87 2=true:=by kernel_rfl
noncomputable def f88:AFunc:=by
 refine(fun(_:Cz zclK zvlK zklK zrlK Go.Proofs.Tryz.prog 0 [0,1,4] 88 ?a)=>?a) ?h
 case h=>
 intro zc zv zk zr hc hv hk hr
 conv=>lhs;cbv;try simp only[hc,hv,hk,hr,zclK,zvlK,zklK,zrlK]
theorem f88_ok:compF Go.Proofs.Tryz.prog 0 [0,1,4] 88=some f88:=by kernel_rfl
theorem f88_n:argsOK Go.Proofs.Tryz.prog 88 2=true:=by kernel_rfl
noncomputable def f89:AFunc:=by
 refine(fun(_:Cz zclK zvlK zklK zrlK Go.Proofs.Tryz.prog 0 [0,1,2,3,4,6] 89 ?a)=>?a) ?h
 case h=>
 intro zc zv zk zr hc hv hk hr
 conv=>lhs;cbv;try simp only[hc,hv,hk,hr,zclK,zvlK,zklK,zrlK]
theorem f89_ok:compF Go.Proofs.Tryz.prog 0 [0,1,2,3,4,6] 89=some f89:=by kernel_rfl
theorem f89_n:argsOK Go.Proofs.Tryz.prog 89 3=true:=by kernel_rfl
noncomputable def f125:AFunc:=by
 refine(fun(_:Cz zclK zvlK zklK zrlK Go.Proofs.Tryz.prog 0 [0,1,2,3] 125 ?a)=>?a) ?h
 case h=>
 intro zc zv zk zr hc hv hk hr
 conv=>lhs;cbv;try simp only[hc,hv,hk,hr,zclK,zvlK,zklK,zrlK]
theorem f125_ok:compF Go.Proofs.Tryz.prog 0 [0,1,2,3] 125=some f125:=by kernel_rfl
theorem f125_n:argsOK Go.Proofs.Tryz.prog 125 2=true:=by kernel_rfl
noncomputable def f126:AFunc:=by
 refine(fun(_:Cz zclK zvlK zklK zrlK Go.Proofs.Tryz.prog 0 [0,1,3] 126 ?a)=>?a) ?h
 case h=>
 intro zc zv zk zr hc hv hk hr
 conv=>lhs;cbv;try simp only[hc,hv,hk,hr,zclK,zvlK,zklK,zrlK]
theorem f126_ok:compF Go.Proofs.Tryz.prog 0 [0,1,3] 126=some f126:=by kernel_rfl
theorem f126_n:argsOK Go.Proofs.Tryz.prog 126 2=true:=by kernel_rfl
end Go.AM.F

set_option maxRecDepth 8000
namespace Go.AM.Fd
open Nat (reduceAdd reduceEqDiff reduceLT reduceLeDiff reduceMul reduceSub)
open Go.Proofs Go.AM.F
def cfl(L:Ly)(i n:Nat):List Int:=((List.range n).filter fun k=>(k != i)&&cf L i k).map fun k:Nat=>(k:Int)
theorem cfl_y{L:Ly}{i k:Nat}(h:((k != i)&&cf L i k)=true):cfl L i (k+1)=cfl L i k++[(k:Int)]:=by
 unfold cfl;rw[List.range_succ,List.filter_append,List.map_append];simp[h]
theorem cfl_n{L:Ly}{i k:Nat}(h:((k != i)&&cf L i k)=false):cfl L i (k+1)=cfl L i k:=by
 unfold cfl;rw[List.range_succ,List.filter_append,List.map_append,List.filter_cons,h];simp
theorem cfl_len(L:Ly)(i n:Nat):(cfl L i n).length≤n:=by
 unfold cfl;rw[List.length_map]
 exact Nat.le_trans (List.length_filter_le _ _) (by simp)
set_option maxHeartbeats 1000000 in
theorem t47{H:AHeap}{u:V4}{xs:List RV}{L:Ly}(h:LyR H u xs L)(he:checkE L=0)(hf:LyIn 9223372036854775807 L){i:Nat}(hi:i<L.r.length):
 ∃w H',ARun Tryz.prog 0 47 [.agg u.l.toArray,.int .i64 (i:Nat)] H w H'∧OW 3 1 H H' w ((cfl L i L.r.length).map iRow):=by
 refine walk2 f47_ok f47_n ?_
 intro Q hq1 hq2
 have hmay:=check_may he
 have hL:=may_lim hmay
 have lr:=hL.r
 have os:=Sl.one h.s
 have op:=Sl.one h.p
 have og:=Sl.one h.g
 have or:=Sl.one h.r
 have ir:=Sl.is h.r
 have lenr:=h.r.len
 rw[h.rlen]at lenr
 have hul:u.l=[u.s,u.p,u.g,u.r]:=rfl
 have e0:(0:Int)≤(i:Int):=by omega
 have e1:(i:Int)<((L.r.length:Nat):Int):=by omega
 have e2:¬(i:Int)<0:=by omega
 have e3:¬((L.r.length:Nat):Int)≤(i:Int):=by omega
 obtain⟨K0,hK0⟩:∃X,X=H.alloc (.cells true false 4 [u.s,u.p,u.g,u.r] 27):=⟨_,rfl⟩
 have k0:Keeps H K0:=by rw[hK0];exact(Keeps.refl H).alloc _
 have n0:K0.n=H.n+1:=by rw[hK0];rfl
 have gl0:K0.get H.n=some (.cells true false 4 [u.s,u.p,u.g,u.r] 27):=by rw[hK0];exact AHeap.get_alloc_new H _
 have tM:=lMayA (h.keeps k0) hf
 obtain⟨hyr,hyo⟩:=rv_ro h hi
 have hgood:=check_good he (List.getElem_mem hi)
 rw[←ro_eq hi,←hyr]at hgood
 have rr:∀K,Keeps H K→nnS u.r=true∧rowA K 6 u.r i=some (xs.getD i rv0).row:=fun K k=>(h.r.keeps k).at_ (i:=i) (by rw[h.rlen];exact hi)
 have hcf:∀k,cf L i k=confB L (xs.getD i rv0).r (ro L k):=fun k=>by unfold cf;rw[hyr]
 generalize xs.getD i rv0=y at*
 have rowy:y.row=[.string ⟨y.r.n.toArray⟩,.int .i64 y.r.g,y.vp,y.vq,y.vo,y.vf]:=rfl
 obtain⟨a3,a4,a5,a6⟩:=RV.ones hyo
 have a1:one1 (Value.int .i64 y.r.g)=True:=by simp[one1,one_int]
 have a2:one1 (Value.string ⟨y.r.n.toArray⟩)=True:=by simp[one1,one_str]
 simp only[hul]at tM ⊢
 simp(disch:=first|assumption|omega|(simp only[LN]<;>omega)|(simp(disch:=first|assumption|omega|(simp only[LN]<;>omega))only[row_alloc,row_set];assumption))only[f47,W_block,P3,seval,initFr,clsA,os,op,og,or,e2,e3,ir,lenr]
 simp only[←hK0]
 refine callK tM ?_
 rintro _ X ⟨rfl,hX⟩
 rw[hX,hmay]
 simp(disch:=first|assumption|omega)only[P3,seval,initFr,clsA,gl0,ir,lenr]
 obtain⟨A1,hA1⟩:∃v:Value,v=.agg #[u.s,u.p,u.g,u.r]:=⟨_,rfl⟩
 rw[W_block,←hA1]
 refine W_loop2 (fun q fr K=>∃k v x5 x6 x11 x12,fr=[A1,.int .i64 ((i:Nat):Int),ptr H.n 0,.slice none 0 0,v,x5,x6,.bool false,u.r,.int .i64 ((L.r.length:Nat):Int),.int .i64 ((k:Nat):Int),x11,x12]∧
  OW 3 1 K0 K v ((cfl L i k).map iRow)∧k≤L.r.length∧q=L.r.length-k) L.r.length
  ⟨0,_,_,_,_,_,rfl,OW.nil _ _ (Keeps.refl K0),by omega,rfl⟩ ?_
 rintro Q' q fr K ⟨k,v,x5,x6,x11,x12,rfl,ow,hk,rfl⟩ hn' hx' hret
 have kK:=ow.k
 by_cases hlt:k<L.r.length
 ·have c0:(0:Int)≤(k:Int):=by omega
  have c1:(k:Int)<((L.r.length:Nat):Int):=by omega
  have hw:IntKind.i64.wrap ((k:Int)+1)=((k+1:Nat):Int):=by rw[wrap_i64 (by omega) (by omega)];simp
  obtain⟨hzr,hzo⟩:=rv_ro h hlt
  obtain⟨nb,rb⟩:=(h.r.keeps (k0.trans kK)).at_ (i:=k) (by rw[h.rlen];exact hlt)
  have zlim:=may_ro hmay (List.getElem_mem hlt)
  rw[←ro_eq hlt,←hzr]at zlim
  have hcfk:=hcf k
  rw[←hzr]at hcfk
  have cy:=fun e=>cfl_y (L:=L) (i:=i) (k:=k) e
  have cn:=fun e=>cfl_n (L:=L) (i:=i) (k:=k) e
  generalize xs.getD k rv0=z at*
  have rowz:z.row=[.string ⟨z.r.n.toArray⟩,.int .i64 z.r.g,z.vp,z.vq,z.vo,z.vf]:=rfl
  obtain⟨b3,b4,b5,b6⟩:=RV.ones hzo
  have b1:one1 (Value.int .i64 z.r.g)=True:=by simp[one1,one_int]
  have b2:one1 (Value.string ⟨z.r.n.toArray⟩)=True:=by simp[one1,one_str]
  obtain⟨K1,hK1⟩:∃X,X=K.alloc (.cells true false 6 z.row 49):=⟨_,rfl⟩
  have k1:Keeps K K1:=by rw[hK1];exact(Keeps.refl K).alloc _
  have gz1:K1.get K.n=some (.cells true false 6 z.row 49):=by rw[hK1];exact AHeap.get_alloc_new K _
  have gl1:=(kK.trans k1).at_ gl0
  have kA:=(k0.trans kK).trans k1
  obtain⟨na,ra⟩:=rr _ kA
  have tC:=t65 (h.keeps kA) (hyo.keeps kA) (hzo.keeps kA) hgood.lim zlim hL
  simp only[rowz]at rb hK1 gz1
  simp only[hul,rowy,rowz]at tC ra
  by_cases hki:k=i
  ·have en:(((k:Nat):Int) != ((i:Nat):Int))=false:=by simp[hki]
   simp(disch:=first|assumption|omega|(simp only[LN]<;>omega)|(simp(disch:=first|assumption|omega|(simp only[LN]<;>omega))only[row_alloc,row_set];assumption))only[W_block,P3,seval,initFr,clsA,c1,lenr,nb,rb,a_loadnvf,b1,b2,b3,b4,b5,b6,en,hw]
   exact hn' _ _ _ ⟨k+1,_,_,_,_,_,rfl,by rw[cn (by simp[hki])];exact ow.keeps ((Keeps.refl K).alloc _),by omega,rfl⟩ (by omega)
  ·have en:(((k:Nat):Int) != ((i:Nat):Int))=true:=by simp;omega
   have hb:(k != i)=true:=by simp[hki]
   simp(disch:=first|assumption|omega|(simp only[LN]<;>omega)|(simp(disch:=first|assumption|omega|(simp only[LN]<;>omega))only[row_alloc,row_set];assumption))only[W_block,P3,seval,initFr,clsA,c1,lenr,nb,rb,a_loadnvf,b1,b2,b3,b4,b5,b6,en]
   rw[←hK1]
   simp(disch:=first|assumption|omega|(simp only[LN]<;>omega)|(simp(disch:=first|assumption|omega|(simp only[LN]<;>omega))only[row_alloc,row_set];assumption))only[W_block,P3,seval,initFr,clsA,gl1,gz1,ir,lenr,na,ra,e0,e1,a_loadnvf]
   refine callK tC ?_
   rintro _ X ⟨rfl,hX⟩
   rw[hX,←hcfk]
   cases hcc:cf L i k with
   |false=>
    simp(disch:=first|assumption|omega)only[W_block,P3,seval,initFr,clsA,hw]
    exact hn' _ _ _ ⟨k+1,_,_,_,_,_,rfl,by rw[cn (by rw[hcc];simp)];exact ow.keeps k1,by omega,rfl⟩ (by omega)
   |true=>
    have isv:=ow.is
    simp(disch:=first|assumption|omega)only[W_block,P3,seval,initFr,clsA,isv]
    have lc:=cfl_len L i k
    refine OW.appR ((ow.keeps k1).keeps ((Keeps.refl _).alloc _)) (Sl.one1 (row:=[.int .i64 ((k:Nat):Int)]) rfl rfl) (by simp;omega) ?_
    intro v' K' ow' c'
    simp(disch:=first|assumption|omega)only[W_block,P3,seval,initFr,clsA,hw]
    exact hn' _ _ _ ⟨k+1,v',_,_,_,_,rfl,by rw[cy (by rw[hcc];simp[hki]),List.map_append];exact ow',by omega,rfl⟩ (by omega)
 ·have c1:¬(k:Int)<((L.r.length:Nat):Int):=by omega
  have hke:k=L.r.length:=by omega
  subst hke
  simp(disch:=first|assumption|omega)only[W_block,P3,seval,initFr,clsA,c1]
  refine hx' _ _ _ ?_
  simp(disch:=first|assumption|omega)only[W_block,P3,seval,initFr,clsA]
  exact hq2 _ _ ⟨_,rfl,ow.base k0⟩
end Go.AM.Fd

set_option maxRecDepth 8000
namespace Go.AM.Fd
open Nat (reduceAdd reduceEqDiff reduceLT reduceLeDiff reduceMul reduceSub)
open Go.Proofs Go.AM.F
structure SZ (H:AHeap) (z:Nat) (v:Value) (rows:List (List Value)):Prop where
 s:Sl H z v rows
 b:∀b,blk v=some b→∃o r c T,H.get b=some (.cells o r z c T)
theorem SZ.chg{H K:AHeap}{z:Nat}{v:Value}{rows:List (List Value)}{S:List Nat}(h:SZ H z v rows)(k:Chg S H K)(hS:∀b∈S,∀o r c T,H.get b≠some (.cells o r z c T)):SZ K z v rows:=by
 have hn:∀b,blk v=some b→b∉S:=fun b hb hm=>by
  obtain⟨o,r,c,T,g⟩:=h.b b hb
  exact hS b hm o r c T g
 refine⟨Sl.chg h.s k hn,fun b hb=>?_⟩
 obtain⟨o,r,c,T,g⟩:=h.b b hb
 exact⟨o,r,c,T,k.at_ g (hn b hb)⟩
theorem SZ.keeps{H K:AHeap}{z:Nat}{v:Value}{rows:List (List Value)}(h:SZ H z v rows)(k:Keeps H K):SZ K z v rows:=h.chg (k.chg []) (by simp)
theorem SZ.set{H:AHeap}{z y:Nat}{v:Value}{rows:List (List Value)}{b:Nat}{o r:Bool}{c:List Value}{T:Nat}(h:SZ H z v rows)(g:H.get b=some (.cells o r y c T))(hz:y≠z)(x:AO):SZ (H.set b x) z v rows:=
 h.chg (Chg.set H (AHeap.get_lt g) x) fun b' hb o' r' c' T' g'=>by
  simp only[List.mem_cons,List.not_mem_nil,or_false]at hb
  subst hb;rw[g]at g';injection g' with g';injection g' with _ _ e;exact hz e
theorem _root_.Go.AM.OW.other{e y z:Nat}{H K:AHeap}{v:Value}{rows:List (List Value)}(h:OW e y H K v rows)(hz:y≠z):∀b∈blkL v,∀o r c T,K.get b≠some (.cells o r z c T):=by
 intro b hb o r c T g
 rw[mem_blkL]at hb
 rcases h.ap with⟨rfl,_,_⟩|⟨b',room,rfl,_,h2⟩
 ·cases hb
 ·cases hb;rw[h2]at g;injection g with g;injection g with _ _ e;exact hz e
theorem WRr.sz{H:AHeap}{e z:Nat}{v:Value}{rows:List (List Value)}(h:WRr H e z v rows):SZ H z v rows:=by
 refine⟨h.sl,fun b hb=>?_⟩
 rcases h.1 with⟨rfl,_,_⟩|⟨b',k,room,d,rfl,_,_,_,g⟩
 ·cases hb
 ·cases hb;exact⟨_,_,_,_,g⟩
theorem _root_.Go.AM.OW.sz{e z:Nat}{H K:AHeap}{v:Value}{rows:List (List Value)}(h:OW e z H K v rows):SZ K z v rows:=by
 refine⟨h.sl,fun b hb=>?_⟩
 rcases h.ap with⟨rfl,_,_⟩|⟨b',room,rfl,_,h2⟩
 ·cases hb
 ·cases hb;exact⟨_,_,_,_,h2⟩
structure V3 where
 t:Value
 n:Value
 c:Value
def arow(L:Ly)(i:Nat)(a:V3):List Value:=[.int .i64 ((ro L i).path.getD 0 0),.int .i64 (L.g.getD (ro L i).g.toNat ([],0)).2,a.t,a.n,a.c]
structure AOk (H:AHeap) (L:Ly) (i:Nat) (a:V3):Prop where
 t:SZ H 1 a.t ((trk (ro L i)).map iRow)
 n:SZ H 2 a.n ((nds (ro L i)).map nRow)
 c:SZ H 1 a.c ((cfl L i L.r.length).map iRow)
theorem AOk.keeps{H K:AHeap}{L:Ly}{i:Nat}{a:V3}(h:AOk H L i a)(k:Keeps H K):AOk K L i a:=⟨h.t.keeps k,h.n.keeps k,h.c.keeps k⟩
theorem AOk.chg{H K:AHeap}{L:Ly}{i y:Nat}{a:V3}{S:List Nat}(h:AOk H L i a)(k:Chg S H K)(hS:∀z,y≠z→∀b∈S,∀o r c T,H.get b≠some (.cells o r z c T))(hy:2<y):AOk K L i a:=
 ⟨h.t.chg k (hS 1 (by omega)),h.n.chg k (hS 2 (by omega)),h.c.chg k (hS 1 (by omega))⟩
theorem AOk.set{H:AHeap}{L:Ly}{i:Nat}{a:V3}{b:Nat}{o r:Bool}{c:List Value}{T:Nat}(h:AOk H L i a)(g:H.get b=some (.cells o r 4 c T))(x:AO):AOk (H.set b x) L i a:=
 ⟨h.t.set g (by omega) x,h.n.set g (by omega) x,h.c.set g (by omega) x⟩
def arows(L:Ly)(ls:Nat→V3)(n:Nat):List (List Value):=(List.range n).map fun i=>arow L i (ls i)
theorem arows_s(L:Ly)(ls:Nat→V3)(n:Nat)(a:V3):arows L (fun j=>if j=n then a else ls j) (n+1)=arows L ls n++[arow L n a]:=by
 unfold arows
 rw[List.range_succ,List.map_append]
 congr 1
 ·exact List.map_congr_left fun i hi=>by
   have:=List.mem_range.1 hi
   show arow L i (if i=n then a else ls i)=_
   rw[if_neg (by omega)]
 ·simp
def amc(L:Ly)(vl vi:Value):List Value:=[vl,vi,.int .i64 ((L.s.length:Nat):Int),S32 (lowP (L.p.length:Nat))]
structure MaA (H:AHeap) (b:Nat) (L:Ly):Prop where
 x:∃vl vi ls own room T,H.get b=some (.cells own room 4 (amc L vl vi) T)∧Sl H 5 vl (arows L ls L.r.length)∧(∀i,i<L.r.length→AOk H L i (ls i))∧IL H vi (L.p.map (·.2))
theorem MaA.keeps{H K:AHeap}{b:Nat}{L:Ly}(h:MaA H b L)(k:Keeps H K):MaA K b L:=by
 obtain⟨vl,vi,ls,o,r,T,g,s,a,i⟩:=h.x
 exact⟨vl,vi,ls,o,r,T,k.at_ g,s.keeps k,fun i hi=>(a i hi).keeps k,i.keeps k⟩
theorem fillL{x y:Int}{c d e:Value}(hc:isS c=true)(hd:isS d=true)(he:isS e=true):fillA [.int .i64 0,.int .i64 0,.slice none 0 0,.slice none 0 0,.slice none 0 0] [(0,1,.int .i64 x),(1,1,.int .i64 y),(2,1,c),(3,1,d),(4,1,e)]=some [.int .i64 x,.int .i64 y,c,d,e]:=by
 cases c with
 |slice p n k=>cases d with
  |slice q m j=>cases e with
   |slice q m j=>rfl
   |_=>cases he
  |_=>cases hd
 |_=>cases hc
theorem fillL5(a b c d e:Value):fillA [.int .i64 0,.int .i64 0,.slice none 0 0,.slice none 0 0,.slice none 0 0] [(0,5,.agg #[a,b,c,d,e])]=some [a,b,c,d,e]:=rfl
theorem fillA4(n:Int):fillA [.slice none 0 0,.slice none 0 0,.int .i64 0,.int .u32 0] [(2,1,.int .i64 n)]=some [.slice none 0 0,.slice none 0 0,.int .i64 n,.int .u32 0]:=rfl
set_option maxHeartbeats 4000000 in
theorem t17{H:AHeap}{u:V4}{xs:List RV}{L:Ly}(h:LyR H u xs L)(hf:LyIn 9223372036854775807 L)(he:checkE L=0):
 ∃w H',ARun Tryz.prog 0 17 [.agg u.l.toArray] H w H'∧Keeps H H'∧∃b,w=.tuple #[ptr b 0,.int .i64 0]∧MaA H' b L:=by
 refine walk2 f17_ok f17_n ?_
 intro Q hq1 hq2
 have os:=Sl.one h.s
 have op:=Sl.one h.p
 have og:=Sl.one h.g
 have or:=Sl.one h.r
 have is:=Sl.is h.s
 have ip:=Sl.is h.p
 have ig:=Sl.is h.g
 have ir:=Sl.is h.r
 have hul:u.l=[u.s,u.p,u.g,u.r]:=rfl
 have hmay:=check_may he
 have hL:=may_lim hmay
 have hLs:=hL.s
 have hLp:=hL.p
 have hLg:=hL.g
 have hLr:=hL.r
 have hrl:=h.rlen
 have lr:=h.r.len
 have ls_:=h.s.len
 have lp:=h.p.len
 have lg:=h.g.len
 rw[hrl]at lr
 obtain⟨K0,hK0⟩:∃X,X=H.alloc (.cells true false 4 [u.s,u.p,u.g,u.r] 27):=⟨_,rfl⟩
 have k0:Keeps H K0:=by rw[hK0];exact(Keeps.refl H).alloc _
 have n0:K0.n=H.n+1:=by rw[hK0];rfl
 have gl0:K0.get H.n=some (.cells true false 4 [u.s,u.p,u.g,u.r] 27):=by rw[hK0];exact AHeap.get_alloc_new H _
 have tC:=t46 (h.keeps k0) hf
 simp only[hul]at tC ⊢
 simp(disch:=first|assumption|omega|(simp only[LN]<;>omega)|(simp(disch:=first|assumption|omega|(simp only[LN]<;>omega))only[row_alloc,row_set];assumption))only[f17,W_block,P3,seval,initFr,clsA,os,op,og,or]
 simp only[←hK0]
 refine callK tC ?_
 rintro _ X ⟨hX,ie,rfl⟩
 rw[hX,he]
 obtain⟨K1,hK1⟩:∃X,X=K0.alloc (.cells true false 4 [.slice none 0 0,.slice none 0 0,.int .i64 ((L.s.length:Nat):Int),.int .u32 0] 105):=⟨_,rfl⟩
 have k1:Keeps K0 K1:=by rw[hK1];exact(Keeps.refl K0).alloc _
 have n1:K1.n=H.n+2:=by rw[hK1];show K0.n+1=_;omega
 have gm1:K1.get (H.n+1)=some (.cells true false 4 [.slice none 0 0,.slice none 0 0,.int .i64 ((L.s.length:Nat):Int),.int .u32 0] 105):=by rw[hK1,←n0];exact AHeap.get_alloc_new K0 _
 have gl1:=k1.at_ gl0
 simp(disch:=first|assumption|omega)only[P3,seval,initFr,clsA,gl0,ls_,is,lr,ir,fillA4]
 rw[←hK1,W_block,n0]
 have hA:=(h.keeps k0).keeps k1
 refine W_loop2 (fun q fr M=>∃i vl x6 x7 x14,fr=[.agg #[u.s,u.p,u.g,u.r],ptr H.n 0,.pointer none,.int .i64 0,.int .i64 0,ptr (H.n+1) 0,x6,x7,undef,undef,.bool false,u.r,.int .i64 ((L.r.length:Nat):Int),.int .i64 ((i:Nat):Int),x14,undef,undef,undef,undef]∧
  Chg [H.n+1] K1 M∧M.get (H.n+1)=some (.cells true false 4 [vl,.slice none 0 0,.int .i64 ((L.s.length:Nat):Int),.int .u32 0] 105)∧
  (∃as_,OW 108 5 K0 M vl (arows L as_ i)∧∀j,j<i→AOk M L j (as_ j))∧i≤L.r.length∧q=L.r.length-i) L.r.length
  ⟨0,_,_,_,_,rfl,Chg.refl _ _,gm1,⟨fun _=>⟨undef,undef,undef⟩,OW.nil _ _ k1,fun j hj=>absurd hj (by omega)⟩,by omega,rfl⟩ ?_
 rintro Q' q fr M ⟨i,vl,x6,x7,x14,rfl,km,gm,⟨as_,ow,ok⟩,hi,rfl⟩ hn' hx' hret
 have gl2:=km.at_ gl1 (by simp)
 by_cases hlt:i<L.r.length
 ·obtain⟨hyr,hyo⟩:=rv_ro h (i:=i) hlt
  have hHM:Keeps H M:=(k0.trans k1).chg_trans km (by simp)
  have hM:=h.keeps hHM
  obtain⟨na,ra⟩:=hM.r.at_ (i:=i) (by omega)
  have hgood:=check_good he (List.getElem_mem hlt)
  rw[←ro_eq hlt,←hyr]at hgood
  have arw:∀a:V3,arow L i a=[.int .i64 ((ro L i).path.getD 0 0),.int .i64 (L.g.getD (ro L i).g.toNat ([],0)).2,a.t,a.n,a.c]:=fun a=>rfl
  rw[←hyr]at arw
  have mkA:∀{K:AHeap} {a:V3},SZ K 1 a.t ((trk (xs.getD i rv0).r).map iRow)→SZ K 2 a.n ((nds (xs.getD i rv0).r).map nRow)→SZ K 1 a.c ((cfl L i L.r.length).map iRow)→AOk K L i a:=fun h1 h2 h3=>⟨by rw[←hyr];exact h1,by rw[←hyr];exact h2,h3⟩
  generalize xs.getD i rv0=y at*
  have hlim:=hgood.lim
  have lP:=hlim.p
  have lO:=hlim.o
  have lQ:=hlim.q
  have lF:=hlim.f
  have h0:(0:Int)≤(i:Int):=by omega
  have h1:(i:Int)<((L.r.length:Nat):Int):=by omega
  have hw:IntKind.i64.wrap ((i:Int)+1)=((i+1:Nat):Int):=by rw[wrap_i64 (by omega) (by omega)];simp
  have rowy:y.row=[.string ⟨y.r.n.toArray⟩,.int .i64 y.r.g,y.vp,y.vq,y.vo,y.vf]:=rfl
  obtain⟨a3,a4,a5,a6⟩:=RV.ones hyo
  have a1:one1 (Value.int .i64 y.r.g)=True:=by simp[one1,one_int]
  have a2:one1 (Value.string ⟨y.r.n.toArray⟩)=True:=by simp[one1,one_str]
  obtain⟨M1,hM1⟩:∃X,X=M.alloc (.cells true false 6 y.row 49):=⟨_,rfl⟩
  have m1:M1.n=M.n+1:=by rw[hM1];rfl
  have kM1:Keeps M M1:=by rw[hM1];exact(Keeps.refl M).alloc _
  have gy1:M1.get M.n=some (.cells true false 6 y.row 49):=by rw[hM1];exact AHeap.get_alloc_new M _
  have gm1':=kM1.at_ gm
  have gl3:=kM1.at_ gl2
  have hHM1:=hHM.trans kM1
  have yo1:=hyo.keeps hHM1
  have tTr:=t30 yo1 (by omega)
  -- what is read ahead of the calls
  have iy:=Sl.is hyo.p
  have lpt:=hyo.p.len
  obtain⟨nap,rap1⟩:=yo1.p.at_ (i:=0) hgood.ne
  have p0:(0:Int)<((y.r.path.length:Nat):Int):=by have:=hgood.ne;omega
  have q1:=row_lt rap1
  obtain⟨n,hn⟩:∃n:Nat,y.r.g=(n:Int):=⟨y.r.g.toNat,by have:=hlim.g.1;omega⟩
  have hnl:n<L.g.length:=by have:=hlim.g.2;omega
  obtain⟨nag,rag1⟩:=(h.g.keeps hHM1).at_ hnl
  have q5:=row_lt rag1
  have g0:(0:Int)≤(n:Int):=by omega
  have g1:(n:Int)<((L.g.length:Nat):Int):=by omega
  have t0:Int.toNat 0=0:=rfl
  have b1:=AHeap.get_lt gm1'
  have b2:=AHeap.get_lt gy1
  have b3:=AHeap.get_lt gl3
  simp only[rowy]at ra hM1 gy1 tTr
  simp(disch:=first|assumption|omega)only[P3,seval,initFr,clsA,h1]
  rw[W_block]
  simp(disch:=first|assumption|omega|(simp only[LN]<;>omega)|(simp(disch:=first|assumption|omega|(simp only[LN]<;>omega))only[row_alloc,row_set];assumption))only[P3,seval,initFr,clsA,lr,ra,na,a_loadnvf,a1,a2,a3,a4,a5,a6]
  rw[←hM1]
  simp(disch:=first|assumption|omega|(simp only[LN]<;>omega)|(simp(disch:=first|assumption|omega|(simp only[LN]<;>omega))only[row_alloc,row_set];assumption))only[P3,seval,initFr,clsA,gm1',gl3,gy1,iy,lpt,nap,rap1,p0,t0,a_load1v,nag,rag1,g0,g1,ig,lg,hn,q1,q5,b1,b2,b3]
  simp only[hn]at gy1 tTr
  refine callK tTr ?_
  rintro tv M2 ⟨htv,kM2,ftv⟩
  have gy2:=kM2.at_ gy1
  have gm2':=kM2.at_ gm1'
  have gl4:=kM2.at_ gl3
  have c1:=kM2.get _ q1
  have c2:=kM2.get _ q5
  have m2:=kM2.n
  have l1:=AHeap.get_lt gm2'
  have l2:=AHeap.get_lt gy2
  have l3:=AHeap.get_lt gl4
  have l4:bn y.vp-1<M2.n:=by omega
  have l5:bn u.g-1<M2.n:=by omega
  simp(disch:=first|assumption|omega|(simp only[LN]<;>omega)|(simp(disch:=first|assumption|omega|(simp only[LN]<;>omega))only[row_alloc,row_set];assumption))only[P3,seval,initFr,clsA,gy1,gy2,gm1',gm2',gl3,gl4,c1,c2,l1,l2,l3,l4,l5,q1,q5,b1,b2,b3]
  have tN:=t32 (yo1.keeps kM2) (by omega)
  simp only[rowy,hn]at tN
  refine⟨by simp,callK tN ?_⟩
  rintro nv M3 ⟨hnv,kM3,fnv⟩
  have gy3:=kM3.at_ gy2
  have gm3':=kM3.at_ gm2'
  have gl5:=kM3.at_ gl4
  have c3:=kM3.get _ l4
  have c4:=kM3.get _ l5
  have m3:=kM3.n
  have o1:=AHeap.get_lt gm3'
  have o2:=AHeap.get_lt gy3
  have o3:=AHeap.get_lt gl5
  have o4:bn y.vp-1<M3.n:=by omega
  have o5:bn u.g-1<M3.n:=by omega
  have tO:=t47 (((h.keeps hHM1).keeps kM2).keeps kM3) he hf hlt
  simp only[hul]at tO
  simp(disch:=first|assumption|omega|(simp only[LN]<;>omega)|(simp(disch:=first|assumption|omega|(simp only[LN]<;>omega))only[row_alloc,row_set];assumption))only[P3,seval,initFr,clsA,gy1,gy2,gy3,gm1',gm2',gm3',gl3,gl4,gl5,c1,c2,c3,c4,l1,l2,l3,l4,l5,q1,q5,b1,b2,b3,o1,o2,o3,o4,o5]
  refine⟨by simp,callK tO ?_⟩
  rintro cv M4 owc
  have kM4:=owc.k
  have gy4:=kM4.at_ gy3
  have gm4':=kM4.at_ gm3'
  have gl6:=kM4.at_ gl5
  have d3:=kM4.get _ o4
  have d4:=kM4.get _ o5
  have m4:=kM4.n
  have r1:=AHeap.get_lt gm4'
  have r2:=AHeap.get_lt gy4
  have r3:=AHeap.get_lt gl6
  have r4:bn y.vp-1<M4.n:=by omega
  have r5:bn u.g-1<M4.n:=by omega
  have fL:=fillL (x:=y.r.path.getD 0 0) (y:=(L.g.getD n ([],0)).2) (Sl.is htv.sl) (Sl.is hnv.sl) owc.is
  have w1:=Sl.one htv.sl
  have w2:=Sl.one hnv.sl
  have w3:=owc.one
  have w4:=one_isS (Sl.is htv.sl)
  have w5:=one_isS (Sl.is hnv.sl)
  have w6:=one_isS owc.is
  have isv:=ow.is
  simp(disch:=first|assumption|omega)only[P3,seval,initFr,clsA,gy1,gy2,gy3,gy4,gm1',gm2',gm3',gm4',gl3,gl4,gl5,gl6,c1,c2,c3,c4,d3,d4,l1,l2,l3,l4,l5,q1,q5,b1,b2,b3,o1,o2,o3,o4,o5,r1,r2,r3,r4,r5,fL,fillL5,w1,w2,w3,w4,w5,w6,isv]
  have kMB:=(((kM1.trans kM2).trans kM3).trans kM4).alloc (.cells true false 5 [.int .i64 (y.r.path.getD 0 0),.int .i64 (L.g.getD n ([],0)).2,tv,nv,cv] 108)
  have owB:=ow.keeps kMB
  have bv:=ow.sep gm (by omega)
  have lvl:=ow.len
  have lar:(arows L as_ i).length=i:=by simp[arows]
  refine⟨by simp,OW.appD owB (Sl.one1 (row:=[.int .i64 (y.r.path.getD 0 0),.int .i64 (L.g.getD n ([],0)).2,tv,nv,cv]) rfl rfl) (by simp[lar];omega) ?_⟩
  intro v' K' ow' c'
  have gmK:=c'.at_ (kMB.at_ gm) (not_blkL bv)
  have hbK:=AHeap.get_lt gmK
  have bv':=ow'.sep gmK (by omega)
  have ov':=ow'.one
  simp(disch:=first|assumption|omega)only[W_block,P3,seval,initFr,clsA,gmK,hbK,ov',hw,h1]
  have kTB:Keeps M2 (M4.alloc (.cells true false 5 [.int .i64 (y.r.path.getD 0 0),.int .i64 (L.g.getD n ([],0)).2,tv,nv,cv] 108)):=(kM3.trans kM4).alloc _
  have kNB:Keeps M3 (M4.alloc (.cells true false 5 [.int .i64 (y.r.path.getD 0 0),.int .i64 (L.g.getD n ([],0)).2,tv,nv,cv] 108)):=kM4.alloc _
  have oth:=fun z (hz:5≠z)=>owB.other hz
  have new:AOk (M4.alloc (.cells true false 5 [.int .i64 (y.r.path.getD 0 0),.int .i64 (L.g.getD n ([],0)).2,tv,nv,cv] 108)) L i ⟨tv,nv,cv⟩:=mkA (htv.sz.keeps kTB) (hnv.sz.keeps kNB) (owc.sz.keeps ((Keeps.refl M4).alloc _))
  have cK:Chg [H.n+1] K1 K':=(km.trans (kMB.chg [H.n+1]) (by simp)).trans c' (fun b hb=>.inr (by
   have e1:=ow.f b (mem_blkL.1 hb)
   have e2:b≠H.n+1:=fun e=>not_blkL bv (e ▸ hb)
   omega))
  refine hn' _ _ _ ⟨i+1,v',_,_,_,rfl,cK.trans (Chg.set K' hbK _) (by simp),AHeap.get_set_same gmK _,⟨fun j=>if j=i then⟨tv,nv,cv⟩else as_ j,?_,?_⟩,by omega,rfl⟩ (by omega)
  ·rw[arows_s,arw]
   have:(ro L i).g=y.r.g:=by rw[←hyr]
   have e:=ow'.set bv' (by omega) hbK (o:=.cells true false 4 [v',.slice none 0 0,.int .i64 ((L.s.length:Nat):Int),.int .u32 0] 105)
   have hnt:(Int.toNat (n:Int))=n:=by omega
   simp only[hn,hnt]
   exact e
  ·intro j hj
   by_cases e:j=i
   ·subst e
    simp only[if_pos rfl]
    exact(new.chg c' oth (by omega)).set gmK _
   ·simp only[if_neg e]
    exact(((ok j (by omega)).keeps kMB).chg c' oth (by omega)).set gmK _
 ·have hie:i=L.r.length:=by omega
  subst hie
  have h1:¬((L.r.length:Nat):Int)<((L.r.length:Nat):Int):=by omega
  simp(disch:=first|assumption|omega)only[W_block,P3,seval,initFr,clsA,h1]
  refine hx' _ _ _ ?_
  simp(disch:=first|assumption|omega)only[P3,seval,initFr,clsA,gl2,lp,ip]
  rw[W_block]
  have pZ:Value.int .u32 0=S32 (lowP ((0:Nat):Int)):=by rw[p_zero];congr 1
  rw[pZ]at gm
  refine W_loop2 (fun q fr N=>∃i vi x8 x9 x18,fr=[.agg #[u.s,u.p,u.g,u.r],ptr H.n 0,.pointer none,.int .i64 0,.int .i64 0,ptr (H.n+1) 0,x6,x7,x8,x9,.bool false,u.r,.int .i64 ((L.r.length:Nat):Int),.int .i64 ((L.r.length:Nat):Int),.bool false,u.p,.int .i64 ((L.p.length:Nat):Int),.int .i64 ((i:Nat):Int),x18]∧
   Chg [H.n+1] M N∧N.get (H.n+1)=some (.cells true false 4 [vl,vi,.int .i64 ((L.s.length:Nat):Int),S32 (lowP (i:Nat))] 105)∧OW 3 1 K0 N vi (((L.p.map (·.2)).take i).map iRow)∧Fresh M.n vi∧i≤L.p.length∧q=L.p.length-i) L.p.length
   ⟨0,.slice none 0 0,_,_,_,rfl,Chg.refl _ _,gm,OW.nil _ _ (k1.chg_trans km (by simp;omega)),fun b hb=>(by cases hb),by omega,rfl⟩ ?_
  rintro Q2 q fr N ⟨i,vi,x8,x9,x18,rfl,cN,gmN,owl,fri,hi,rfl⟩ hn2 hx2 hret2
  have hHN:Keeps H N:=((k0.trans k1).chg_trans km (by simp)).chg_trans cN (by simp)
  by_cases hlt:i<L.p.length
  ·obtain⟨np,rp⟩:=(h.p.keeps hHN).at_ hlt
   have h0:(0:Int)≤(i:Int):=by omega
   have h2:(i:Int)<((L.p.length:Nat):Int):=by omega
   have hw:IntKind.i64.wrap ((i:Int)+1)=((i+1:Nat):Int):=by rw[wrap_i64 (by omega) (by omega)];simp
   have htk:(L.p.map (·.2)).take (i+1)=(L.p.map (·.2)).take i++[(L.p.getD i ([],0)).2]:=by
    rw[List.take_add_one,List.getElem?_map,List.getElem?_eq_getElem hlt,List.getD_eq_getElem?_getD,List.getElem?_eq_getElem hlt];rfl
   generalize L.p.getD i ([],0)=z at*
   have w1:one1 (Value.int .i64 z.2)=True:=by simp[one1,one_int]
   have w2:one1 (Value.string ⟨z.1.toArray⟩)=True:=by simp[one1,one_str]
   have isl:=owl.is
   have sh:=p_shl1 (show i<32 by omega)
   obtain⟨N1,hN1⟩:∃X,X=N.alloc (.cells true false 2 [.string ⟨z.1.toArray⟩,.int .i64 z.2] 52):=⟨_,rfl⟩
   have kN1:Keeps N N1:=by rw[hN1];exact(Keeps.refl N).alloc _
   have gmN1:=kN1.at_ gmN
   have gpN1:N1.get N.n=some (.cells true false 2 [.string ⟨z.1.toArray⟩,.int .i64 z.2] 52):=by rw[hN1];exact AHeap.get_alloc_new N _
   have t1:=AHeap.get_lt gmN1
   have t2:=AHeap.get_lt gpN1
   simp(disch:=first|assumption|omega)only[P3,seval,initFr,clsA,h2,lp,np,rp,a_loadnvf,w1,w2]
   rw[W_block]
   simp(disch:=first|assumption|omega|(simp only[LN]<;>omega)|(simp(disch:=first|assumption|omega|(simp only[LN]<;>omega))only[row_alloc,row_set];assumption))only[P3,seval,initFr,clsA,h2,lp,np,rp,a_loadnvf,w1,w2]
   rw[←hN1]
   simp(disch:=first|assumption|omega)only[P3,seval,initFr,clsA,gmN1,gpN1,isl,t1,t2]
   have bv:=owl.sep gmN (by omega)
   have kNB:=kN1.alloc (.cells true false 1 [.int .i64 z.2] 3)
   have ltk:((L.p.map (·.2)).take i).length≤32:=by simp;omega
   have hx1:Sl (N1.alloc (.cells true false 1 [.int .i64 z.2] 3)) 1 (slc N1.n 0 1 1) [[.int .i64 z.2]]:=Sl.one1 (row:=[.int .i64 z.2]) rfl rfl
   have owlB:=owl.keeps kNB
   refine appGD owlB.ap hx1.sh hx1.el (flat_len hx1.row) (by simp;omega) (fun v' K' a' c' hb'=>?_)
   have ow':=owlB.grow a' hx1.row c' hb'
   have fri':Fresh M.n v':=fun b hb=>by
    rcases hb' with e|e
    ·exact fri b (by rw[←e];exact hb)
    ·rw[e]at hb;cases hb
     have:=cN.n;have:=kNB.n;omega
   have gmK:=c'.at_ (kNB.at_ gmN) (not_blkL bv)
   have gpK:=c'.at_ (((Keeps.refl N1).alloc (.cells true false 1 [.int .i64 z.2] 3)).at_ gpN1)
   have hbK:=AHeap.get_lt gmK
   have bv':=ow'.sep gmK (by omega)
   have ov':=ow'.one
   simp(disch:=first|assumption|omega)only[W_block,P3,seval,initFr,clsA,gmK,hbK,ov',hw,h2,sh,p_or,o_s32,one_s32]
   have elow:(S32 fun j=>lowP ((i:Nat):Int) j||decide (j=i))=S32 (lowP ((i+1:Nat):Int)):=by
    congr 1;funext j;unfold lowP
    by_cases e:j=i
    ·subst e;simp;omega
    ·have:decide (((j:Nat):Int)<((i:Nat):Int))=decide (((j:Nat):Int)<((i+1:Nat):Int)):=by rw[decide_eq_decide];omega
     simp only[this,e,decide_false,Bool.or_false]
   rw[elow]
   have cK:Chg [H.n+1] M K':=(cN.trans (kNB.chg [H.n+1]) (by simp)).trans c' (fun b hb=>.inr (fri b (mem_blkL.1 hb)))
   exact hn2 _ _ _ ⟨i+1,v',_,_,_,rfl,cK.trans (Chg.set K' hbK _) (by simp),AHeap.get_set_same gmK _,by rw[htk,List.map_append];exact ow'.set bv' (by omega) hbK,fri',by omega,rfl⟩ (by omega)
  ·have hie:i=L.p.length:=by omega
   subst hie
   have h2:¬((L.p.length:Nat):Int)<((L.p.length:Nat):Int):=by omega
   simp(disch:=first|assumption|omega)only[W_block,P3,seval,initFr,clsA,h2]
   refine hx2 _ _ _ ?_
   simp(disch:=first|assumption|omega)only[W_block,P3,seval,initFr,clsA]
   have hb4:∀z,4≠z→∀b∈[H.n+1],∀o r c T,M.get b≠some (.cells o r z c T):=by
    intro z hz b hb o r c T g
    simp only[List.mem_cons,List.not_mem_nil,or_false]at hb
    subst hb;rw[gm]at g;injection g with g;injection g with _ _ e;exact hz e
   refine hq2 _ _ ⟨_,rfl,hHN,_,rfl,⟨vl,vi,as_,_,_,_,gmN,ow.sl.chg cN (fun b hb hm=>?_),fun j hj=>(ok j hj).chg cN hb4 (by omega),?_⟩⟩
   ·simp only[List.mem_cons,List.not_mem_nil,or_false]at hm
    exact not_blkL (ow.sep gm (by omega)) (mem_blkL.2 (hm ▸ hb))
   ·have:=owl.sl
    rw[List.take_of_length_le (by simp)]at this
    exact this
end Go.AM.Fd

set_option maxRecDepth 8000
namespace Go.AM.Fd
open Nat (reduceAdd reduceEqDiff reduceLT reduceLeDiff reduceMul reduceSub)
open Go.Proofs Go.AM.F
theorem mrows_len(L:Ly):(mrows L).length=L.r.length:=by simp[mrows]
theorem mrows_at{L:Ly}{i:Nat}(h:i<L.r.length){h':i<(mrows L).length}:(mrows L)[i]=mrow L i:=by simp[mrows]
set_option maxHeartbeats 1000000 in
theorem t90{H:AHeap}{v0 v1 v2 v3 v4:Value}{L:Ly}{f:Nat→Bool}{fn:Nat}{g:Nat→Nat→Bool}(hs:Sl H 6 v0 (mrows L))(hl:L.r.length≤64)
 (h1:v1.oneCell'=true) (h2:v2.oneCell'=true) (h3:v3.oneCell'=true) (h4:v4.oneCell'=true)
 (hF:∀(K:AHeap) i,i<L.r.length→∃w K',ARun Tryz.prog 0 fn [.agg (mrow L i).toArray] K w K'∧w=S32 (g i)∧K'=K):
 ∃w H',ARun Tryz.prog 0 90 [.agg #[v0,v1,v2,v3,v4],S64 f,.func (.func fn) #[] #[]] H w H'∧w=S32 (fun p=>(List.range L.r.length).any fun i=>f i&&g i p)∧H'=H:=by
 refine gci ?_
 refine walk2 f90_ok f90_n ?_
 intro Q hq1 hq2
 have h0:=Sl.one hs
 have is0:=Sl.is hs
 have len:=hs.len
 rw[mrows_len]at len
 have k0:=(Keeps.refl H).alloc (.cells true false 5 [v0,v1,v2,v3,v4] 59)
 simp(disch:=first|assumption|omega)only[f90,P3,seval,initFr,clsA,h0,h1,h2,h3,h4,is0,len]
 rw[W_block]
 refine W_loop2 (fun q fr K=>∃i x6 x7 x11 x12,fr=[.agg #[v0,v1,v2,v3,v4],S64 f,.func (.func fn) #[] #[],ptr H.n 0,.int .u32 0,S32 (fun p=>(List.range i).any fun i=>f i&&g i p),x6,x7,v0,.int .i64 ((L.r.length:Nat):Int),.int .i64 ((i:Nat):Int),x11,x12]∧
  Keeps H K∧i≤L.r.length∧q=L.r.length-i) L.r.length
  ⟨0,_,_,_,_,by rw[p_zero];rfl,k0,by omega,rfl⟩ ?_
 rintro Q' q fr K ⟨i,x6,x7,x11,x12,rfl,kK,hi,rfl⟩ hn' hx' hret
 by_cases hlt:i<L.r.length
 ·obtain⟨na,ra⟩:=(hs.keeps kK).at_ (by omega) (i:=i) (by rw[mrows_len];exact hlt)
  rw[mrows_at hlt]at ra
  have e0:(0:Int)≤(i:Int):=by omega
  have e1:(i:Int)<((L.r.length:Nat):Int):=by omega
  have hw:IntKind.i64.wrap ((i:Int)+1)=((i+1:Nat):Int):=by rw[wrap_i64 (by omega) (by omega)];simp
  have hasE:hasB f (i:Int)=f i:=by
   have a:(i:Int)<64:=by omega
   simp[hasB,a]
  have hf:=fun K=>hF K i hlt
  unfold mrow at ra hf
  have kA:=(Keeps.refl K).alloc (.cells true false 6 (mrow L i) 88)
  have ext:(S32 fun p=>(List.range (i+1)).any fun i=>f i&&g i p)=S32 (fun p=>((List.range i).any fun i=>f i&&g i p)||(f i&&g i p)):=by
   congr 1;funext p;rw[List.range_succ,List.any_append];simp
  unfold mrow at kA
  simp(disch:=first|assumption|omega|(simp only[LN]<;>omega)|(simp(disch:=first|assumption|omega|(simp only[LN]<;>omega))only[row_alloc,row_set];assumption))only[W_block,P3,seval,initFr,clsA,e1,len,na,ra,a_loadnvf,o_s64,o_s32,one_s64,one_s32]
  refine callK (t22 f _) ?_
  rintro _ X ⟨rfl,hX⟩
  rw[hX,hasE]
  cases hfi:f i with
  |false=>
   rw[hfi]at ext
   simp(disch:=first|assumption|omega)only[W_block,P3,seval,initFr,clsA,hw]
   exact hn' _ _ _ ⟨i+1,_,_,_,_,by rw[ext];simp;exact⟨rfl,rfl,rfl,rfl⟩,kK.trans kA,by omega,rfl⟩ (by omega)
  |true=>
   rw[hfi]at ext
   simp(disch:=first|assumption|omega|(simp only[LN]<;>omega)|(simp(disch:=first|assumption|omega|(simp only[LN]<;>omega))only[row_alloc,row_set];assumption))only[W_block,P3,seval,initFr,clsA,o_s64,o_s32,one_s64,one_s32,toList_arr,List.nil_append,List.append_nil,st_callv]
   refine callQ (hf _) ?_
   simp(disch:=first|assumption|omega)only[W_block,P3,seval,initFr,clsA,hw,p_or,o_s64,o_s32,one_s64,one_s32]
   exact hn' _ _ _ ⟨i+1,_,_,_,_,by rw[ext];simp;exact⟨rfl,rfl,rfl,rfl⟩,kK.trans kA,by omega,rfl⟩ (by omega)
 ·have e1:¬((i:Nat):Int)<((L.r.length:Nat):Int):=by omega
  have hie:i=L.r.length:=by omega
  subst hie
  simp(disch:=first|assumption|omega)only[W_block,P3,seval,initFr,clsA,e1]
  refine hx' _ _ _ ?_
  simp(disch:=first|assumption|omega)only[W_block,P3,seval,initFr,clsA]
  exact hq2 _ _ ⟨_,rfl,rfl,kK⟩
set_option maxHeartbeats 1000000 in
theorem t93{H:AHeap}{v0 v1 v2 v3 v4:Value}{L:Ly}{f:Nat→Bool}{fn:Nat}{g:Nat→Nat→Bool}(hs:Sl H 6 v0 (mrows L))(hl:L.r.length≤64)
 (h1:v1.oneCell'=true) (h2:v2.oneCell'=true) (h3:v3.oneCell'=true) (h4:v4.oneCell'=true)
 (hF:∀(K:AHeap) i,i<L.r.length→∃w K',ARun Tryz.prog 0 fn [.agg (mrow L i).toArray] K w K'∧w=S64 (g i)∧K'=K):
 ∃w H',ARun Tryz.prog 0 93 [.agg #[v0,v1,v2,v3,v4],S64 f,.func (.func fn) #[] #[]] H w H'∧w=S64 (fun p=>(List.range L.r.length).any fun i=>f i&&g i p)∧H'=H:=by
 refine gci ?_
 refine walk2 f93_ok f93_n ?_
 intro Q hq1 hq2
 have h0:=Sl.one hs
 have is0:=Sl.is hs
 have len:=hs.len
 rw[mrows_len]at len
 have k0:=(Keeps.refl H).alloc (.cells true false 5 [v0,v1,v2,v3,v4] 59)
 simp(disch:=first|assumption|omega)only[f93,P3,seval,initFr,clsA,h0,h1,h2,h3,h4,is0,len]
 rw[W_block]
 refine W_loop2 (fun q fr K=>∃i x6 x7 x11 x12,fr=[.agg #[v0,v1,v2,v3,v4],S64 f,.func (.func fn) #[] #[],ptr H.n 0,.int .u64 0,S64 (fun p=>(List.range i).any fun i=>f i&&g i p),x6,x7,v0,.int .i64 ((L.r.length:Nat):Int),.int .i64 ((i:Nat):Int),x11,x12]∧
  Keeps H K∧i≤L.r.length∧q=L.r.length-i) L.r.length
  ⟨0,_,_,_,_,by rw[s_zero];rfl,k0,by omega,rfl⟩ ?_
 rintro Q' q fr K ⟨i,x6,x7,x11,x12,rfl,kK,hi,rfl⟩ hn' hx' hret
 by_cases hlt:i<L.r.length
 ·obtain⟨na,ra⟩:=(hs.keeps kK).at_ (by omega) (i:=i) (by rw[mrows_len];exact hlt)
  rw[mrows_at hlt]at ra
  have e0:(0:Int)≤(i:Int):=by omega
  have e1:(i:Int)<((L.r.length:Nat):Int):=by omega
  have hw:IntKind.i64.wrap ((i:Int)+1)=((i+1:Nat):Int):=by rw[wrap_i64 (by omega) (by omega)];simp
  have hasE:hasB f (i:Int)=f i:=by
   have a:(i:Int)<64:=by omega
   simp[hasB,a]
  have hf:=fun K=>hF K i hlt
  unfold mrow at ra hf
  have kA:=(Keeps.refl K).alloc (.cells true false 6 (mrow L i) 88)
  have ext:(S64 fun p=>(List.range (i+1)).any fun i=>f i&&g i p)=S64 (fun p=>((List.range i).any fun i=>f i&&g i p)||(f i&&g i p)):=by
   congr 1;funext p;rw[List.range_succ,List.any_append];simp
  unfold mrow at kA
  simp(disch:=first|assumption|omega|(simp only[LN]<;>omega)|(simp(disch:=first|assumption|omega|(simp only[LN]<;>omega))only[row_alloc,row_set];assumption))only[W_block,P3,seval,initFr,clsA,e1,len,na,ra,a_loadnvf,o_s64,o_s32,one_s64,one_s32]
  refine callK (t22 f _) ?_
  rintro _ X ⟨rfl,hX⟩
  rw[hX,hasE]
  cases hfi:f i with
  |false=>
   rw[hfi]at ext
   simp(disch:=first|assumption|omega)only[W_block,P3,seval,initFr,clsA,hw]
   exact hn' _ _ _ ⟨i+1,_,_,_,_,by rw[ext];simp;exact⟨rfl,rfl,rfl,rfl⟩,kK.trans kA,by omega,rfl⟩ (by omega)
  |true=>
   rw[hfi]at ext
   simp(disch:=first|assumption|omega|(simp only[LN]<;>omega)|(simp(disch:=first|assumption|omega|(simp only[LN]<;>omega))only[row_alloc,row_set];assumption))only[W_block,P3,seval,initFr,clsA,o_s64,o_s32,one_s64,one_s32,toList_arr,List.nil_append,List.append_nil,st_callv]
   refine callQ (hf _) ?_
   simp(disch:=first|assumption|omega)only[W_block,P3,seval,initFr,clsA,hw,s_or,o_s64,o_s32,one_s64,one_s32]
   exact hn' _ _ _ ⟨i+1,_,_,_,_,by rw[ext];simp;exact⟨rfl,rfl,rfl,rfl⟩,kK.trans kA,by omega,rfl⟩ (by omega)
 ·have e1:¬((i:Nat):Int)<((L.r.length:Nat):Int):=by omega
  have hie:i=L.r.length:=by omega
  subst hie
  simp(disch:=first|assumption|omega)only[W_block,P3,seval,initFr,clsA,e1]
  refine hx' _ _ _ ?_
  simp(disch:=first|assumption|omega)only[W_block,P3,seval,initFr,clsA]
  exact hq2 _ _ ⟨_,rfl,rfl,kK⟩
def nor(L:Ly)(i:Nat):Nat→Bool:=ndP (nds (ro L i)) false
def rev(L:Ly)(i:Nat):Nat→Bool:=ndP (nds (ro L i)) true
theorem t91{H:AHeap}(L:Ly)(i:Nat):∃w K',ARun Tryz.prog 0 91 [.agg (mrow L i).toArray] H w K'∧w=S32 (nor L i)∧K'=H:=by
 refine gci ?_
 refine walk2 f91_ok f91_n ?_
 intro Q hq1 hq2
 have k:=(Keeps.refl H).alloc (.cells true false 6 (mrow L i) 88)
 unfold mrow at k ⊢
 simp(disch:=first|assumption|omega)only[f91,W_block,P3,seval,initFr,clsA,o_s64,o_s32,one_s64,one_s32]
 exact hq2 _ _ ⟨_,rfl,rfl,k⟩
theorem t92{H:AHeap}(L:Ly)(i:Nat):∃w K',ARun Tryz.prog 0 92 [.agg (mrow L i).toArray] H w K'∧w=S32 (rev L i)∧K'=H:=by
 refine gci ?_
 refine walk2 f92_ok f92_n ?_
 intro Q hq1 hq2
 have k:=(Keeps.refl H).alloc (.cells true false 6 (mrow L i) 88)
 unfold mrow at k ⊢
 simp(disch:=first|assumption|omega)only[f92,W_block,P3,seval,initFr,clsA,o_s64,o_s32,one_s64,one_s32]
 exact hq2 _ _ ⟨_,rfl,rfl,k⟩
theorem t94{H:AHeap}(L:Ly)(i:Nat):∃w K',ARun Tryz.prog 0 94 [.agg (mrow L i).toArray] H w K'∧w=S64 (tabP L i)∧K'=H:=by
 refine gci ?_
 refine walk2 f94_ok f94_n ?_
 intro Q hq1 hq2
 have k:=(Keeps.refl H).alloc (.cells true false 6 (mrow L i) 88)
 unfold mrow at k ⊢
 simp(disch:=first|assumption|omega)only[f94,W_block,P3,seval,initFr,clsA,o_s64,o_s32,one_s64,one_s32]
 exact hq2 _ _ ⟨_,rfl,rfl,k⟩
def anyR(L:Ly)(f:Nat→Bool)(g:Nat→Nat→Bool)(p:Nat):Bool:=(List.range L.r.length).any fun i=>f i&&g i p
structure MsR (H:AHeap) (vr vl:Value) (L:Ly):Prop where
 r:Sl H 6 vr (mrows L)
 l:Sl H 1 vl (mlies L)
theorem MsR.keeps{H K:AHeap}{vr vl:Value}{L:Ly}(h:MsR H vr vl L)(k:Keeps H K):MsR K vr vl L:=⟨h.r.keeps k,h.l.keeps k⟩
theorem t53{H:AHeap}{vr vl:Value}{L:Ly}{f:Nat→Bool}(h:MsR H vr vl L)(hl:L.r.length≤64):
 ∃w K',ARun Tryz.prog 0 53 [.agg (mcells L vr vl).toArray,S64 f] H w K'∧w=.tuple #[S32 (anyR L f (nor L)),S32 (anyR L f (rev L))]∧K'=H:=by
 suffices h':∃w K',ARun Tryz.prog 0 53 [.agg (mcells L vr vl).toArray,S64 f] H w K'∧w=.tuple #[S32 (anyR L f (nor L)),S32 (anyR L f (rev L))]∧Keeps H K' by
  obtain⟨_,_,a,rfl,k⟩:=h'
  exact⟨_,_,a.gc0 k (.inr (.tuple _ _ rfl (fun i a b=>by
   match i,a with
   |0,_=>exact .int _ _
   |1,_=>exact .int _ _))),rfl,rfl⟩
 refine walk2 f53_ok f53_n ?_
 intro Q hq1 hq2
 have r1:=Sl.one h.r
 have l1:=Sl.one h.l
 have kA:=(Keeps.refl H).alloc (.cells true false 5 (mcells L vr vl) 59)
 have hA:=h.keeps kA
 unfold mcells at kA hA ⊢
 simp(disch:=first|assumption|omega|(simp only[LN]<;>omega)|(simp(disch:=first|assumption|omega|(simp only[LN]<;>omega))only[row_alloc,row_set];assumption))only[f53,W_block,P3,seval,initFr,clsA,r1,l1,o_s64,o_s32,one_s64,one_s32]
 refine callQ (t90 hA.r hl l1 rfl rfl rfl (fun K i _=>t91 L i)) ?_
 simp(disch:=first|assumption|omega|(simp only[LN]<;>omega)|(simp(disch:=first|assumption|omega|(simp only[LN]<;>omega))only[row_alloc,row_set];assumption))only[W_block,P3,seval,initFr,clsA,r1,l1,o_s64,o_s32,one_s64,one_s32]
 refine callQ (t90 hA.r hl l1 rfl rfl rfl (fun K i _=>t92 L i)) ?_
 simp(disch:=first|assumption|omega)only[W_block,P3,seval,initFr,clsA,r1,l1,o_s64,o_s32,one_s64,one_s32]
 exact hq2 _ _ ⟨_,rfl,rfl,kA⟩
theorem t54{H:AHeap}{vr vl:Value}{L:Ly}{f:Nat→Bool}(h:MsR H vr vl L)(hl:L.r.length≤64):
 ∃w K',ARun Tryz.prog 0 54 [.agg (mcells L vr vl).toArray,S64 f] H w K'∧w=S64 (anyR L f (tabP L))∧K'=H:=by
 refine gci ?_
 refine walk2 f54_ok f54_n ?_
 intro Q hq1 hq2
 have r1:=Sl.one h.r
 have l1:=Sl.one h.l
 have kA:=(Keeps.refl H).alloc (.cells true false 5 (mcells L vr vl) 59)
 have hA:=h.keeps kA
 unfold mcells at kA hA ⊢
 simp(disch:=first|assumption|omega|(simp only[LN]<;>omega)|(simp(disch:=first|assumption|omega|(simp only[LN]<;>omega))only[row_alloc,row_set];assumption))only[f54,W_block,P3,seval,initFr,clsA,r1,l1,o_s64,o_s32,one_s64,one_s32]
 refine callQ (t93 hA.r hl l1 rfl rfl rfl (fun K i _=>t94 L i)) ?_
 simp(disch:=first|assumption|omega)only[W_block,P3,seval,initFr,clsA,o_s64]
 exact hq2 _ _ ⟨_,rfl,rfl,kA⟩
def MaR(H:AHeap)(b:Nat)(L:Ly):Prop:=∃vr vl own room T,H.get b=some (.cells own room 5 (mcells L vr vl) T)∧MsR H vr vl L
theorem MaR.keeps{H K:AHeap}{b:Nat}{L:Ly}(h:MaR H b L)(k:Keeps H K):MaR K b L:=by
 obtain⟨vr,vl,o,r,T,g,m⟩:=h
 exact⟨vr,vl,o,r,T,k.at_ g,m.keeps k⟩
def MaF(n:Nat)(H:AHeap)(b:Nat)(L:Ly):Prop:=∃vr vl own room T,(n≤b∧Fresh n vr∧Fresh n vl)∧H.get b=some (.cells own room 5 (mcells L vr vl) T)∧MsR H vr vl L
theorem MaF.r{n:Nat}{H:AHeap}{b:Nat}{L:Ly}(h:MaF n H b L):MaR H b L:=by
 obtain⟨vr,vl,o,r,T,_,g,m⟩:=h
 exact⟨vr,vl,o,r,T,g,m⟩
theorem MaF.base{n m:Nat}{H:AHeap}{b:Nat}{L:Ly}(h:MaF n H b L)(hm:m≤n):MaF m H b L:=by
 obtain⟨vr,vl,o,r,T,⟨f1,f2,f3⟩,g⟩:=h
 exact⟨vr,vl,o,r,T,⟨by omega,fun b hb=>Nat.le_trans hm (f2 b hb),fun b hb=>Nat.le_trans hm (f3 b hb)⟩,g⟩
theorem MaF.same{n:Nat}{H K:AHeap}{b:Nat}{L:Ly}(h:MaF n H b L)(k:∀c,n≤c→c<H.n→K.get c=H.get c):MaF n K b L:=by
 obtain⟨vr,vl,o,r,T,⟨f1,f2,f3⟩,g,m⟩:=h
 exact⟨vr,vl,o,r,T,⟨f1,f2,f3⟩,by rw[k b f1 (AHeap.get_lt g)];exact g,⟨m.r.get' fun c hc hl=>k c (f2 c hc) hl,m.l.get' fun c hc hl=>k c (f3 c hc) hl⟩⟩
theorem fill5(a b c d e:Value):fillA [.slice none 0 0,.slice none 0 0,.int .u64 0,.int .u32 0,.int .u64 0] [(0,5,.agg #[a,b,c,d,e])]=some [a,b,c,d,e]:=rfl
theorem t5{H:AHeap}{u:V4}{xs:List RV}{L:Ly}(h:LyR H u xs L)(hf:LyIn 9223372036854775807 L):
 ∃w H',ARun Tryz.prog 0 5 [.agg u.l.toArray] H w H'∧Keeps H H'∧(checkE L≠0→w=.tuple #[.pointer none,.int .i64 (checkE L)])∧
  (checkE L=0→∃b,w=.tuple #[ptr b 0,.int .i64 0]∧MaF H.n H' b L):=by
 refine walk2 f5_ok f5_n ?_
 intro Q hq1 hq2
 have os:=Sl.one h.s
 have op:=Sl.one h.p
 have og:=Sl.one h.g
 have or:=Sl.one h.r
 have hul:u.l=[u.s,u.p,u.g,u.r]:=rfl
 have kA:=(Keeps.refl H).alloc (.cells true false 4 u.l 27)
 have tM:=t12 (h.keeps kA) hf
 simp only[hul]at kA tM ⊢
 simp(disch:=first|assumption|omega|(simp only[LN]<;>omega)|(simp(disch:=first|assumption|omega|(simp only[LN]<;>omega))only[row_alloc,row_set];assumption))only[f5,W_block,P3,seval,initFr,clsA,os,op,og,or]
 refine callK tM ?_
 rintro _ K1 ⟨k1,e1,e2⟩
 by_cases he:checkE L=0
 case neg=>
  rw[e1 he]
  have ne:(checkE L != 0)=true:=by simp[he]
  simp(disch:=first|assumption|omega|(simp only[LN]<;>omega)|(simp(disch:=first|assumption|omega|(simp only[LN]<;>omega))only[row_alloc,row_set];assumption))only[W_block,P3,seval,initFr,clsA,ne]
  exact hq2 _ _ ⟨_,rfl,(kA.trans k1).alloc _,fun _=>rfl,fun e=>absurd e he⟩
 case pos=>
 obtain⟨vr,vl,rfl,sr,sl,fr,fl⟩:=e2 he
 have r1:=Sl.one sr
 have l1:=Sl.one sl
 unfold mcells
 have k2:=((Keeps.refl K1).alloc (.cells true false 5 (mcells L vr vl) 59)).alloc (.cells true false 5 (mcells L vr vl) 63)
 have g2:=AHeap.get_alloc_new (K1.alloc (.cells true false 5 (mcells L vr vl) 59)) (.cells true false 5 (mcells L vr vl) 63)
 have n1:=kA.n
 have n2:=k1.n
 have nA:(H.alloc (.cells true false 4 u.l 27)).n=H.n+1:=rfl
 have m2:MaF H.n ((K1.alloc (.cells true false 5 (mcells L vr vl) 59)).alloc (.cells true false 5 (mcells L vr vl) 63)) (K1.n+1) L:=⟨vr,vl,_,_,_,⟨by simp only[alloc_n]at*;omega,fun b hb=>Nat.le_trans (by simp only[alloc_n]at*;omega) (fr b hb),fun b hb=>Nat.le_trans (by simp only[alloc_n]at*;omega) (fl b hb)⟩,g2,(MsR.mk sr sl).keeps k2⟩
 unfold mcells at k2 m2
 simp(disch:=first|assumption|omega|(simp only[LN]<;>omega)|(simp(disch:=first|assumption|omega|(simp only[LN]<;>omega))only[row_alloc,row_set];assumption))only[W_block,P3,seval,initFr,clsA,r1,l1,o_s64,o_s32,one_s64,one_s32,fill5]
 exact hq2 _ _ ⟨_,rfl,(kA.trans k1).trans k2,fun e=>absurd he e,fun _=>⟨_,rfl,m2⟩⟩
end Go.AM.Fd

set_option maxRecDepth 8000
namespace Go.AM.Fd
open Go.Proofs Go.AM.F
structure Sta where
 lo:Nat→Bool
 us:Nat→Bool
 ca:Nat→Bool
 ti:Nat→Nat
 po:Nat→Bool
def tis(t:Nat→Nat):List Value:=(List.range 64).map fun i=>Value.int .u8 (t i:Nat)
def stl(s:Sta):List Value:=S64 s.lo::S64 s.us::S64 s.ca::(tis s.ti++[S32 s.po])
theorem tis_len(t:Nat→Nat):(tis t).length=64:=by simp[tis]
theorem tis_at{t:Nat→Nat}{i:Nat}(h:i<64):(tis t)[i]? =some (.int .u8 (t i:Nat)):=by simp[tis,h]
theorem stl_len(s:Sta):(stl s).length=68:=by simp[stl,tis_len]
theorem stl_0(s:Sta):(stl s)[0]? =some (S64 s.lo):=rfl
theorem stl_1(s:Sta):(stl s)[1]? =some (S64 s.us):=rfl
theorem stl_2(s:Sta):(stl s)[2]? =some (S64 s.ca):=rfl
theorem stl_67(s:Sta):(stl s)[67]? =some (S32 s.po):=by
 show(tis s.ti++[S32 s.po])[64]? =_
 rw[List.getElem?_append_right (by rw[tis_len];omega),tis_len];rfl
theorem stl_t(s:Sta){i:Nat}(h:i<64):(stl s)[3+i]? =some (.int .u8 (s.ti i:Nat)):=by
 rw[Nat.add_comm]
 show(tis s.ti++[S32 s.po])[i]? =_
 rw[List.getElem?_append_left (by rw[tis_len];omega),tis_at h]
theorem set_0(s:Sta)(f:Nat→Bool):(stl s).set 0 (S64 f)=stl {s with lo:=f}:=rfl
theorem set_1(s:Sta)(f:Nat→Bool):(stl s).set 1 (S64 f)=stl {s with us:=f}:=rfl
theorem set_2(s:Sta)(f:Nat→Bool):(stl s).set 2 (S64 f)=stl {s with ca:=f}:=rfl
theorem set_67(s:Sta)(f:Nat→Bool):(stl s).set 67 (S32 f)=stl {s with po:=f}:=by
 show _::_::_::((tis s.ti++[S32 s.po]).set 64 (S32 f))=_
 rw[List.set_append_right _ _ (by rw[tis_len];omega),tis_len];rfl
def upd(t:Nat→Nat)(i n:Nat)(j:Nat):Nat:=if j=i then n else t j
theorem tis_set(t:Nat→Nat)(i n:Nat):(tis t).set i (.int .u8 (n:Nat))=tis (upd t i n):=by
 apply List.ext_getElem?
 intro j
 rw[List.getElem?_set,tis_len]
 by_cases e:i=j
 ·subst e
  by_cases h:i<64
  ·rw[if_pos rfl,if_pos h,tis_at h];simp[upd]
  ·rw[if_pos rfl,if_neg h];simp[tis,h]
 ·rw[if_neg e]
  have e2:¬j=i:=fun x=>e x.symm
  by_cases h:j<64
  ·rw[tis_at h,tis_at h];simp[upd,e2]
  ·simp[tis,h]
theorem set_t(s:Sta){i:Nat}(h:i<64)(n:Nat):(stl s).set (3+i) (.int .u8 (n:Nat))=stl {s with ti:=upd s.ti i n}:=by
 rw[Nat.add_comm]
 show _::_::_::((tis s.ti++[S32 s.po]).set i _)=_
 rw[List.set_append_left _ _ (by rw[tis_len];omega),tis_set];rfl
theorem set_t0(s:Sta){i:Nat}(h:i<64):(stl s).set (3+i) (.int .u8 0)=stl {s with ti:=upd s.ti i 0}:=set_t s h 0
theorem set_t20(s:Sta){i:Nat}(h:i<64):(stl s).set (3+i) (.int .u8 20)=stl {s with ti:=upd s.ti i 20}:=set_t s h 20
theorem stl_arr(s:Sta):((stl s).drop 3).take 64=tis s.ti:=by
 show(tis s.ti++[S32 s.po]).take 64=_
 rw[List.take_append_of_le_length (by rw[tis_len];omega),List.take_of_length_le (by rw[tis_len];omega)]
theorem tis_one(t:Nat→Nat):(tis t).all Value.oneCell'=true:=by
 rw[List.all_eq_true];intro x hx
 obtain⟨i,_,rfl⟩:=List.mem_map.1 hx
 rfl
theorem stl_one(s:Sta):(stl s).all Value.oneCell'=true:=by
 show(true&&(true&&(true&&(tis s.ti++[S32 s.po]).all Value.oneCell')))=true
 rw[List.all_append,tis_one];rfl
def Sta0:Sta:=⟨fun _=>false,fun _=>false,fun _=>false,fun _=>0,fun _=>false⟩
theorem stl_zero:[.int .u64 0,.int .u64 0,.int .u64 0]++List.replicate 64 (.int .u8 0)++[.int .u32 0]=stl Sta0:=by
 show Value.int .u64 0::Value.int .u64 0::Value.int .u64 0::(List.replicate 64 (.int .u8 0)++[.int .u32 0])=_
 rw[s_zero,p_zero]
 show _=S64 _::S64 _::S64 _::(tis (fun _=>0)++[S32 _])
 have:tis (fun _=>0)=List.replicate 64 (.int .u8 0):=by
  unfold tis;rw[List.map_const'];simp
 rw[this];rfl
theorem rng_stl(s:Sta)(o r:Bool)(T:Nat):rangeO (some (.cells o r 68 (stl s) T)) 3 64=some (tis s.ti):=by
 rw[rangeO_c,if_pos (by rw[stl_len];omega),stl_arr]
theorem a_idxt(H:AHeap)(t:Nat→Nat)(i:Nat)(h:i<64):asem (.idxa false 1 64 (.agg (tis t).toArray) (.int .i64 (i:Int))) H=some (.int .u8 (t i:Nat),H):=by
 simp only[asem]
 rw[if_pos ⟨by omega,by omega⟩]
 have:Int.toNat (i:Int)=i:=by omega
 simp[this,tis_at h]
def sti(s:Sta):List Int:=((bitsN s.lo 64:Nat):Int)::((bitsN s.us 64:Nat):Int)::((bitsN s.ca 64:Nat):Int)::((List.range 64).map (fun i=>(s.ti i:Int))++[((bitsN s.po 32:Nat):Int)])
def staB(s t:Sta):Bool:=decide (sti s=sti t)
theorem eqCs_ints:∀(ks:List IntKind) (xs ys:List Int),xs.length=ks.length→ys.length=ks.length→eqCs (List.replicate ks.length 1) (List.zipWith Value.int ks xs) (List.zipWith Value.int ks ys)=some (decide (xs=ys))
 |[],[],[],_,_=>by simp[eqCs]
 |k::ks,x::xs,y::ys,h1,h2=>by
  have ih:=eqCs_ints ks xs ys (by simpa using h1) (by simpa using h2)
  simp only[List.length_cons,List.replicate_succ,List.zipWith_cons_cons,eqCs,eqC,if_true,ih]
  congr 1
  rw[Bool.eq_iff_iff];simp
 |[],_::_,_,h,_=>by simp at h
 |[],[],_::_,_,h=>by simp at h
 |_::_,[],_,h,_=>by simp at h
 |_::_,_::_,[],_,h=>by simp at h
def K68:List IntKind:=.u64:: .u64:: .u64::(List.replicate 64 .u8++[.u32])
theorem zip_rep{k:IntKind}:∀(l:List Int),List.zipWith Value.int (List.replicate l.length k) l=l.map (Value.int k)
 |[]=>rfl
 |a::l=>by rw[List.length_cons,List.replicate_succ,List.zipWith_cons_cons,zip_rep l];rfl
theorem stl_zip(s:Sta):stl s=List.zipWith Value.int K68 (sti s):=by
 have h:((List.range 64).map (fun i=>(s.ti i:Int))).length=64:=by simp
 have e:=zip_rep (k:=.u8) ((List.range 64).map (fun i=>(s.ti i:Int)))
 rw[h]at e
 show _::_::_::(tis s.ti++[S32 s.po])=_::_::_::List.zipWith Value.int (List.replicate 64 .u8++[.u32]) (_++[_])
 rw[List.zipWith_append (by simp),e]
 simp[tis,S64,S32]
theorem eq_stl(H:AHeap)(neg:Bool)(s t:Sta):asem (.eqs (List.replicate 68 1) neg (.agg (stl s).toArray) (.agg (stl t).toArray)) H=some (.bool (if neg then !staB s t else staB s t),H):=by
 simp only[asem]
 have:=eqCs_ints K68 (sti s) (sti t) (by simp[K68,sti]) (by simp[K68,sti])
 have hk:K68.length=68:=by simp[K68]
 rw[hk,←stl_zip,←stl_zip]at this
 rw[this];rfl
end Go.AM.Fd

set_option maxRecDepth 100000
set_option maxHeartbeats 0
namespace Go.AM.F
def Z68G:List Value:=[(.int .u64 0),(.int .u64 0),(.int .u64 0)]++List.replicate 64 (.int .u8 0)++[(.int .u32 0)]
def zclG:TypeId→List Value
 |88=>[(.int .u64 0),(.int .u64 0),(.int .u64 0),(.int .u32 0),(.int .u32 0),(.int .u64 0)]
 |37=>Z68G
 |68=>[(.int .u64 0),(.int .u32 0)]
 |39=>[(.int .u8 0),(.int .i64 0)]
 |35=>[(.int .u32 0)]
 |_=>[]
def zvlG:TypeId→Value
 |_=>undef
def zklG:TypeId→List Nat
 |_=>[]
def zrlG:Nat→TypeId→List Value
 |_,_=>[]
noncomputable def f33:AFunc:=by
 refine(fun(_:Cz zclG zvlG zklG zrlG Go.Proofs.Tryz.prog 0 [0,1,2,3,7,8,9,10,11,12,13,18,19,29,79,117,136,143,183] 33 ?a)=>?a) ?h
 case h=>
 intro zc zv zk zr hc hv hk hr
 conv=>lhs;cbv;try simp only[hc,hv,hk,hr,zclG,zvlG,zklG,zrlG]
theorem f33_ok:compF Go.Proofs.Tryz.prog 0 [0,1,2,3,7,8,9,10,11,12,13,18,19,29,79,117,136,143,183] 33=some f33:=by kernel_rfl
theorem f33_n:argsOK Go.Proofs.Tryz.prog 33 4=true:=by kernel_rfl
noncomputable def f34:AFunc:=by
 refine(fun(_:Cz zclG zvlG zklG zrlG Go.Proofs.Tryz.prog 0 [0,1,4,5,6,7,8,9,10,11,18] 34 ?a)=>?a) ?h
 case h=>
 intro zc zv zk zr hc hv hk hr
 conv=>lhs;cbv;try simp only[hc,hv,hk,hr,zclG,zvlG,zklG,zrlG]
theorem f34_ok:compF Go.Proofs.Tryz.prog 0 [0,1,4,5,6,7,8,9,10,11,18] 34=some f34:=by kernel_rfl
theorem f34_n:argsOK Go.Proofs.Tryz.prog 34 2=true:=by kernel_rfl
noncomputable def f35:AFunc:=by
 refine(fun(_:Cz zclG zvlG zklG zrlG Go.Proofs.Tryz.prog 0 [0,1,2,4,5] 35 ?a)=>?a) ?h
 case h=>
 intro zc zv zk zr hc hv hk hr
 conv=>lhs;cbv;try simp only[hc,hv,hk,hr,zclG,zvlG,zklG,zrlG]
theorem f35_ok:compF Go.Proofs.Tryz.prog 0 [0,1,2,4,5] 35=some f35:=by kernel_rfl
theorem f35_n:argsOK Go.Proofs.Tryz.prog 35 3=true:=by kernel_rfl
noncomputable def f36:AFunc:=by
 refine(fun(_:Cz zclG zvlG zklG zrlG Go.Proofs.Tryz.prog 0 [0,1,2,4,5] 36 ?a)=>?a) ?h
 case h=>
 intro zc zv zk zr hc hv hk hr
 conv=>lhs;cbv;try simp only[hc,hv,hk,hr,zclG,zvlG,zklG,zrlG]
theorem f36_ok:compF Go.Proofs.Tryz.prog 0 [0,1,2,4,5] 36=some f36:=by kernel_rfl
theorem f36_n:argsOK Go.Proofs.Tryz.prog 36 3=true:=by kernel_rfl
noncomputable def f37:AFunc:=by
 refine(fun(_:Cz zclG zvlG zklG zrlG Go.Proofs.Tryz.prog 0 [0,1,4,5,6,7,8,9,10,11,18] 37 ?a)=>?a) ?h
 case h=>
 intro zc zv zk zr hc hv hk hr
 conv=>lhs;cbv;try simp only[hc,hv,hk,hr,zclG,zvlG,zklG,zrlG]
theorem f37_ok:compF Go.Proofs.Tryz.prog 0 [0,1,4,5,6,7,8,9,10,11,18] 37=some f37:=by kernel_rfl
theorem f37_n:argsOK Go.Proofs.Tryz.prog 37 2=true:=by kernel_rfl
noncomputable def f38:AFunc:=by
 refine(fun(_:Cz zclG zvlG zklG zrlG Go.Proofs.Tryz.prog 0 [0,1,4] 38 ?a)=>?a) ?h
 case h=>
 intro zc zv zk zr hc hv hk hr
 conv=>lhs;cbv;try simp only[hc,hv,hk,hr,zclG,zvlG,zklG,zrlG]
theorem f38_ok:compF Go.Proofs.Tryz.prog 0 [0,1,4] 38=some f38:=by kernel_rfl
theorem f38_n:argsOK Go.Proofs.Tryz.prog 38 2=true:=by kernel_rfl
noncomputable def f40:AFunc:=by
 refine(fun(_:Cz zclG zvlG zklG zrlG Go.Proofs.Tryz.prog 0 [0,1,2,3] 40 ?a)=>?a) ?h
 case h=>
 intro zc zv zk zr hc hv hk hr
 conv=>lhs;cbv;try simp only[hc,hv,hk,hr,zclG,zvlG,zklG,zrlG]
theorem f40_ok:compF Go.Proofs.Tryz.prog 0 [0,1,2,3] 40=some f40:=by kernel_rfl
theorem f40_n:argsOK Go.Proofs.Tryz.prog 40 1=true:=by kernel_rfl
noncomputable def f41:AFunc:=by
 refine(fun(_:Cz zclG zvlG zklG zrlG Go.Proofs.Tryz.prog 0 [0,1,2,3,5,6] 41 ?a)=>?a) ?h
 case h=>
 intro zc zv zk zr hc hv hk hr
 conv=>lhs;cbv;try simp only[hc,hv,hk,hr,zclG,zvlG,zklG,zrlG]
theorem f41_ok:compF Go.Proofs.Tryz.prog 0 [0,1,2,3,5,6] 41=some f41:=by kernel_rfl
theorem f41_n:argsOK Go.Proofs.Tryz.prog 41 4=true:=by kernel_rfl
noncomputable def f69:AFunc:=by
 refine(fun(_:Cz zclG zvlG zklG zrlG Go.Proofs.Tryz.prog 0 [0,1,4] 69 ?a)=>?a) ?h
 case h=>
 intro zc zv zk zr hc hv hk hr
 conv=>lhs;cbv;try simp only[hc,hv,hk,hr,zclG,zvlG,zklG,zrlG]
theorem f69_ok:compF Go.Proofs.Tryz.prog 0 [0,1,4] 69=some f69:=by kernel_rfl
theorem f69_n:argsOK Go.Proofs.Tryz.prog 69 2=true:=by kernel_rfl
noncomputable def f15:AFunc:=by
 refine(fun(_:Cz zclG zvlG zklG zrlG Go.Proofs.Tryz.prog 0 [0,1,2,4,5,6,7,8,9,10,11,12,13,14,15,17,19,20,21,22,24,33,34,35,36,41,81,82,83,84,96,97,98,99] 15 ?a)=>?a) ?h
 case h=>
 intro zc zv zk zr hc hv hk hr
 conv=>lhs;cbv;try simp only[hc,hv,hk,hr,zclG,zvlG,zklG,zrlG]
theorem f15_ok:compF Go.Proofs.Tryz.prog 0 [0,1,2,4,5,6,7,8,9,10,11,12,13,14,15,17,19,20,21,22,24,33,34,35,36,41,81,82,83,84,96,97,98,99] 15=some f15:=by kernel_rfl
theorem f15_n:argsOK Go.Proofs.Tryz.prog 15 3=true:=by kernel_rfl
end Go.AM.F

set_option maxRecDepth 8000
namespace Go.AM.Fd
open Nat (reduceAdd reduceEqDiff reduceLT reduceLeDiff reduceMul reduceSub)
open Go.Proofs Go.AM.F
theorem Z68F_z:Z68F=stl Sta0:=stl_zero
theorem O68F_r:O68F=List.replicate 68 1:=rfl
theorem plain_stl(s:Sta):(stl s).all plain1=true:=by
 show(true&&(true&&(true&&(tis s.ti++[S32 s.po]).all plain1)))=true
 rw[List.all_append]
 have:(tis s.ti).all plain1=true:=by
  rw[List.all_eq_true];intro x hx
  obtain⟨i,_,rfl⟩:=List.mem_map.1 hx
  rfl
 rw[this];rfl
theorem nv_stl(ρ:Nat→Option Nat)(s:Sta):NV ρ (.agg (stl s).toArray) (.agg (stl s).toArray):=NV.agg_of (NL.plain (plain_stl s))
theorem gcst{P:Program}{ng:Nat}{f:FuncId}{xs:List Value}{H:AHeap}{s:Sta}(h:∃w H',ARun P ng f xs H w H'∧w=.agg (stl s).toArray∧Keeps H H'):∃w H',ARun P ng f xs H w H'∧w=.agg (stl s).toArray∧H'=H:=by
 obtain⟨_,_,a,rfl,k⟩:=h
 exact⟨_,_,a.gc0 k (.inr (nv_stl _ _)),rfl,rfl⟩
def tidyS(L:Ly)(s:Sta):Sta where
 lo:=fun i=>s.lo i&&lowP L.r.length i
 us:=fun i=>s.us i&&(s.lo i&&lowP L.r.length i)
 ca:=fun i=>s.ca i&&(s.lo i&&lowP L.r.length i)
 ti:=fun i=>if s.ca i&&(s.lo i&&lowP L.r.length i)then min (s.ti i) 20 else 0
 po:=fun i=>s.po i&&lowP L.p.length i
theorem stl_ext{s t:Sta}(h1:∀i,i<64→s.lo i=t.lo i)(h2:∀i,i<64→s.us i=t.us i)(h3:∀i,i<64→s.ca i=t.ca i)(h4:∀i,i<64→s.ti i=t.ti i)(h5:∀i,i<32→s.po i=t.po i):stl s=stl t:=by
 unfold stl
 rw[s64_ext h1,s64_ext h2,s64_ext h3,s32_ext h5]
 have:tis s.ti=tis t.ti:=by
  unfold tis
  apply List.map_congr_left
  intro i hi
  rw[h4 i (List.mem_range.1 hi)]
 rw[this]
theorem has_nat(f:Nat→Bool){i:Nat}(h:i<64):hasB f (i:Int)=f i:=by
 have a:(i:Int)<64:=by omega
 simp[hasB,a]
theorem rng68(s:Sta)(o r:Bool)(T:Nat):rangeO (some (.cells o r 68 (stl s) T)) 0 68=some (stl s):=rng_full (stl_len s)
theorem stn68(H:AHeap)(b:Nat)(s:Sta)(c:List Value)(hc:c.length=68)(r:Bool)(T:Nat):stnO H b 0 68 (stl s) (some (.cells true r 68 c T))=some (undef,H.set b (.cells true r 68 (stl s) T)):=by
 rw[stn_full hc,if_pos ⟨stl_len s,stl_one s⟩]
theorem stn68s(H:AHeap)(b:Nat)(s t:Sta)(r:Bool)(T:Nat):stnO H b 0 68 (stl s) (some (.cells true r 68 (stl t) T))=some (undef,H.set b (.cells true r 68 (stl s) T)):=stn68 H b s _ (stl_len t) r T
def tidT(s:Sta)(L:Ly)(i:Nat):Sta where
 lo:=fun i=>s.lo i&&lowP L.r.length i
 us:=fun i=>s.us i&&(s.lo i&&lowP L.r.length i)
 ca:=fun i=>s.ca i&&(s.lo i&&lowP L.r.length i)
 ti:=fun j=>if j<i then(tidyS L s).ti j else s.ti j
 po:=fun i=>s.po i&&lowP L.p.length i
set_option maxHeartbeats 2000000 in
theorem t8{H:AHeap}{b:Nat}{L:Ly}(h:MaR H b L)(s:Sta):∃w H',ARun Tryz.prog 0 8 [ptr b 0,.agg (stl s).toArray] H w H'∧w=.agg (stl (tidyS L s)).toArray∧H'=H:=by
 refine gcst ?_
 refine walk2 f8_ok f8_n ?_
 intro Q hq1 hq2
 obtain⟨vr,vl,own,room,T,gb,ms⟩:=h
 obtain⟨K0,hK0⟩:∃X,X=(H.alloc (.cells true false 68 (stl s) 37)).alloc (.cells true false 68 (stl Sta0) 37):=⟨_,rfl⟩
 have k0:Keeps H K0:=by rw[hK0];exact((Keeps.refl H).alloc _).alloc _
 have n0:K0.n=H.n+2:=by rw[hK0];rfl
 have gs0:K0.get H.n=some (.cells true false 68 (stl s) 37):=by rw[hK0];exact((Keeps.refl _).alloc _).at_ (AHeap.get_alloc_new H _)
 have gw0:K0.get (H.n+1)=some (.cells true false 68 (stl Sta0) 37):=by rw[hK0];exact AHeap.get_alloc_new (H.alloc _) _
 have gb0:=k0.at_ gb
 unfold mcells at gb0
 have hbl:=AHeap.get_lt gb
 have hbl2:b<H.n+1:=by omega
 have hb1:¬b=H.n:=by omega
 have hb2:¬b=H.n+1:=by omega
 have gb':=gb
 unfold mcells at gb'
 simp(disch:=first|assumption|omega|(simp only[LN]<;>omega)|(simp(disch:=first|assumption|omega|(simp only[LN]<;>omega))only[row_alloc,row_set];assumption))only[f8,P3,seval,initFr,clsA,stl_one,stl_len,Z68F_z,stl_0,stl_1,stl_2,stl_67,set_0,set_1,set_2,set_67,gb',hbl,hbl2,hb1,hb2,s_and,p_and,one_s64,one_s32,o_s64,o_s32,rng_stl]
 rw[W_block]
 obtain⟨K1,hK1⟩:∃X,X=(H.alloc (.cells true false 68 (stl (tidT s L 0)) 37)).alloc (.cells true false 68 (stl Sta0) 37):=⟨_,rfl⟩
 have k1:Keeps H K1:=by rw[hK1];exact((Keeps.refl H).alloc _).alloc _
 have gs1:K1.get H.n=some (.cells true false 68 (stl (tidT s L 0)) 37):=by rw[hK1];exact((Keeps.refl _).alloc _).at_ (AHeap.get_alloc_new H _)
 have gw1:K1.get (H.n+1)=some (.cells true false 68 (stl Sta0) 37):=by rw[hK1];exact AHeap.get_alloc_new (H.alloc _) _
 have eT:(⟨fun i=>s.lo i&&lowP L.r.length i,fun i=>s.us i&&(s.lo i&&lowP L.r.length i),fun i=>s.ca i&&(s.lo i&&lowP L.r.length i),s.ti,fun i=>s.po i&&lowP L.p.length i⟩:Sta)=tidT s L 0:=by simp[tidT]
 rw[eT,←hK1]
 refine W_loop2 (fun q fr K=>∃i x4 x5 x9 x10,fr=[ptr b 0,.agg (stl s).toArray,ptr H.n 0,ptr (H.n+1) 0,x4,x5,.bool false,.agg (tis s.ti).toArray,.int .i64 ((i:Nat):Int),x9,x10]∧
  Keeps H K∧K.get H.n=some (.cells true false 68 (stl (tidT s L i)) 37)∧K.get (H.n+1)=some (.cells true false 68 (stl Sta0) 37)∧i≤64∧q=64-i) 64
  ⟨0,_,_,_,_,rfl,k1,gs1,gw1,by omega,rfl⟩ ?_
 rintro Q' q fr K ⟨i,x4,x5,x9,x10,rfl,kK,gs,gw,hi,rfl⟩ hn' hx' hret
 have hs1:=AHeap.get_lt gs
 have hw1:=AHeap.get_lt gw
 by_cases hlt:i<64
 ·have e0:(0:Int)≤(i:Int):=by omega
  have e1:(i:Int)<64:=by omega
  have hw:IntKind.i64.wrap ((i:Int)+1)=((i+1:Nat):Int):=by rw[wrap_i64 (by omega) (by omega)];simp
  have ix:=a_idxt K s.ti i hlt
  have st0:=set_t0 (tidT s L i) hlt
  have hll:3+i<68:=by omega
  simp(disch:=first|assumption|omega)only[W_block,P3,seval,initFr,clsA,e0,e1,ix,a_iaddrp,gs,stl_len,st0,hll,Int.toNat_natCast,Nat.mul_one,stl_2]
  refine callK (t22 _ _) ?_
  rintro _ X ⟨rfl,hX⟩
  rw[hX,has_nat _ hlt]
  have hca:(tidT s L i).ca i=(s.ca i&&(s.lo i&&lowP L.r.length i)):=rfl
  have htt:(tidyS L s).ti i=if s.ca i&&(s.lo i&&lowP L.r.length i)then min (s.ti i) 20 else 0:=rfl
  rw[←hca]at htt
  have low:∀j,j<i→(tidT s L i).ti j=(tidT s L (i+1)).ti j:=fun j hj=>by
   show(if j<i then _ else _)=(if j<i+1 then _ else _)
   rw[if_pos hj,if_pos (by omega)]
  have up:∀j,i<j→(tidT s L i).ti j=(tidT s L (i+1)).ti j:=fun j hj=>by
   show(if j<i then _ else _)=(if j<i+1 then _ else _)
   rw[if_neg (by omega),if_neg (by omega)]
  have at_:(tidT s L (i+1)).ti i=(tidyS L s).ti i:=by
   show(if i<i+1 then _ else _)=_
   rw[if_pos (by omega)]
  cases hc:(tidT s L i).ca i with
  |false=>
   rw[hc]at htt
   simp(disch:=first|assumption|omega)only[W_block,P3,seval,initFr,clsA,hw]
   refine hn' _ _ _ ⟨i+1,_,_,_,_,rfl,kK.set (Nat.le_refl _) hs1 _,?_,by rw[AHeap.get_set_other K (by omega) hs1];exact gw,by omega,rfl⟩ (by omega)
   rw[AHeap.get_set_same gs]
   congr 2
   refine stl_ext (fun _ _=>rfl) (fun _ _=>rfl) (fun _ _=>rfl) (fun j _=>?_) (fun _ _=>rfl)
   show upd _ _ _ j=_
   unfold upd
   by_cases e:j=i
   ·subst e;rw[if_pos rfl,at_,htt];rfl
   ·rw[if_neg e]
    rcases Nat.lt_or_gt_of_ne e with h|h
    ·exact low j h
    ·exact up j h
  |true=>
   rw[hc]at htt
   have hmn:min ((s.ti i:Nat):Int) 20=((min (s.ti i) 20:Nat):Int):=by omega
   have st1:=fun t:Sta=>set_t t hlt (min (s.ti i) 20)
   have gg:∀o,(K.set H.n o).get H.n=some o:=fun o=>AHeap.get_set_same gs o
   simp(disch:=first|assumption|omega)only[W_block,P3,seval,initFr,clsA,hw,e0,e1,a_mmn,hmn,a_iaddrp,gg,stl_len,st1,hll,Int.toNat_natCast,Nat.mul_one]
   refine hn' _ _ _ ⟨i+1,_,_,_,_,rfl,kK.set (Nat.le_refl _) hs1 _,?_,by rw[AHeap.get_set_other K (by omega) hs1];exact gw,by omega,rfl⟩ (by omega)
   rw[AHeap.get_set_same gs]
   congr 2
   refine stl_ext (fun _ _=>rfl) (fun _ _=>rfl) (fun _ _=>rfl) (fun j _=>?_) (fun _ _=>rfl)
   show upd (upd _ _ _) _ _ j=_
   unfold upd
   by_cases e:j=i
   ·subst e;rw[if_pos rfl,at_,htt];rfl
   ·rw[if_neg e,if_neg e]
    rcases Nat.lt_or_gt_of_ne e with h|h
    ·exact low j h
    ·exact up j h
 ·have e1:¬((i:Nat):Int)<64:=by omega
  have hie:i=64:=by omega
  subst hie
  simp(disch:=first|assumption|omega)only[W_block,P3,seval,initFr,clsA,e1]
  refine hx' _ _ _ ?_
  have ex:stl (tidT s L 64)=stl (tidyS L s):=stl_ext (fun _ _=>rfl) (fun _ _=>rfl) (fun _ _=>rfl) (fun j hj=>by
   show(if j<64 then _ else _)=_
   rw[if_pos hj]) (fun _ _=>rfl)
  rw[ex]at gs
  simp(disch:=first|assumption|omega)only[W_block,P3,seval,initFr,clsA,gs,gw,rng68,stn68s]
  refine hq2 _ _ ⟨_,?_,rfl,kK.set (by omega) hw1 _⟩
  show resO [.cn 68 3] _ _=_
  rw[resC]
  show celln 68 (ptr (H.n+1) 0) _=_
  rw[cellnp,rangeA_e,AHeap.get_set_same gw,rng_full (stl_len _)];rfl
def rgtB(L:Ly)(s:Sta):Bool:=staB (tidyS L s) s&&(none64 (fun i=>anyR L s.lo (tabP L) i&&s.lo i)&&none32 (fun p=>anyR L s.lo (nor L) p&&s.po p)&&none32 (fun p=>anyR L s.lo (rev L) p&& !s.po p))
set_option maxHeartbeats 1000000 in
theorem t20{H:AHeap}{b:Nat}{L:Ly}(h:MaR H b L)(hl:L.r.length≤64)(s:Sta):∃w H',ARun Tryz.prog 0 20 [ptr b 0,.agg (stl s).toArray] H w H'∧w=.bool (rgtB L s)∧H'=H:=by
 refine gcb ?_
 refine walk2 f20_ok f20_n ?_
 intro Q hq1 hq2
 have k0:=(Keeps.refl H).alloc (.cells true false 68 (stl s) 37)
 have gs0:=AHeap.get_alloc_new H (.cells true false 68 (stl s) 37)
 have tT:=t8 (h.keeps k0) s
 obtain⟨vr,vl,own,room,T,gb,ms⟩:=h
 have gb0:=k0.at_ gb
 have ms0:=ms.keeps k0
 have hbl:=AHeap.get_lt gb
 have r1:=Sl.one ms.r
 have l1:=Sl.one ms.l
 have eqs0:=fun K neg a b=>eq_stl K neg a b
 obtain⟨K0,hK0⟩:∃X,X=H.alloc (.cells true false 68 (stl s) 37):=⟨_,rfl⟩
 rw[←hK0]at k0 gs0 tT gb0 ms0
 have n0:H.n<K0.n:=AHeap.get_lt gs0
 simp(disch:=first|assumption|omega)only[f20,P3,seval,initFr,clsA,stl_one,stl_len,rng68]
 rw[←hK0]
 refine callK tT ?_
 rintro _ X ⟨rfl,hX⟩
 rw[hX]
 unfold rgtB at hq1 hq2
 cases hsb:staB (tidyS L s) s with
 |false=>
  rw[hsb]at hq1 hq2
  simp(disch:=first|assumption|omega|(simp only[LN]<;>omega)|(simp(disch:=first|assumption|omega|(simp only[LN]<;>omega))only[row_alloc,row_set];assumption))only[W_block,P3,↓reduceIte,reduceAdd,reduceEqDiff,reduceCtorEq,initFr,reduceLT,clsA,reduceLeDiff,reduceMul,reduceSub,reduceIte,gs0,rng68,O68F_r,eqs0,n0,hsb]
  exact hq2 _ _ ⟨_,rfl,rfl,k0⟩
 |true=>
 rw[hsb]at hq1 hq2
 have tN:=t53 (f:=s.lo) ms0 hl
 have tC:=t54 (f:=s.lo) ms0 hl
 unfold mcells at tN tC gb0
 simp(disch:=first|assumption|omega|(simp only[LN]<;>omega)|(simp(disch:=first|assumption|omega|(simp only[LN]<;>omega))only[row_alloc,row_set];assumption))only[W_block,P3,↓reduceIte,reduceAdd,reduceEqDiff,reduceCtorEq,initFr,reduceLT,clsA,reduceLeDiff,reduceMul,reduceSub,reduceIte,gs0,gb0,rng68,O68F_r,eqs0,n0,hsb,stl_0,r1,l1]
 refine callK tN ?_
 rintro _ X ⟨rfl,hX⟩
 rw[hX]
 simp(disch:=first|assumption|omega|(simp only[LN]<;>omega)|(simp(disch:=first|assumption|omega|(simp only[LN]<;>omega))only[row_alloc,row_set];assumption))only[W_block,P3,seval,initFr,clsA,gs0,gb0,stl_0,r1,l1]
 refine callK tC ?_
 rintro _ X ⟨rfl,hX⟩
 rw[hX]
 cases h1:none64 (fun i=>anyR L s.lo (tabP L) i&&s.lo i)with
 |false=>
  rw[h1]at hq1 hq2
  simp(disch:=first|assumption|omega)only[W_block,P3,seval,initFr,clsA,gs0,stl_0,stl_67,s_and,s_eq0,h1,n0]
  exact hq2 _ _ ⟨_,rfl,rfl,k0⟩
 |true=>
 rw[h1]at hq1 hq2
 cases h2:none32 (fun p=>anyR L s.lo (nor L) p&&s.po p)with
 |false=>
  rw[h2]at hq1 hq2
  simp(disch:=first|assumption|omega)only[W_block,P3,seval,initFr,clsA,gs0,stl_0,stl_67,s_and,s_eq0,p_and,p_eq0,h1,h2,n0]
  exact hq2 _ _ ⟨_,rfl,rfl,k0⟩
 |true=>
 rw[h2]at hq1 hq2
 simp(disch:=first|assumption|omega)only[W_block,P3,seval,initFr,clsA,gs0,stl_0,stl_67,s_and,s_eq0,p_and,p_andn,p_eq0,h1,h2,n0]
 exact hq2 _ _ ⟨_,rfl,rfl,k0⟩
end Go.AM.Fd

set_option maxRecDepth 100000
set_option maxHeartbeats 0
namespace Go.AM.F
def zclJ:TypeId→List Value
 |_=>[]
def zvlJ:TypeId→Value
 |_=>undef
def zklJ:TypeId→List Nat
 |_=>[]
def zrlJ:Nat→TypeId→List Value
 |1,3=>[(.int .i64 0)]
 |_,_=>[]
noncomputable def f70:AFunc:=by
 refine(fun(_:Cz zclJ zvlJ zklJ zrlJ Go.Proofs.Tryz.prog 0 [0,2] 70 ?a)=>?a) ?h
 case h=>
 intro zc zv zk zr hc hv hk hr
 conv=>lhs;cbv;try simp only[hc,hv,hk,hr,zclJ,zvlJ,zklJ,zrlJ]
theorem f70_ok:compF Go.Proofs.Tryz.prog 0 [0,2] 70=some f70:=by kernel_rfl
theorem f70_n:argsOK Go.Proofs.Tryz.prog 70 1=true:=by kernel_rfl
noncomputable def f113:AFunc:=by
 refine(fun(_:Cz zclJ zvlJ zklJ zrlJ Go.Proofs.Tryz.prog 0 [0,1,2,4,5,6,7] 113 ?a)=>?a) ?h
 case h=>
 intro zc zv zk zr hc hv hk hr
 have e0A:=(rfl:rfA Go.Proofs.Tryz.prog 113 0=rfA Go.Proofs.Tryz.prog 113 0);conv at e0A=>rhs;cbv
 have e0B:=(rfl:rfB Go.Proofs.Tryz.prog 113 0=rfB Go.Proofs.Tryz.prog 113 0);conv at e0B=>rhs;cbv
 conv=>lhs;cbv;try simp only[hc,hv,hk,hr,zclJ,zvlJ,zklJ,zrlJ];simp only[←e0A,←e0B]
theorem f113_ok:compF Go.Proofs.Tryz.prog 0 [0,1,2,4,5,6,7] 113=some f113:=by kernel_rfl
theorem f113_n:argsOK Go.Proofs.Tryz.prog 113 2=true:=by kernel_rfl
noncomputable def f113r0a:ACode:=by
 refine(fun(_:CzC zclJ zvlJ zklJ zrlJ Go.Proofs.Tryz.prog 0 13 [0,1,2,4,5,6,7] (rfA Go.Proofs.Tryz.prog 113 0) ?a)=>?a) ?h
 case h=>intro zc zv zk zr hc hv hk hr;conv=>lhs;cbv;try simp only[hc,hv,hk,hr,zclJ,zvlJ,zklJ,zrlJ]
theorem f113r0a_ok:compC Go.Proofs.Tryz.prog 0 13 [0,1,2,4,5,6,7] (rfA Go.Proofs.Tryz.prog 113 0)=some f113r0a:=by kernel_rfl
noncomputable def f113r0b:ACode:=by
 refine(fun(_:CzC zclJ zvlJ zklJ zrlJ Go.Proofs.Tryz.prog 0 13 [0,1,2,4,5,6,7] (rfB Go.Proofs.Tryz.prog 113 0) ?a)=>?a) ?h
 case h=>intro zc zv zk zr hc hv hk hr;conv=>lhs;cbv;try simp only[hc,hv,hk,hr,zclJ,zvlJ,zklJ,zrlJ]
theorem f113r0b_ok:compC Go.Proofs.Tryz.prog 0 13 [0,1,2,4,5,6,7] (rfB Go.Proofs.Tryz.prog 113 0)=some f113r0b:=by kernel_rfl
theorem f113r0_n:(noRF (rfA Go.Proofs.Tryz.prog 113 0)&&noRF (rfB Go.Proofs.Tryz.prog 113 0))=true:=by kernel_rfl
end Go.AM.F

set_option maxRecDepth 8000
namespace Go.AM.Fd
open Nat (reduceAdd reduceEqDiff reduceLT reduceLeDiff reduceMul reduceSub)
open Go.Proofs Go.AM.F
theorem t71{H:AHeap}(f:Nat→Bool):∃w H',ARun Tryz.prog 0 71 [S64 f] H w H'∧w=.func (.func 114) #[] #[ptr H.n 0]∧H'=H.alloc (.cells true false 1 [S64 f] 33):=by
 refine walk2 f71_ok f71_n ?_
 intro Q hq1 hq2
 simp(disch:=first|assumption|omega)only[f71,W_block,P3,seval,initFr,clsA,cells_s64,one_s64,o_s64]
 exact hq2 _ _ ⟨_,rfl,rfl,rfl⟩
theorem t114{f:Nat→Bool}{rb xb T:Nat}{o r:Bool}(J:Nat→AHeap→Prop)
 (hx:∀k X,J k X→X.get xb=some (.cells o r 1 [S64 f] T))
 (hy:∀k X,k<64→f k=true→J k X→∃w X',AYield Tryz.prog 0 rb [.int .i64 (k:Nat)] X w X'∧w=.bool true∧J (k+1) X')
 (hs:∀k X,k<64→f k=false→J k X→J (k+1) X)
 {H:AHeap} (h0:J 0 H):∃w H',ARun Tryz.prog 0 114 [.chan (some rb),ptr xb 0] H w H'∧J 64 H':=by
 refine walk2 f114_ok f114_n ?_
 intro Q hq1 hq2
 simp(disch:=first|assumption|omega)only[f114,P3,seval,initFr,clsA]
 rw[W_block]
 refine W_loop2 (fun q fr X=>∃k x2 x4 x5,fr=[.chan (some rb),ptr xb 0,x2,.int .i64 ((k:Nat):Int),x4,x5]∧J k X∧k≤64∧q=64-k) 64 ⟨0,_,_,_,rfl,h0,by omega,rfl⟩ ?_
 rintro Q' q fr X ⟨k,x2,x4,x5,rfl,hJ,hk,rfl⟩ hn' hx' hret
 by_cases hlt:k<64
 ·have gx:=hx k X hJ
  have e1:(k:Int)<64:=by omega
  have hw:IntKind.i64.wrap ((k:Int)+1)=((k+1:Nat):Int):=by rw[wrap_i64 (by omega) (by omega)];simp
  simp(disch:=first|assumption|omega)only[W_block,P3,seval,initFr,clsA,e1,gx]
  refine callK (t22 _ _) ?_
  rintro _ Y ⟨rfl,hY⟩
  rw[hY,has_nat _ hlt]
  cases hf:f k with
  |false=>
   simp(disch:=first|assumption|omega)only[W_block,P3,seval,initFr,clsA,hw]
   exact hn' _ _ _ ⟨k+1,_,_,_,rfl,hs k X hlt hf hJ,by omega,rfl⟩ (by omega)
  |true=>
   simp(disch:=first|assumption|omega)only[W_block,P3,seval,initFr,clsA,st_callvy]
   refine yieldK (hy k X hlt hf hJ) ?_
   rintro _ Y ⟨rfl,hJ2⟩
   simp(disch:=first|assumption|omega)only[W_block,P3,seval,initFr,clsA,hw]
   exact hn' _ _ _ ⟨k+1,_,_,_,rfl,hJ2,by omega,rfl⟩ (by omega)
 ·have e1:¬((k:Nat):Int)<64:=by omega
  have hke:k=64:=by omega
  subst hke
  simp(disch:=first|assumption|omega)only[W_block,P3,seval,initFr,clsA,e1]
  refine hx' _ _ _ ?_
  exact hq1 _ _ ⟨_,rfl,hJ⟩
def anyN(n:Nat)(f:Nat→Bool)(g:Nat→Nat→Bool)(p:Nat):Bool:=(List.range n).any fun i=>f i&&g i p
theorem anyN_s(n:Nat)(f:Nat→Bool)(g:Nat→Nat→Bool)(p:Nat):anyN (n+1) f g p=(anyN n f g p||(f n&&g n p)):=by
 unfold anyN;rw[List.range_succ,List.any_append];simp
structure AJ (K:AHeap) (vb:Nat) (L:LRec) (f:Nat→Bool) (g:Nat→Nat→Bool) (k:Nat) (X:AHeap):Prop where
 n:K.n<X.n
 keep:∀b,b<K.n→b≠vb→X.get b=K.get b
 var:X.get vb=some (.cells true false 1 [S64 (anyN k f g)] 33)
 rec_:X.get K.n=some (.loop true .ready none L)
theorem anyN_low(n:Nat)(hn:n≤64)(f:Nat→Bool)(g:Nat→Nat→Bool):anyN 64 (fun i=>f i&&lowP (n:Int) i) g=anyN n f g:=by
 funext p
 unfold anyN
 rw[Bool.eq_iff_iff,List.any_eq_true,List.any_eq_true]
 constructor
 ·rintro⟨i,_,h⟩
  simp only[lowP,Bool.and_eq_true,decide_eq_true_eq]at h
  exact⟨i,List.mem_range.2 (by omega),by simp[h.1.1,h.2]⟩
 ·rintro⟨i,hi,h⟩
  have:=List.mem_range.1 hi
  simp only[Bool.and_eq_true]at h
  refine⟨i,List.mem_range.2 (by omega),?_⟩
  simp only[lowP,h.1,h.2,Bool.true_and,Bool.and_true,decide_eq_true_eq]
  omega
set_option maxHeartbeats 1000000 in
theorem t112{H:AHeap}{v:Value}{n:Nat}{g:Nat→Nat→Bool}(hs:Sl H 1 v ((List.range n).map fun i=>[S64 (g i)]))(hn:n≤64)(f:Nat→Bool):
 ∃w H',ARun Tryz.prog 0 112 [v,S64 f] H w H'∧w=S64 (anyN n f g)∧H'=H:=by
 refine gci ?_
 refine walk2 f112_ok f112_n ?_
 intro Q hq1 hq2
 have one:=Sl.one hs
 have is:=Sl.is hs
 have len:=hs.len
 simp only[List.length_map,List.length_range]at len
 obtain⟨K0,hK0⟩:∃X,X=(H.alloc (.cells true false 1 [v] 57)).alloc (.cells true false 1 [.int .u64 0] 33):=⟨_,rfl⟩
 have k0:Keeps H K0:=by rw[hK0];exact((Keeps.refl H).alloc _).alloc _
 have n0:K0.n=H.n+2:=by rw[hK0];rfl
 have gv0:K0.get H.n=some (.cells true false 1 [v] 57):=by rw[hK0];exact((Keeps.refl _).alloc _).at_ (AHeap.get_alloc_new H _)
 have go0:K0.get (H.n+1)=some (.cells true false 1 [.int .u64 0] 33):=by rw[hK0];exact AHeap.get_alloc_new (H.alloc _) _
 have hc:=cells_isS is
 simp(disch:=first|assumption|omega|(simp only[LN]<;>omega)|(simp(disch:=first|assumption|omega|(simp only[LN]<;>omega))only[row_alloc,row_set];assumption))only[f112,W_block,P3,seval,initFr,clsA,one,is,len,hc]
 simp only[←hK0]
 refine callQ (t28 _) ?_
 simp(disch:=first|assumption|omega)only[W_block,P3,seval,initFr,clsA,s_and]
 refine callK (t71 _) ?_
 rintro _ K ⟨rfl,hK⟩
 have kK:Keeps K0 K:=by rw[hK];exact(Keeps.refl K0).alloc _
 have nK:K.n=H.n+3:=by rw[hK,alloc_n,n0]
 have gx:K.get (H.n+2)=some (.cells true false 1 [S64 fun i=>f i&&lowP (n:Int) i] 33):=by rw[hK,←n0];exact AHeap.get_alloc_new K0 _
 have gvK:=kK.at_ gv0
 have goK:=kK.at_ go0
 simp(disch:=first|assumption|omega)only[P3,seval,initFr,clsA]
 rw[W_block]
 refine W_rangeF rfl (bodied_of (by kernel_rfl)) ?_
 obtain⟨L0,hL0⟩:∃L:LRec,L=⟨21,[0,1,2,4,5,6,12,13],[v,S64 f,ptr H.n 0,.int .u64 0,ptr (H.n+1) 0,undef,.func (.func 114) #[] #[ptr K0.n 0],undef],#[13],rfA Tryz.prog 112 0,rfB Tryz.prog 112 0⟩:=⟨_,rfl⟩
 have kL:=(Keeps.refl K).alloc (.loop true .ready none L0)
 obtain⟨f',hf'⟩:∃f',f'=fun i=>f i&&lowP (n:Int) i:=⟨_,rfl⟩
 have j0:AJ K (H.n+1) L0 f' g 0 (K.alloc (.loop true .ready none L0)):=⟨by simp[alloc_n],fun b hb _=>kL.get b hb,by rw[kL.at_ goK,s_zero];rfl,AHeap.get_alloc_new K _⟩
 have tM:=t114 (f:=f') (rb:=K.n) (xb:=H.n+2) (T:=33) (o:=true) (r:=false) (AJ K (H.n+1) L0 f' g)
  (fun k X hJ=>by rw[hJ.keep _ (by omega) (by omega),gx,hf']) ?_ (fun k X _ hfk hJ=>⟨hJ.n,hJ.keep,by
   rw[hJ.var]
   have:anyN (k+1) f' g=anyN k f' g:=by funext p;rw[anyN_s,hfk];simp
   rw[this],hJ.rec_⟩) j0
 ·rw[n0,hL0]at*
  obtain⟨w,X,r,hJ⟩:=tM
  refine⟨w,X,r,afterR_ready hJ.rec_ ?_⟩
  have hrl:=AHeap.get_lt hJ.rec_
  have gv:(X.set K.n .dead).get (H.n+1)=some (.cells true false 1 [S64 (anyN n f g)] 33):=by rw[AHeap.get_set_other X (by omega) hrl,hJ.var,hf',anyN_low n hn]
  simp(disch:=first|assumption|omega)only[W_block,P3,seval,initFr,clsA,gv]
  refine hq2 _ _ ⟨_,rfl,rfl,⟨by rw[set_n];have:=hJ.n;omega,fun b hb=>?_⟩⟩
  rw[AHeap.get_set_other X (by omega) hrl,hJ.keep b (by omega) (by omega)]
  exact(k0.trans kK).get b hb
 ·intro k X hk hfk hJ
  have hkn:k<n:=by rw[hf']at hfk;simp[lowP]at hfk;exact hfk.2
  rw[hL0]at hJ ⊢
  refine yield_of (R:=fun w H'=>w=.bool true∧AJ K (H.n+1) _ f' g (k+1) H') hJ.rec_ f112r0a_ok f112r0b_ok f112r0_n rfl rfl ?_
  show W Tryz.prog 0 f112r0a _ [v,S64 f,ptr H.n 0,.int .u64 0,ptr (H.n+1) 0,undef,.func (.func 114) #[] #[ptr K0.n 0],.int .i64 ((k:Nat):Int)] X
  rw[←hL0]at hJ ⊢
  simp(disch:=first|assumption|omega)only[f112r0a,W_block,P3,seval,initFr,clsA]
  refine⟨none,L0,hJ.rec_,?_⟩
  obtain⟨X1,hX1⟩:∃Y,Y=X.set K.n (.loop true .busy none L0):=⟨_,rfl⟩
  have hrl:=AHeap.get_lt hJ.rec_
  have n1:X1.n=X.n:=by rw[hX1];rfl
  have oth:∀b,b≠K.n→X1.get b=X.get b:=fun b hb=>by rw[hX1];exact AHeap.get_set_other X hb hrl _
  have gr1:X1.get K.n=some (.loop true .busy none L0):=by rw[hX1];exact AHeap.get_set_same hJ.rec_ _
  have go1:X1.get (H.n+1)=some (.cells true false 1 [S64 (anyN k f' g)] 33):=by rw[oth _ (by omega)];exact hJ.var
  have gv1:X1.get H.n=some (.cells true false 1 [v] 57):=by rw[oth _ (by omega),hJ.keep _ (by omega) (by omega)];exact gvK
  have s1:Sl X1 1 v ((List.range n).map fun i=>[S64 (g i)]):=hs.get' (fun b e hb=>by
   rw[oth _ (by omega),hJ.keep _ (by omega) (by omega)];exact(k0.trans kK).get b hb)
  obtain⟨na,ra⟩:=s1.at_ (by omega) (i:=k) (by simpa using hkn)
  have ra':rowA X1 1 v k=some [S64 (g k)]:=by rw[ra];simp
  have e0:(0:Int)≤(k:Int):=by omega
  have e1:(k:Int)<((n:Nat):Int):=by omega
  have hol:=AHeap.get_lt go1
  rw[←hX1]
  simp(disch:=first|assumption|omega)only[f112r0b,W_block,P3,seval,initFr,clsA,go1,gv1,na,ra',len,e0,e1,a_load1v,s_or,one_s64,o_s64]
  have c2:∀o,(X1.set (H.n+1) o).get K.n=some (.loop true .busy none L0):=fun o=>by rw[AHeap.get_set_other X1 (by omega) hol];exact gr1
  unfold roundQ
  rw[c2]
  have hXn:=hJ.n
  refine⟨rfl,?_,?_,?_,AHeap.get_set_same (c2 _) _⟩
  ·rw[set_n,set_n];omega
  ·intro b hb hb2
   rw[AHeap.get_set_other _ (by omega) (by rw[set_n];omega),AHeap.get_set_other X1 hb2 hol,oth b (by omega)]
   exact hJ.keep b hb hb2
  ·rw[AHeap.get_set_other _ (by omega) (by rw[set_n];omega),AHeap.get_set_same go1]
   congr 4
   congr 1
   funext p
   rw[anyN_s,hfk];simp
def lieU(L:Ly)(f:Nat→Bool):Nat→Bool:=anyN L.p.length (fun i=>decide (i<32)&&f i) (lieP L)
theorem t69{H:AHeap}{b:Nat}{L:Ly}(h:MaR H b L)(hl:L.p.length≤32)(f:Nat→Bool):∃w H',ARun Tryz.prog 0 69 [ptr b 0,S32 f] H w H'∧w=S64 (lieU L f)∧H'=H:=by
 refine walk2 f69_ok f69_n ?_
 intro Q hq1 hq2
 obtain⟨vr,vl,own,room,T,gb,ms⟩:=h
 have tA:=t112 (g:=lieP L) ms.l (by omega) (fun i=>decide (i<32)&&f i)
 unfold mcells at gb
 simp(disch:=first|assumption|omega)only[f69,W_block,P3,seval,initFr,clsA,gb,s_up]
 refine callK tA ?_
 rintro _ X ⟨rfl,hX⟩
 rw[hX]
 simp(disch:=first|assumption|omega)only[W_block,P3,seval,initFr,clsA]
 exact hq2 _ _ ⟨_,rfl,rfl,rfl⟩
end Go.AM.Fd

set_option maxRecDepth 8000
namespace Go.AM.Fd
open Nat (reduceAdd reduceEqDiff reduceLT reduceLeDiff reduceMul reduceSub)
open Go.Proofs Go.AM.F
structure LJ (K:AHeap) (vb:Nat) (L:LRec) (f:Nat→Bool) (k:Nat) (X:AHeap):Prop where
 n:K.n<X.n
 keep:∀b,b<K.n→b≠vb→X.get b=K.get b
 rec_:X.get K.n=some (.loop true .ready none L)
 var:∃sv,X.get vb=some (.cells true false 1 [sv] 46)∧AP X 3 1 sv ((List.range k).filter f).length (((List.range k).filter f).map fun i=>Value.int .i64 (i:Nat))∧∀b,blk sv=some b→K.n<b
theorem fl_yes{f:Nat→Bool}{k:Nat}(h:f k=true):(List.range (k+1)).filter f=(List.range k).filter f++[k]:=by
 rw[List.range_succ,List.filter_append];simp[h]
theorem fl_no{f:Nat→Bool}{k:Nat}(h:f k=false):(List.range (k+1)).filter f=(List.range k).filter f:=by
 rw[List.range_succ,List.filter_append];simp[h]
theorem fl_le(f:Nat→Bool)(k:Nat):((List.range k).filter f).length≤k:=by
 have:=List.length_filter_le f (List.range k);simpa using this
theorem AP.sl1{H:AHeap}{e:Nat}{v:Value}{l:List Value}(h:AP H e 1 v l.length l):Sl H 1 v (l.map fun x=>[x]):=by
 have hf:(l.map fun x=>[x]).flatten=l:=by
  clear h
  induction l with
  |nil=>rfl
  |cons a l ih=>simp[ih]
 exact AP.sl (n:=l.length) (by rw[hf];exact h) (by simp) (by simp)
set_option maxHeartbeats 1000000 in
theorem t113{H:AHeap}{f:Nat→Bool}{xb T:Nat}{o r:Bool}(gx:H.get xb=some (.cells o r 1 [S64 f] T)):
 ∃w H',ARun Tryz.prog 0 113 [.slice none 0 0,.func (.func 114) #[] #[ptr xb 0]] H w H'∧IL H' w (((List.range 64).filter f).map fun(i:Nat)=>(i:Int))∧Keeps H H'∧Fresh H.n w:=by
 refine walk2 f113_ok f113_n ?_
 intro Q hq1 hq2
 obtain⟨K,hK⟩:∃X,X=H.alloc (.cells true false 1 [.slice none 0 0] 46):=⟨_,rfl⟩
 have kK:Keeps H K:=by rw[hK];exact(Keeps.refl H).alloc _
 have nK:K.n=H.n+1:=by rw[hK];rfl
 have gv:K.get H.n=some (.cells true false 1 [.slice none 0 0] 46):=by rw[hK];exact AHeap.get_alloc_new H _
 have hxl:=AHeap.get_lt gx
 simp(disch:=first|assumption|omega)only[f113,P3,seval,initFr,clsA]
 rw[←hK,W_block]
 refine W_rangeF rfl (bodied_of (by kernel_rfl)) ?_
 obtain⟨L0,hL0⟩:∃L:LRec,L=⟨13,[0,1,2,4,5,6,7],[.slice none 0 0,.func (.func 114) #[] #[ptr xb 0],ptr H.n 0,.slice none 0 0,undef,.func (.func 114) #[] #[ptr xb 0],undef],#[7],rfA Tryz.prog 113 0,rfB Tryz.prog 113 0⟩:=⟨_,rfl⟩
 rw[←hL0]
 have kL:=(Keeps.refl K).alloc (.loop true .ready none L0)
 have j0:LJ K H.n L0 f 0 (K.alloc (.loop true .ready none L0)):=⟨by simp[alloc_n],fun b hb _=>kL.get b hb,AHeap.get_alloc_new K _,.slice none 0 0,kL.at_ gv,.inl ⟨rfl,rfl,rfl⟩,fun b hb=>by cases hb⟩
 have tM:=t114 (f:=f) (rb:=K.n) (xb:=xb) (T:=T) (o:=o) (r:=r) (LJ K H.n L0 f)
  (fun k X hJ=>by rw[hJ.keep _ (by omega) (by omega)];exact kK.at_ gx) ?_ (fun k X _ hfk hJ=>by
   obtain⟨sv,v1,v2,v3⟩:=hJ.var
   exact⟨hJ.n,hJ.keep,hJ.rec_,sv,v1,by rw[fl_no hfk];exact v2,v3⟩) j0
 ·obtain⟨w,X,r,hJ⟩:=tM
  refine⟨w,X,r,afterR_ready hJ.rec_ ?_⟩
  have hrl:=AHeap.get_lt hJ.rec_
  obtain⟨sv,v1,v2,v3⟩:=hJ.var
  have gv2:(X.set K.n .dead).get H.n=some (.cells true false 1 [sv] 46):=by rw[AHeap.get_set_other X (by omega) hrl];exact v1
  simp(disch:=first|assumption|omega)only[W_block,P3,seval,initFr,clsA,gv2]
  have ap2:=v2.chg (Chg.set X hrl .dead) (fun b hb=>by have:=v3 b (mem_blkL.1 hb);simp;omega)
  refine hq2 _ _ ⟨_,rfl,?_,⟨by rw[set_n];have:=hJ.n;omega,fun b hb=>?_⟩,fun b hb=>by have:=v3 b hb;omega⟩
  ·have e:(((List.range 64).filter f).map fun(i:Nat)=>(i:Int)).map iRow=(((List.range 64).filter f).map fun i=>Value.int .i64 (i:Nat)).map fun x=>[x]:=by
    rw[List.map_map,List.map_map];rfl
   unfold IL
   rw[e]
   refine AP.sl1 (e:=3) ?_
   rw[List.length_map];exact ap2
  ·rw[AHeap.get_set_other X (by omega) hrl,hJ.keep b (by omega) (by omega)]
   exact kK.get b hb
 ·intro k X hk hfk hJ
  rw[hL0]at hJ ⊢
  refine yield_of (R:=fun w H'=>w=.bool true∧LJ K H.n _ f (k+1) H') hJ.rec_ f113r0a_ok f113r0b_ok f113r0_n rfl rfl ?_
  show W Tryz.prog 0 f113r0a _ [.slice none 0 0,.func (.func 114) #[] #[ptr xb 0],ptr H.n 0,.slice none 0 0,undef,.func (.func 114) #[] #[ptr xb 0],.int .i64 ((k:Nat):Int)] X
  rw[←hL0]at hJ ⊢
  simp(disch:=first|assumption|omega)only[f113r0a,W_block,P3,seval,initFr,clsA]
  refine⟨none,L0,hJ.rec_,?_⟩
  obtain⟨X1,hX1⟩:∃Y,Y=X.set K.n (.loop true .busy none L0):=⟨_,rfl⟩
  have hrl:=AHeap.get_lt hJ.rec_
  have n1:X1.n=X.n:=by rw[hX1];rfl
  have oth:∀b,b≠K.n→X1.get b=X.get b:=fun b hb=>by rw[hX1];exact AHeap.get_set_other X hb hrl _
  have gr1:X1.get K.n=some (.loop true .busy none L0):=by rw[hX1];exact AHeap.get_set_same hJ.rec_ _
  obtain⟨sv,v1,v2,v3⟩:=hJ.var
  have gv1:X1.get H.n=some (.cells true false 1 [sv] 46):=by rw[oth _ (by omega)];exact v1
  have ap1:=v2.chg (B:=X1) (by rw[hX1];exact Chg.set X hrl (.loop true .busy none L0)) (fun b hb=>by have:=v3 b (mem_blkL.1 hb);simp;omega)
  have len:=fl_le f k
  have hXn:=hJ.n
  have fW:fillA [.int .i64 0] [(0,1,.int .i64 ((k:Nat):Int))]=some [.int .i64 ((k:Nat):Int)]:=rfl
  rw[←hX1]
  simp(disch:=first|assumption|omega)only[f113r0b,W_block,P3,seval,initFr,clsA,gv1,fW]
  obtain⟨X2,hX2⟩:∃Y,Y=X1.alloc (.cells true false 1 [.int .i64 ((k:Nat):Int)] 3):=⟨_,rfl⟩
  have kX2:Keeps X1 X2:=by rw[hX2];exact(Keeps.refl X1).alloc _
  have el2:elemsA X2 1 (slc X1.n 0 1 1)=some [.int .i64 ((k:Nat):Int)]:=by rw[hX2];exact elems_new rfl rfl
  have n2:X2.n=X1.n+1:=by rw[hX2];rfl
  rw[←hX2]
  refine appG (ap1.keeps kX2) ⟨_,_,rfl⟩ el2 rfl (by omega) ?_
  intro v' K' ap' c' hb'
  have hml:H.n∉blkL sv:=fun hm=>by have:=v3 _ (mem_blkL.1 hm);omega
  have hmr:K.n∉blkL sv:=fun hm=>by have:=v3 _ (mem_blkL.1 hm);omega
  have gv3:=c'.at_ (kX2.at_ gv1) hml
  have gr3:=c'.at_ (kX2.at_ gr1) hmr
  have o1:v'.oneCell'=true:=by obtain⟨a,rfl⟩:=ap'.shape;rfl
  have hvl:=AHeap.get_lt gv3
  have hbk:∀b,blk v'=some b→K.n<b:=fun b hb=>by
   rcases hb' with e|e
   ·exact v3 b (by rw[←e];exact hb)
   ·rw[e]at hb;cases hb;omega
  simp(disch:=first|assumption|omega)only[W_block,P3,seval,initFr,clsA,gv3,o1]
  have c2:∀o,(K'.set H.n o).get K.n=some (.loop true .busy none L0):=fun o=>by rw[AHeap.get_set_other K' (by omega) hvl];exact gr3
  unfold roundQ
  rw[c2]
  have hKn:=c'.n
  refine⟨rfl,?_,?_,AHeap.get_set_same (c2 _) _,v',?_,?_,hbk⟩
  ·rw[set_n,set_n];omega
  ·intro b hb hb2
   rw[AHeap.get_set_other _ (by omega) (by rw[set_n];omega),AHeap.get_set_other K' hb2 hvl,c'.get b (by omega) (fun hm=>by have:=v3 _ (mem_blkL.1 hm);omega),kX2.get b (by omega),oth b (by omega)]
   exact hJ.keep b hb hb2
  ·rw[AHeap.get_set_other _ (by omega) (by rw[set_n];omega),AHeap.get_set_same gv3]
  ·rw[fl_yes hfk,List.length_append,List.map_append]
   refine(ap'.chg (Chg.set K' hvl _) (fun b hb=>by have:=hbk b (mem_blkL.1 hb);simp;omega)).chg (Chg.set _ (by rw[set_n];omega) _) (fun b hb=>by have:=hbk b (mem_blkL.1 hb);simp;omega)
theorem t70{H:AHeap}{f:Nat→Bool}{xb T:Nat}{o r:Bool}(gx:H.get xb=some (.cells o r 1 [S64 f] T)):
 ∃w H',ARun Tryz.prog 0 70 [.func (.func 114) #[] #[ptr xb 0]] H w H'∧IL H' w (((List.range 64).filter f).map fun(i:Nat)=>(i:Int))∧Keeps H H'∧Fresh H.n w:=by
 refine walk2 f70_ok f70_n ?_
 intro Q hq1 hq2
 simp(disch:=first|assumption|omega)only[f70,W_block,P3,seval,initFr,clsA]
 refine callK (t113 gx) ?_
 rintro w K ⟨h1,h2,h3⟩
 simp(disch:=first|assumption|omega)only[W_block,P3,seval,initFr,clsA]
 exact hq2 _ _ ⟨_,rfl,h1,h2,h3⟩
theorem t39{H:AHeap}(f:Nat→Bool):
 ∃w H',ARun Tryz.prog 0 39 [S64 f] H w H'∧IL H' w (((List.range 64).filter f).map fun(i:Nat)=>(i:Int))∧Keeps H H'∧Fresh H.n w:=by
 refine walk2 f39_ok f39_n ?_
 intro Q hq1 hq2
 simp(disch:=first|assumption|omega)only[f39,W_block,P3,seval,initFr,clsA]
 refine callK (t71 _) ?_
 rintro _ K ⟨rfl,hK⟩
 have kK:Keeps H K:=by rw[hK];exact(Keeps.refl H).alloc _
 have gx:K.get H.n=some (.cells true false 1 [S64 f] 33):=by rw[hK];exact AHeap.get_alloc_new H _
 simp(disch:=first|assumption|omega)only[W_block,P3,seval,initFr,clsA]
 refine callK (t70 gx) ?_
 rintro w X ⟨h1,h2,h3⟩
 simp(disch:=first|assumption|omega)only[W_block,P3,seval,initFr,clsA]
 exact hq2 _ _ ⟨_,rfl,h1,kK.trans h2,fun b hb=>Nat.le_trans kK.n (h3 b hb)⟩
end Go.AM.Fd

set_option maxRecDepth 8000
namespace Go.AM.Fd
open Nat (reduceAdd reduceEqDiff reduceLT reduceLeDiff reduceMul reduceSub)
open Go.Proofs Go.AM.F
theorem with_p(p:Nat→Bool)(i:Nat)(hp:p i=true):(S64 fun j=>(decide (j<i)&&p j)||oneP (i:Int) j)=S64 fun j=>decide (j<i+1)&&p j:=by
 apply s64_ext;intro j _
 by_cases e:j=i
 ·subst e
  have:j<j+1:=by omega
  simp[oneP,hp,this]
 ·by_cases h:j<i
  ·have:j<i+1:=by omega
   have e2:¬((j:Int)=(i:Int)):=by omega
   simp[oneP,h,this,e2]
  ·have:¬j<i+1:=by omega
   have e2:¬((j:Int)=(i:Int)):=by omega
   simp[oneP,h,this,e2]
theorem with_n(p:Nat→Bool)(i:Nat)(hp:p i=false):(S64 fun j=>decide (j<i)&&p j)=S64 fun j=>decide (j<i+1)&&p j:=by
 apply s64_ext;intro j _
 by_cases e:j=i
 ·subst e;simp[hp]
 ·have:decide (j<i)=decide (j<i+1):=by by_cases h:j<i<;>simp[h]<;>omega
  rw[this]
set_option maxHeartbeats 1000000 in
theorem t34{H:AHeap}{v:Value}{L:Ly}{p:Nat→Bool}{fn:Nat}{ca:Array Value}(hs:Sl H 6 v (mrows L))(hl:L.r.length≤64)
 (hF:∀(K:AHeap) (i:Nat),Keeps H K→i<L.r.length→∃w K',ARun Tryz.prog 0 fn ([.int .i64 (i:Nat),.agg (mrow L i).toArray]++ca.toList) K w K'∧w=.bool (p i)∧K'=K):
 ∃w H',ARun Tryz.prog 0 34 [v,.func (.func fn) #[] ca] H w H'∧w=S64 (fun i=>decide (i<L.r.length)&&p i)∧H'=H:=by
 refine gci ?_
 refine walk2 f34_ok f34_n ?_
 intro Q hq1 hq2
 have is0:=Sl.is hs
 have len:=hs.len
 rw[mrows_len]at len
 simp(disch:=first|assumption|omega)only[f34,P3,seval,initFr,clsA,is0,len]
 rw[W_block]
 refine W_loop2 (fun q fr K=>∃i x4 x5 x9 x10,fr=[v,.func (.func fn) #[] ca,.int .u64 0,S64 (fun j=>decide (j<i)&&p j),x4,x5,v,.int .i64 ((L.r.length:Nat):Int),.int .i64 ((i:Nat):Int),x9,x10]∧
  Keeps H K∧i≤L.r.length∧q=L.r.length-i) L.r.length
  ⟨0,_,_,_,_,by simp only[Nat.not_lt_zero,decide_false,Bool.false_and];rw[←s_zero];rfl,Keeps.refl H,by omega,rfl⟩ ?_
 rintro Q' q fr K ⟨i,x4,x5,x9,x10,rfl,kK,hi,rfl⟩ hn' hx' hret
 by_cases hlt:i<L.r.length
 ·obtain⟨na,ra⟩:=(hs.keeps kK).at_ (by omega) (i:=i) (by rw[mrows_len];exact hlt)
  rw[mrows_at hlt]at ra
  have e0:(0:Int)≤(i:Int):=by omega
  have e1:(i:Int)<((L.r.length:Nat):Int):=by omega
  have hw:IntKind.i64.wrap ((i:Int)+1)=((i+1:Nat):Int):=by rw[wrap_i64 (by omega) (by omega)];simp
  have kA:=(Keeps.refl K).alloc (.cells true false 6 (mrow L i) 88)
  have hf:=hF _ i (kK.trans kA) hlt
  unfold mrow at ra hf kA
  simp(disch:=first|assumption|omega|(simp only[LN]<;>omega)|(simp(disch:=first|assumption|omega|(simp only[LN]<;>omega))only[row_alloc,row_set];assumption))only[W_block,P3,seval,initFr,clsA,e0,e1,len,na,ra,a_loadnvf,o_s64,o_s32,one_s64,one_s32,toList_arr,List.nil_append,List.append_nil,st_callv]
  refine callK hf ?_
  rintro _ X ⟨rfl,hX⟩
  rw[hX]
  cases hp:p i with
  |false=>
   simp(disch:=first|assumption|omega)only[W_block,P3,seval,initFr,clsA,hw]
   exact hn' _ _ _ ⟨i+1,_,_,_,_,by rw[with_n p i hp],kK.trans kA,by omega,rfl⟩ (by omega)
  |true=>
   simp(disch:=first|assumption|omega)only[W_block,P3,seval,initFr,clsA]
   refine callQ (t31 _ _) ?_
   simp(disch:=first|assumption|omega)only[W_block,P3,seval,initFr,clsA,hw]
   exact hn' _ _ _ ⟨i+1,_,_,_,_,by rw[with_p p i hp],kK.trans kA,by omega,rfl⟩ (by omega)
 ·have e1:¬((i:Nat):Int)<((L.r.length:Nat):Int):=by omega
  have hie:i=L.r.length:=by omega
  subst hie
  simp(disch:=first|assumption|omega)only[W_block,P3,seval,initFr,clsA,e1]
  refine hx' _ _ _ ?_
  simp(disch:=first|assumption|omega)only[W_block,P3,seval,initFr,clsA]
  exact hq2 _ _ ⟨_,rfl,rfl,kK⟩
theorem t38{H:AHeap}(i:Value)(t:Nat):∃w H',ARun Tryz.prog 0 38 [i,.int .u8 (t:Nat)] H w H'∧w=.bool (decide (t=0))∧H'=H:=by
 refine walk2 f38_ok f38_n ?_
 intro Q hq1 hq2
 have e:(((t:Nat):Int)==0)=decide (t=0):=by rw[Bool.eq_iff_iff];simp
 simp(disch:=first|assumption|omega)only[f38,W_block,P3,seval,initFr,clsA,e]
 exact hq2 _ _ ⟨_,rfl,rfl,rfl⟩
set_option maxHeartbeats 1000000 in
theorem t37{H:AHeap}{b:Nat}{s:Sta}{o r:Bool}{T:Nat}(gb:H.get b=some (.cells o r 68 (stl s) T)):
 ∃w H',ARun Tryz.prog 0 37 [slc b 3 64 64,.func (.func 38) #[] #[]] H w H'∧w=S64 (fun i=>decide (s.ti i=0))∧H'=H:=by
 refine walk2 f37_ok f37_n ?_
 intro Q hq1 hq2
 simp(disch:=first|assumption|omega)only[f37,P3,seval,initFr,clsA]
 rw[W_block]
 refine W_loop2 (fun q fr K=>∃i x4 x5 x9 x10,fr=[slc b 3 64 64,.func (.func 38) #[] #[],.int .u64 0,S64 (fun j=>decide (j<i)&&decide (s.ti j=0)),x4,x5,slc b 3 64 64,.int .i64 64,.int .i64 ((i:Nat):Int),x9,x10]∧
  K=H∧i≤64∧q=64-i) 64
  ⟨0,_,_,_,_,by simp only[Nat.not_lt_zero,decide_false,Bool.false_and];rw[←s_zero];rfl,rfl,by omega,rfl⟩ ?_
 rintro Q' q fr K ⟨i,x4,x5,x9,x10,rfl,rfl,hi,rfl⟩ hn' hx' hret
 by_cases hlt:i<64
 ·have e0:(0:Int)≤(i:Int):=by omega
  have e1:(i:Int)<64:=by omega
  have e2:(i:Int)<((64:Nat):Int):=by omega
  have hw:IntKind.i64.wrap ((i:Int)+1)=((i+1:Nat):Int):=by rw[wrap_i64 (by omega) (by omega)];simp
  have st:=stl_t s hlt
  simp(disch:=first|assumption|omega)only[W_block,P3,seval,initFr,clsA,e0,e1,e2,gb,st,Int.toNat_natCast,Nat.mul_one,toList_arr,List.nil_append,List.append_nil,st_callv]
  refine callQ (t38 _ _) ?_
  cases hp:decide (s.ti i=0)with
  |false=>
   simp(disch:=first|assumption|omega)only[W_block,P3,seval,initFr,clsA,hw]
   exact hn' _ _ _ ⟨i+1,_,_,_,_,by rw[with_n (fun j=>decide (s.ti j=0)) i hp],rfl,by omega,rfl⟩ (by omega)
  |true=>
   simp(disch:=first|assumption|omega)only[W_block,P3,seval,initFr,clsA]
   refine callQ (t31 _ _) ?_
   simp(disch:=first|assumption|omega)only[W_block,P3,seval,initFr,clsA,hw]
   exact hn' _ _ _ ⟨i+1,_,_,_,_,by rw[with_p (fun j=>decide (s.ti j=0)) i hp],rfl,by omega,rfl⟩ (by omega)
 ·have e1:¬((i:Nat):Int)<64:=by omega
  have hie:i=64:=by omega
  subst hie
  simp(disch:=first|assumption|omega)only[W_block,P3,seval,initFr,clsA,e1]
  refine hx' _ _ _ ?_
  simp(disch:=first|assumption|omega)only[W_block,P3,seval,initFr,clsA]
  exact hq2 _ _ ⟨_,rfl,s64_ext fun i hi=>by simp[hi],rfl⟩
structure Inp where
 oc:Nat→Bool
 nr:Nat→Bool
 rv:Nat→Bool
def inl(i:Inp)(cv:Value):List Value:=[S64 i.oc,S32 i.nr,S32 i.rv,cv]
theorem t35{H:AHeap}{L:Ly}{i:Nat}{x:Inp}{cv:Value}{b T:Nat}{o r:Bool}(gb:H.get b=some (.cells o r 4 (inl x cv) T)):
 ∃w H',ARun Tryz.prog 0 35 [.int .i64 (i:Nat),.agg (mrow L i).toArray,ptr b 0] H w H'∧w=.bool (none64 fun j=>trP (ro L i) j&&x.oc j)∧H'=H:=by
 refine gcb ?_
 refine walk2 f35_ok f35_n ?_
 intro Q hq1 hq2
 have kA:=(Keeps.refl H).alloc (.cells true false 6 (mrow L i) 88)
 have gA:=kA.at_ gb
 have hbl:=AHeap.get_lt gb
 unfold mrow at kA gA ⊢
 unfold inl at gb gA
 simp(disch:=first|assumption|omega)only[f35,W_block,P3,seval,initFr,clsA,gA,gb,hbl,o_s64,o_s32,one_s64,one_s32,s_and,s_eq0]
 exact hq2 _ _ ⟨_,rfl,rfl,kA⟩
theorem t36{H:AHeap}{L:Ly}{i:Nat}{x:Inp}{cv:Value}{b T:Nat}{o r:Bool}(gb:H.get b=some (.cells o r 4 (inl x cv) T)):
 ∃w H',ARun Tryz.prog 0 36 [.int .i64 (i:Nat),.agg (mrow L i).toArray,ptr b 0] H w H'∧w=.bool (!none64 fun j=>fiP (ro L i) j&&x.oc j)∧H'=H:=by
 refine gcb ?_
 refine walk2 f36_ok f36_n ?_
 intro Q hq1 hq2
 have kA:=(Keeps.refl H).alloc (.cells true false 6 (mrow L i) 88)
 have gA:=kA.at_ gb
 have hbl:=AHeap.get_lt gb
 unfold mrow at kA gA ⊢
 unfold inl at gb gA
 simp(disch:=first|assumption|omega)only[f36,W_block,P3,seval,initFr,clsA,gA,gb,hbl,o_s64,o_s32,one_s64,one_s32,s_and,s_ne0]
 exact hq2 _ _ ⟨_,rfl,rfl,kA⟩
def sideN(x:Inp)(p:Nat):Bool:=x.nr p&& !x.rv p
def sideR(x:Inp)(p:Nat):Bool:=x.rv p&& !x.nr p
theorem t41{H:AHeap}{L:Ly}{i:Nat}{f g:Nat→Bool}{b c T T':Nat}{o r o' r':Bool}(gb:H.get b=some (.cells o r 1 [S32 f] T))(gc:H.get c=some (.cells o' r' 1 [S32 g] T')):
 ∃w H',ARun Tryz.prog 0 41 [.int .i64 (i:Nat),.agg (mrow L i).toArray,ptr b 0,ptr c 0] H w H'∧w=.bool ((none32 fun p=>nor L i p&& !f p)&&(none32 fun p=>rev L i p&& !g p))∧H'=H:=by
 refine gcb ?_
 refine walk2 f41_ok f41_n ?_
 intro Q hq1 hq2
 have kA:=(Keeps.refl H).alloc (.cells true false 6 (mrow L i) 88)
 have gA:=kA.at_ gb
 have gB:=kA.at_ gc
 have hbl:=AHeap.get_lt gb
 have hcl:=AHeap.get_lt gc
 unfold nor rev at hq1 hq2
 unfold mrow at kA gA gB ⊢
 cases h1:(none32 fun p=>ndP (nds (ro L i)) false p&& !f p)with
 |false=>
  rw[h1]at hq1 hq2
  simp(disch:=first|assumption|omega)only[f41,W_block,P3,seval,initFr,clsA,gA,gB,gb,gc,hbl,hcl,o_s64,o_s32,one_s64,one_s32,p_andn,p_eq0,h1]
  exact hq2 _ _ ⟨_,rfl,rfl,kA⟩
 |true=>
  rw[h1]at hq1 hq2
  simp(disch:=first|assumption|omega)only[f41,W_block,P3,seval,initFr,clsA,gA,gB,gb,gc,hbl,hcl,o_s64,o_s32,one_s64,one_s32,p_andn,p_eq0,h1]
  exact hq2 _ _ ⟨_,rfl,rfl,kA⟩
theorem t40{H:AHeap}{x:Inp}{cv:Value}(hc:isS cv=true):
 ∃w H',ARun Tryz.prog 0 40 [.agg (inl x cv).toArray] H w H'∧w=.tuple #[S32 (sideN x),S32 (sideR x)]∧H'=H:=by
 suffices h':∃w H',ARun Tryz.prog 0 40 [.agg (inl x cv).toArray] H w H'∧w=.tuple #[S32 (sideN x),S32 (sideR x)]∧Keeps H H' by
  obtain⟨_,_,a,rfl,k⟩:=h'
  exact⟨_,_,a.gc0 k (.inr (.tuple _ _ rfl (fun i a b=>by
   match i,a with
   |0,_=>exact .int _ _
   |1,_=>exact .int _ _))),rfl,rfl⟩
 refine walk2 f40_ok f40_n ?_
 intro Q hq1 hq2
 have kA:=(Keeps.refl H).alloc (.cells true false 4 (inl x cv) 42)
 have o1:=one_isS hc
 unfold inl at kA ⊢
 simp(disch:=first|assumption|omega)only[f40,W_block,P3,seval,initFr,clsA,o1,o_s64,o_s32,one_s64,one_s32,p_andn]
 exact hq2 _ _ ⟨_,rfl,rfl,kA⟩
end Go.AM.Fd

set_option maxRecDepth 100000
set_option maxHeartbeats 0
namespace Go.AM.F
def Z68H:List Value:=[(.int .u64 0),(.int .u64 0),(.int .u64 0)]++List.replicate 64 (.int .u8 0)++[(.int .u32 0)]
def O68H:List Nat:=List.replicate 68 1
def zclH:TypeId→List Value
 |37=>Z68H
 |_=>[]
def zvlH:TypeId→Value
 |_=>undef
def zklH:TypeId→List Nat
 |37=>O68H
 |_=>[]
def zrlH:Nat→TypeId→List Value
 |_,_=>[]
noncomputable def f23:AFunc:=by
 refine(fun(_:Cz zclH zvlH zklH zrlH Go.Proofs.Tryz.prog 0 [0,1,2,3,4,5,6,39,45] 23 ?a)=>?a) ?h
 case h=>
 intro zc zv zk zr hc hv hk hr
 conv=>lhs;cbv;try simp only[hc,hv,hk,hr,zclH,zvlH,zklH,zrlH]
theorem f23_ok:compF Go.Proofs.Tryz.prog 0 [0,1,2,3,4,5,6,39,45] 23=some f23:=by kernel_rfl
theorem f23_n:argsOK Go.Proofs.Tryz.prog 23 2=true:=by kernel_rfl
noncomputable def f24:AFunc:=by
 refine(fun(_:Cz zclH zvlH zklH zrlH Go.Proofs.Tryz.prog 0 [0,1,2,3,4,5,6,7,8,13,18,31,56,66,87] 24 ?a)=>?a) ?h
 case h=>
 intro zc zv zk zr hc hv hk hr
 conv=>lhs;cbv;try simp only[hc,hv,hk,hr,zclH,zvlH,zklH,zrlH]
theorem f24_ok:compF Go.Proofs.Tryz.prog 0 [0,1,2,3,4,5,6,7,8,13,18,31,56,66,87] 24=some f24:=by kernel_rfl
theorem f24_n:argsOK Go.Proofs.Tryz.prog 24 2=true:=by kernel_rfl
noncomputable def f59:AFunc:=by
 refine(fun(_:Cz zclH zvlH zklH zrlH Go.Proofs.Tryz.prog 0 [0,2,3,4,11] 59 ?a)=>?a) ?h
 case h=>
 intro zc zv zk zr hc hv hk hr
 conv=>lhs;cbv;try simp only[hc,hv,hk,hr,zclH,zvlH,zklH,zrlH]
theorem f59_ok:compF Go.Proofs.Tryz.prog 0 [0,2,3,4,11] 59=some f59:=by kernel_rfl
theorem f59_n:argsOK Go.Proofs.Tryz.prog 59 1=true:=by kernel_rfl
noncomputable def f43:AFunc:=by
 refine(fun(_:Cz zclH zvlH zklH zrlH Go.Proofs.Tryz.prog 0 [0,1,4] 43 ?a)=>?a) ?h
 case h=>
 intro zc zv zk zr hc hv hk hr
 conv=>lhs;cbv;try simp only[hc,hv,hk,hr,zclH,zvlH,zklH,zrlH]
theorem f43_ok:compF Go.Proofs.Tryz.prog 0 [0,1,4] 43=some f43:=by kernel_rfl
theorem f43_n:argsOK Go.Proofs.Tryz.prog 43 2=true:=by kernel_rfl
noncomputable def f60:AFunc:=by
 refine(fun(_:Cz zclH zvlH zklH zrlH Go.Proofs.Tryz.prog 0 [0,1,2,3,4,5,6,7,8,9,10,11,12,13,18,26,34,39,82] 60 ?a)=>?a) ?h
 case h=>
 intro zc zv zk zr hc hv hk hr
 conv=>lhs;cbv;try simp only[hc,hv,hk,hr,zclH,zvlH,zklH,zrlH]
theorem f60_ok:compF Go.Proofs.Tryz.prog 0 [0,1,2,3,4,5,6,7,8,9,10,11,12,13,18,26,34,39,82] 60=some f60:=by kernel_rfl
theorem f60_n:argsOK Go.Proofs.Tryz.prog 60 3=true:=by kernel_rfl
noncomputable def f61:AFunc:=by
 refine(fun(_:Cz zclH zvlH zklH zrlH Go.Proofs.Tryz.prog 0 [0,1,2,3] 61 ?a)=>?a) ?h
 case h=>
 intro zc zv zk zr hc hv hk hr
 conv=>lhs;cbv;try simp only[hc,hv,hk,hr,zclH,zvlH,zklH,zrlH]
theorem f61_ok:compF Go.Proofs.Tryz.prog 0 [0,1,2,3] 61=some f61:=by kernel_rfl
theorem f61_n:argsOK Go.Proofs.Tryz.prog 61 1=true:=by kernel_rfl
noncomputable def f62:AFunc:=by
 refine(fun(_:Cz zclH zvlH zklH zrlH Go.Proofs.Tryz.prog 0 [0,1,2,4] 62 ?a)=>?a) ?h
 case h=>
 intro zc zv zk zr hc hv hk hr
 conv=>lhs;cbv;try simp only[hc,hv,hk,hr,zclH,zvlH,zklH,zrlH]
theorem f62_ok:compF Go.Proofs.Tryz.prog 0 [0,1,2,4] 62=some f62:=by kernel_rfl
theorem f62_n:argsOK Go.Proofs.Tryz.prog 62 2=true:=by kernel_rfl
noncomputable def f97:AFunc:=by
 refine(fun(_:Cz zclH zvlH zklH zrlH Go.Proofs.Tryz.prog 0 [0,1,4,15] 97 ?a)=>?a) ?h
 case h=>
 intro zc zv zk zr hc hv hk hr
 conv=>lhs;cbv;try simp only[hc,hv,hk,hr,zclH,zvlH,zklH,zrlH]
theorem f97_ok:compF Go.Proofs.Tryz.prog 0 [0,1,4,15] 97=some f97:=by kernel_rfl
theorem f97_n:argsOK Go.Proofs.Tryz.prog 97 2=true:=by kernel_rfl
noncomputable def f76:AFunc:=by
 refine(fun(_:Cz zclH zvlH zklH zrlH Go.Proofs.Tryz.prog 0 [0,2,3,4,7] 76 ?a)=>?a) ?h
 case h=>
 intro zc zv zk zr hc hv hk hr
 conv=>lhs;cbv;try simp only[hc,hv,hk,hr,zclH,zvlH,zklH,zrlH]
theorem f76_ok:compF Go.Proofs.Tryz.prog 0 [0,2,3,4,7] 76=some f76:=by kernel_rfl
theorem f76_n:argsOK Go.Proofs.Tryz.prog 76 1=true:=by kernel_rfl
noncomputable def f98:AFunc:=by
 refine(fun(_:Cz zclH zvlH zklH zrlH Go.Proofs.Tryz.prog 0 [0,1,2,3] 98 ?a)=>?a) ?h
 case h=>
 intro zc zv zk zr hc hv hk hr
 conv=>lhs;cbv;try simp only[hc,hv,hk,hr,zclH,zvlH,zklH,zrlH]
theorem f98_ok:compF Go.Proofs.Tryz.prog 0 [0,1,2,3] 98=some f98:=by kernel_rfl
theorem f98_n:argsOK Go.Proofs.Tryz.prog 98 1=true:=by kernel_rfl
noncomputable def f99:AFunc:=by
 refine(fun(_:Cz zclH zvlH zklH zrlH Go.Proofs.Tryz.prog 0 [0,1,4,5,9,17] 99 ?a)=>?a) ?h
 case h=>
 intro zc zv zk zr hc hv hk hr
 conv=>lhs;cbv;try simp only[hc,hv,hk,hr,zclH,zvlH,zklH,zrlH]
theorem f99_ok:compF Go.Proofs.Tryz.prog 0 [0,1,4,5,9,17] 99=some f99:=by kernel_rfl
theorem f99_n:argsOK Go.Proofs.Tryz.prog 99 2=true:=by kernel_rfl
noncomputable def f100:AFunc:=by
 refine(fun(_:Cz zclH zvlH zklH zrlH Go.Proofs.Tryz.prog 0 [0,1,2,4,5,6,12,28,35] 100 ?a)=>?a) ?h
 case h=>
 intro zc zv zk zr hc hv hk hr
 conv=>lhs;cbv;try simp only[hc,hv,hk,hr,zclH,zvlH,zklH,zrlH]
theorem f100_ok:compF Go.Proofs.Tryz.prog 0 [0,1,2,4,5,6,12,28,35] 100=some f100:=by kernel_rfl
theorem f100_n:argsOK Go.Proofs.Tryz.prog 100 2=true:=by kernel_rfl
end Go.AM.F

set_option maxRecDepth 8000
namespace Go.AM.Fd
open Nat (reduceAdd reduceEqDiff reduceLT reduceLeDiff reduceMul reduceSub)
open Go.Proofs Go.AM.F
theorem t76{H:AHeap}{n:Nat}(hn:n<64):∃w H',ARun Tryz.prog 0 76 [.int .i64 (n:Nat)] H w H'∧w=.int .u64 ((2 ^ n:Nat):Int)∧H'=H:=by
 refine walk2 f76_ok f76_n ?_
 intro Q hq1 hq2
 simp(disch:=first|assumption|omega)only[f76,P3,seval,initFr,clsA]
 rw[W_block]
 refine W_loop2 (fun q fr K=>∃i x4,fr=[.int .i64 ((n:Nat):Int),.int .u64 0,.int .u64 ((2 ^ i:Nat):Int),.int .i64 ((i:Nat):Int),x4]∧K=H∧i≤n∧q=n-i) n
  ⟨0,_,rfl,rfl,by omega,rfl⟩ ?_
 rintro Q' q fr K ⟨i,x4,rfl,rfl,hi,rfl⟩ hn' hx' hret
 by_cases hlt:i<n
 ·have e1:(i:Int)<((n:Nat):Int):=by omega
  have hw:IntKind.i64.wrap ((i:Int)+1)=((i+1:Nat):Int):=by rw[wrap_i64 (by omega) (by omega)];simp
  have hp:2 ^ (i+1)<U:=pow_u (by omega)
  have hm:IntKind.u64.wrap (((2 ^ i:Nat):Int)*2)=((2 ^ (i+1):Nat):Int):=by
   have:((2 ^ i:Nat):Int)*2=((2 ^ (i+1):Nat):Int):=by rw[Nat.pow_succ];simp
   rw[this,w64 _ hp]
  simp(disch:=first|assumption|omega)only[W_block,P3,seval,initFr,clsA,e1,hm,hw]
  exact hn' _ _ _ ⟨i+1,_,rfl,rfl,by omega,rfl⟩ (by omega)
 ·have e1:¬((i:Nat):Int)<((n:Nat):Int):=by omega
  have hie:i=n:=by omega
  subst hie
  simp(disch:=first|assumption|omega)only[W_block,P3,seval,initFr,clsA,e1]
  refine hx' _ _ _ ?_
  simp(disch:=first|assumption|omega)only[W_block,P3,seval,initFr,clsA]
  exact hq2 _ _ ⟨_,rfl,rfl,rfl⟩
theorem s_quo(f:Nat→Bool)(n:Nat):binA .quo (S64 f) (.int .u64 ((2 ^ n:Nat):Int))=some (S64 fun i=>decide (i+n<64)&&f (i+n)):=by
 unfold S64
 have hp:0<2 ^ n:=Nat.pow_pos (by omega)
 rw[b_quo _ _ _ (by omega)]
 have:Int.tdiv ((bitsN f 64:Nat):Int) ((2 ^ n:Nat):Int)=((bitsN f 64 / 2 ^ n:Nat):Int):=rfl
 rw[this,bit_shr,w64 _ (bitsN_lt _ _)]
theorem s_rem2(f:Nat→Bool):binA .rem (S64 f) (.int .u64 2)=some (I1 (f 0)):=by
 unfold S64 I1
 rw[b_rem _ _ _ (by omega)]
 have h1:Int.tmod ((bitsN f 64:Nat):Int) 2=((bitsN f 64 % 2:Nat):Int):=rfl
 have h2:=bitsN_t f 0 64
 rw[Nat.testBit_zero]at h2
 rw[h1]
 cases hf:f 0 with
 |true=>rw[hf]at h2;simp at h2;rw[h2];rfl
 |false=>rw[hf]at h2;simp at h2;rw[h2];rfl
theorem t43{H:AHeap}(f:Nat→Bool)(n:Int):∃w H',ARun Tryz.prog 0 43 [S64 f,.int .i64 n] H w H'∧w=.bool (hasB f n)∧H'=H:=by
 refine walk2 f43_ok f43_n ?_
 intro Q hq1 hq2
 unfold hasB at hq1 hq2
 by_cases h1:0≤n
 ·by_cases h2:n≤63
  ·obtain⟨m,rfl⟩:∃m:Nat,n=(m:Int):=⟨n.toNat,by omega⟩
   have h3:m<64:=by omega
   simp(disch:=first|assumption|omega)only[f43,W_block,P3,seval,initFr,clsA,h1,h2]
   refine callQ (t76 h3) ?_
   simp(disch:=first|assumption|omega)only[W_block,P3,seval,initFr,clsA,s_quo,s_rem2,i1_eq]
   refine hq2 _ _ ⟨.bool _,rfl,?_,rfl⟩
   have h4:(m:Int)<64:=by omega
   simp;intro _;omega
  ·have h4:¬n<64:=by omega
   simp(disch:=first|assumption|omega)only[f43,W_block,P3,seval,initFr,clsA,h1,h2]
   exact hq2 _ _ ⟨.bool _,rfl,by simp[h4],rfl⟩
 ·simp(disch:=first|assumption|omega)only[f43,W_block,P3,seval,initFr,clsA,h1]
  exact hq2 _ _ ⟨.bool _,rfl,by simp[h1],rfl⟩
theorem add_or{a b:Nat}(ha:a<U)(hb:b<U)(h:a&&& b=0):a+b=a|||b∧a+b<U:=by
 have hh:BitVec.ofNat 64 a&&& BitVec.ofNat 64 b=0#64:=by
  apply BitVec.eq_of_toNat_eq
  rw[BitVec.toNat_and,BitVec.toNat_ofNat,BitVec.toNat_ofNat,Nat.mod_eq_of_lt ha,Nat.mod_eq_of_lt hb,h];rfl
 have h2:=BitVec.add_eq_or_of_and_eq_zero _ _ hh
 have ho:a|||b<U:=or_u ha hb
 have h3:=congrArg BitVec.toNat h2
 rw[BitVec.toNat_add,BitVec.toNat_or,BitVec.toNat_ofNat,BitVec.toNat_ofNat,Nat.mod_eq_of_lt ha,Nat.mod_eq_of_lt hb]at h3
 have h5:a+b=a|||b+0:=by
  rcases Nat.lt_or_ge (a+b) U with hlt|hge
  ·rw[Nat.mod_eq_of_lt hlt]at h3;simpa using h3
  ·exfalso
   have hor:a≤a|||b:=Nat.left_le_or
   have:(a+b) % 2 ^ 64=a+b-U:=by
    have hu:(2:Nat) ^ 64=U:=rfl
    rw[hu,Nat.mod_eq_sub_mod hge,Nat.mod_eq_of_lt (by omega)]
   omega
 simp only[Nat.add_zero]at h5
 exact⟨h5,by rw[h5];exact ho⟩
theorem s_addp(f:Nat→Bool){n:Nat}(hn:n<64)(hf:f n=false):binA .add (S64 f) (.int .u64 ((2 ^ n:Nat):Int))=some (S64 fun i=>f i||oneP (n:Nat) i):=by
 unfold S64
 have h0:bitsN f 64&&& 2 ^ n=0:=by
  rw[bit_pow hn,bit_and,←bit_0 64]
  apply bits_ext;intro m _
  by_cases e:m=n
  ·subst e;simp[hf]
  ·simp[e]
 obtain⟨h1,h2⟩:=add_or (bits_u f (by omega)) (pow_u hn) h0
 have e:((bitsN f 64:Nat):Int)+((2 ^ n:Nat):Int)=((bitsN f 64+2 ^ n:Nat):Int):=by simp
 rw[b_add,e,w64 _ h2,h1,bit_pow hn,bit_or]
 congr 4
 congr 1
 funext i
 simp only[oneP,Int.ofNat_inj]
theorem t97{H:AHeap}(f:Nat→Bool)(n:Int):∃w H',ARun Tryz.prog 0 97 [S64 f,.int .i64 n] H w H'∧w=S64 (fun i=>f i||oneP n i)∧H'=H:=by
 refine walk2 f97_ok f97_n ?_
 intro Q hq1 hq2
 by_cases h1:n<0
 ·simp(disch:=first|assumption|omega)only[f97,W_block,P3,seval,initFr,clsA,h1]
  refine hq2 _ _ ⟨S64 _,rfl,?_,rfl⟩
  apply s64_ext;intro i hi
  have:¬(i:Int)=n:=by omega
  simp[oneP,this]
 ·by_cases h2:63<n
  ·simp(disch:=first|assumption|omega)only[f97,W_block,P3,seval,initFr,clsA,h1,h2]
   refine hq2 _ _ ⟨S64 _,rfl,?_,rfl⟩
   apply s64_ext;intro i hi
   have:¬(i:Int)=n:=by omega
   simp[oneP,this]
  ·obtain⟨m,rfl⟩:∃m:Nat,n=(m:Int):=⟨n.toNat,by omega⟩
   have h3:m<64:=by omega
   simp(disch:=first|assumption|omega)only[f97,W_block,P3,seval,initFr,clsA,h1,h2]
   refine callK (t43 _ _) ?_
   rintro _ X ⟨rfl,hX⟩
   rw[hX,has_nat _ h3]
   cases hf:f m with
   |true=>
    simp(disch:=first|assumption|omega)only[W_block,P3,seval,initFr,clsA]
    refine hq2 _ _ ⟨S64 _,rfl,?_,rfl⟩
    apply s64_ext;intro i hi
    by_cases e:i=m
    ·subst e;simp[hf]
    ·have:¬(i:Int)=(m:Int):=by omega
     simp[oneP,this]
   |false=>
    have sa:=s_addp f h3 hf
    simp(disch:=first|assumption|omega)only[W_block,P3,seval,initFr,clsA]
    refine callQ (t76 h3) ?_
    simp(disch:=first|assumption|omega)only[W_block,P3,seval,initFr,clsA,sa]
    exact hq2 _ _ ⟨_,rfl,rfl,rfl⟩
theorem t59{H:AHeap}(n:Int):∃w H',ARun Tryz.prog 0 59 [.int .i64 n] H w H'∧w=S64 (lowP n)∧H'=H:=by
 refine walk2 f59_ok f59_n ?_
 intro Q hq1 hq2
 simp(disch:=first|assumption|omega)only[f59,P3,seval,initFr,clsA]
 rw[W_block]
 refine W_loop2 (fun q fr K=>∃i x4,fr=[.int .i64 n,.int .u64 0,S64 (lowP (i:Nat)),.int .i64 ((i:Nat):Int),x4]∧K=H∧i≤64∧(i=0∨(i:Int)≤n)∧q=64-i) 64
  ⟨0,undef,by rw[show S64 (lowP ((0:Nat):Int))=.int .u64 0 from by rw[s_zero];exact s64_ext fun i _=>by simp[lowP]];rfl,rfl,by omega,.inl rfl,rfl⟩ ?_
 rintro Q' q fr K ⟨i,x4,rfl,rfl,hi,hin,rfl⟩ hn' hx' hret
 by_cases h1:(i:Int)<n
 ·by_cases h2:i<64
  ·have e2:(i:Int)<64:=by omega
   have hw:IntKind.i64.wrap ((i:Int)+1)=((i+1:Nat):Int):=by rw[wrap_i64 (by omega) (by omega)];simp
   simp(disch:=first|assumption|omega)only[W_block,P3,seval,initFr,clsA,h1,e2]
   refine callQ (t97 _ _) ?_
   simp(disch:=first|assumption|omega)only[W_block,P3,seval,initFr,clsA,hw]
   refine hn' _ _ _ ⟨i+1,.bool true,?_,rfl,by omega,.inr (by omega),rfl⟩ (by omega)
   congr 3
   apply s64_ext;intro j _
   by_cases e:j<i
   ·have a1:(j:Int)<(i:Int):=by omega
    have a2:(j:Int)<((i+1:Nat):Int):=by omega
    simp[lowP,oneP,a1,a2];omega
   ·by_cases e3:j=i
    ·subst e3;simp[lowP,oneP];omega
    ·have a1:¬(j:Int)<(i:Int):=by omega
     have a2:¬(j:Int)<((i+1:Nat):Int):=by omega
     have a3:¬(j:Int)=(i:Int):=by omega
     simp[lowP,oneP,a1,a2,a3];omega
  ·have e2:¬(i:Int)<64:=by omega
   simp(disch:=first|assumption|omega)only[W_block,P3,seval,initFr,clsA,h1,e2]
   refine hx' _ _ _ ?_
   simp(disch:=first|assumption|omega)only[W_block,P3,seval,initFr,clsA]
   refine hq2 _ _ ⟨S64 _,rfl,?_,rfl⟩
   apply s64_ext;intro j hj
   have a1:(j:Int)<(i:Int):=by omega
   have a2:(j:Int)<n:=by omega
   simp[lowP,a1,a2]
 ·simp(disch:=first|assumption|omega)only[W_block,P3,seval,initFr,clsA,h1]
  refine hx' _ _ _ ?_
  simp(disch:=first|assumption|omega)only[W_block,P3,seval,initFr,clsA]
  refine hq2 _ _ ⟨S64 _,rfl,?_,rfl⟩
  apply s64_ext;intro j hj
  simp only[lowP]
  rw[decide_eq_decide]
  omega
end Go.AM.Fd

set_option maxRecDepth 8000
namespace Go.AM.Fd
open Nat (reduceAdd reduceEqDiff reduceLT reduceLeDiff reduceMul reduceSub)
open Go.Proofs Go.AM.F
theorem t98{H:AHeap}{x:RV}(h:x.ok H)(hl:x.r.path.length+x.r.ov.length≤1000000):
 ∃w H',ARun Tryz.prog 0 98 [.agg x.row.toArray] H w H'∧IL H' w (trk x.r)∧Keeps H H'∧Fresh H.n w:=by
 refine walk2 f98_ok f98_n ?_
 intro Q hq1 hq2
 have o1:one1 (Value.int .i64 x.r.g)=True:=by simp[one1,one_int]
 have o2:one1 (Value.string ⟨x.r.n.toArray⟩)=True:=by simp[one1,one_str]
 obtain⟨a3,a4,a5,a6⟩:=RV.ones h
 have hp:=h.p
 have ho:=h.o
 have rowx:x.row=[.string ⟨x.r.n.toArray⟩,.int .i64 x.r.g,x.vp,x.vq,x.vo,x.vf]:=rfl
 obtain⟨K,hK⟩:∃X,X=H.alloc (.cells true false 6 x.row 49):=⟨_,rfl⟩
 have kK:Keeps H K:=by rw[hK];exact(Keeps.refl H).alloc _
 have gK:K.get H.n=some (.cells true false 6 x.row 49):=by rw[hK];exact AHeap.get_alloc_new H _
 rw[rowx]at hK gK ⊢
 simp(disch:=first|assumption|omega)only[f98,W_block,P3,seval,initFr,clsA,o1,o2,a3,a4,a5,a6]
 rw[←hK]
 refine OW.appR (OW.nil 3 1 kK) (Sl.keeps hp kK) (by simp;omega) ?_
 intro v K2 ow c2
 have kK2:Keeps K K2:=by rw[show blkL (Value.slice none 0 0)=[]from rfl]at c2;exact c2.keeps (by simp)
 have gK2:=kK2.at_ gK
 simp(disch:=first|assumption|omega)only[W_block,P3,seval,initFr,clsA,gK2]
 refine OW.appR ow (Sl.keeps ho (kK.trans kK2)) (by simp;omega) ?_
 intro v2 K3 ow2 c3
 simp(disch:=first|assumption|omega)only[W_block,P3,seval,initFr,clsA]
 refine hq2 _ _ ⟨v2,rfl,?_,ow2.k,ow2.f⟩
 have:=ow2.sl
 simpa[IL,trk]using this
theorem t61{H:AHeap}{x:RV}(h:x.ok H)(hl:x.r.pts.length+x.r.fl.length≤1000000):
 ∃w H',ARun Tryz.prog 0 61 [.agg x.row.toArray] H w H'∧NL H' w (nds x.r)∧Keeps H H'∧Fresh H.n w:=by
 refine walk2 f61_ok f61_n ?_
 intro Q hq1 hq2
 have o1:one1 (Value.int .i64 x.r.g)=True:=by simp[one1,one_int]
 have o2:one1 (Value.string ⟨x.r.n.toArray⟩)=True:=by simp[one1,one_str]
 obtain⟨a3,a4,a5,a6⟩:=RV.ones h
 have hp:=h.q
 have ho:=h.f
 have rowx:x.row=[.string ⟨x.r.n.toArray⟩,.int .i64 x.r.g,x.vp,x.vq,x.vo,x.vf]:=rfl
 obtain⟨K,hK⟩:∃X,X=H.alloc (.cells true false 6 x.row 49):=⟨_,rfl⟩
 have kK:Keeps H K:=by rw[hK];exact(Keeps.refl H).alloc _
 have gK:K.get H.n=some (.cells true false 6 x.row 49):=by rw[hK];exact AHeap.get_alloc_new H _
 rw[rowx]at hK gK ⊢
 simp(disch:=first|assumption|omega)only[f61,W_block,P3,seval,initFr,clsA,o1,o2,a3,a4,a5,a6]
 rw[←hK]
 refine OW.appR (OW.nil 55 2 kK) (Sl.keeps hp kK) (by simp;omega) ?_
 intro v K2 ow c2
 have kK2:Keeps K K2:=by rw[show blkL (Value.slice none 0 0)=[]from rfl]at c2;exact c2.keeps (by simp)
 have gK2:=kK2.at_ gK
 simp(disch:=first|assumption|omega)only[W_block,P3,seval,initFr,clsA,gK2]
 refine OW.appR ow (Sl.keeps ho (kK.trans kK2)) (by simp;omega) ?_
 intro v2 K3 ow2 c3
 simp(disch:=first|assumption|omega)only[W_block,P3,seval,initFr,clsA]
 refine hq2 _ _ ⟨v2,rfl,?_,ow2.k,ow2.f⟩
 have:=ow2.sl
 simpa[NL,nds]using this
theorem take_any{l:List Int}{i:Nat}{n:Int}(h:i<l.length)(hp:(l.take i).contains n=false)(hx:(l.getD i 0==n)=false):(l.take (i+1)).contains n=false:=by
 rw[List.take_add_one,List.getElem?_eq_getElem h,List.contains_append,hp]
 rw[List.getD_eq_getElem?_getD,List.getElem?_eq_getElem h]at hx
 simp only[Option.getD_some]at hx
 simp only[Option.toList_some,List.contains_cons,List.contains_nil,Bool.or_false,Bool.false_or]
 rw[Bool.eq_false_iff];intro e
 have:=beq_iff_eq.1 e
 simp[this]at hx
theorem t99{H:AHeap}{v:Value}{l:List Int}(h:IL H v l)(hl:l.length≤1000000)(n:Int):
 ∃w H',ARun Tryz.prog 0 99 [v,.int .i64 n] H w H'∧w=.bool (l.contains n)∧H'=H:=by
 refine walk2 f99_ok f99_n ?_
 intro Q hq1 hq2
 have is:=Sl.is h
 have len:=h.len
 simp(disch:=first|assumption|omega)only[f99,P3,seval,initFr,clsA]
 rw[W_block]
 refine W_loop2 (fun q fr K=>∃i x4 x5,fr=[v,.int .i64 n,.bool false,.int .i64 ((i:Nat):Int),x4,x5]∧K=H∧i≤l.length∧(l.take i).contains n=false∧q=l.length-i) l.length
  ⟨0,_,_,rfl,rfl,by omega,by simp,rfl⟩ ?_
 rintro Q' q fr K ⟨i,x4,x5,rfl,rfl,hi,hp,rfl⟩ hn' hx' hret
 by_cases hlt:i<l.length
 ·obtain⟨na,ra⟩:=h.at_ hlt
  have e0:(0:Int)≤(i:Int):=by omega
  have e1:(i:Int)<((l.length:Nat):Int):=by omega
  have hw:IntKind.i64.wrap ((i:Int)+1)=((i+1:Nat):Int):=by rw[wrap_i64 (by omega) (by omega)];simp
  have hgd:l.getD i 0∈l:=by rw[List.getD_eq_getElem?_getD,List.getElem?_eq_getElem hlt];exact List.getElem_mem hlt
  cases hx:(l.getD i 0==n)with
  |true=>
   simp(disch:=first|assumption|omega)only[W_block,P3,seval,initFr,clsA,is,len,e0,e1,na,ra,a_load1v,hx]
   refine hret _ _ ?_
   refine hq2 _ _ ⟨_,rfl,?_,rfl⟩
   have:l.contains n=true:=List.contains_iff_mem.2 (by rw[←beq_iff_eq.1 hx];exact hgd)
   rw[this];rfl
  |false=>
   simp(disch:=first|assumption|omega)only[W_block,P3,seval,initFr,clsA,is,len,e0,e1,na,ra,a_load1v,hx,hw]
   exact hn' _ _ _ ⟨i+1,_,_,rfl,rfl,by omega,take_any hlt hp hx,rfl⟩ (by omega)
 ·have e1:¬((i:Nat):Int)<((l.length:Nat):Int):=by omega
  have hie:i=l.length:=by omega
  subst hie
  rw[List.take_length]at hp
  simp(disch:=first|assumption|omega)only[W_block,P3,seval,initFr,clsA,is,len,e1]
  refine hx' _ _ _ ?_
  simp(disch:=first|assumption|omega)only[W_block,P3,seval,initFr,clsA]
  exact hq2 _ _ ⟨_,rfl,by rw[hp];rfl,rfl⟩
def kO:Option Bool→Int
 |some true=>2
 |some false=>1
 |none=>0
def nkB(l:List (Int×Bool))(p:Int):Int:=kO (sideO p l)
set_option maxHeartbeats 1000000 in
theorem t100{H:AHeap}{x:RV}(h:x.ok H)(hl:x.r.pts.length+x.r.fl.length≤1000000)(p:Int):
 ∃w H',ARun Tryz.prog 0 100 [.agg x.row.toArray,.int .i64 p] H w H'∧w=.int .i64 (nkB (nds x.r) p)∧H'=H:=by
 suffices h':∃w H',ARun Tryz.prog 0 100 [.agg x.row.toArray,.int .i64 p] H w H'∧w=.int .i64 (nkB (nds x.r) p)∧Keeps H H' by
  obtain⟨_,_,a,rfl,k⟩:=h'
  exact⟨_,_,a.gc0 k (.inr (.int _ _)),rfl,rfl⟩
 refine walk2 f100_ok f100_n ?_
 intro Q hq1 hq2
 have o1:one1 (Value.int .i64 x.r.g)=True:=by simp[one1,one_int]
 have o2:one1 (Value.string ⟨x.r.n.toArray⟩)=True:=by simp[one1,one_str]
 obtain⟨a3,a4,a5,a6⟩:=RV.ones h
 have rowx:x.row=[.string ⟨x.r.n.toArray⟩,.int .i64 x.r.g,x.vp,x.vq,x.vo,x.vf]:=rfl
 have kA:=(Keeps.refl H).alloc (.cells true false 6 x.row 49)
 have tN:=t61 (h.keeps kA) hl
 rw[rowx]at kA tN ⊢
 simp(disch:=first|assumption|omega|(simp only[LN]<;>omega)|(simp(disch:=first|assumption|omega|(simp only[LN]<;>omega))only[row_alloc,row_set];assumption))only[f100,W_block,P3,seval,initFr,clsA,o1,o2,a3,a4,a5,a6]
 refine callK tN ?_
 rintro nv K ⟨hn,kK,fn⟩
 have is:=Sl.is hn
 have len:=hn.len
 have nl:(nds x.r).length≤1000000:=by simp[nds];omega
 generalize nds x.r=l at*
 simp(disch:=first|assumption|omega)only[P3,seval,initFr,clsA]
 rw[W_block]
 refine W_loop2 (fun q fr X=>∃i x6 x7 x8,fr=[.agg #[.string ⟨x.r.n.toArray⟩,.int .i64 x.r.g,x.vp,x.vq,x.vo,x.vf],.int .i64 p,ptr H.n 0,.int .i64 0,nv,.int .i64 ((i:Nat):Int),x6,x7,x8]∧X=K∧i≤l.length∧sideO p (l.take i)=none∧q=l.length-i) l.length
  ⟨0,_,_,_,rfl,rfl,by omega,rfl,rfl⟩ ?_
 rintro Q' q fr X ⟨i,x6,x7,x8,rfl,rfl,hi,hp,rfl⟩ hn' hx' hret
 by_cases hlt:i<l.length
 ·obtain⟨na,ra⟩:=hn.at_ hlt
  have e0:(0:Int)≤(i:Int):=by omega
  have e1:(i:Int)<((l.length:Nat):Int):=by omega
  have hw:IntKind.i64.wrap ((i:Int)+1)=((i+1:Nat):Int):=by rw[wrap_i64 (by omega) (by omega)];simp
  obtain⟨z,hz⟩:∃z,z=l[i]:=⟨_,rfl⟩
  have hgd:l.getD i (0,false)=z:=by rw[List.getD_eq_getElem?_getD,List.getElem?_eq_getElem hlt,hz];rfl
  have hsp:l=l.take i++z::l.drop (i+1):=by rw[hz,←List.drop_eq_getElem_cons hlt,List.take_append_drop]
  have htk:l.take (i+1)=l.take i++[z]:=by rw[List.take_add_one,List.getElem?_eq_getElem hlt,hz];rfl
  have hfn:(l.take i).find? (fun x=>x.1==p)=none:=by unfold sideO at hp;simpa using hp
  have hyes:(z.1==p)=true→sideO p l=some z.2:=fun e=>by
   have:sideO p (l.take i++z::l.drop (i+1))=some z.2:=by
    unfold sideO;rw[List.find?_append,hfn];simp[e]
   rw[←hsp]at this;exact this
  have hno:(z.1==p)=false→sideO p (l.take (i+1))=none:=fun e=>by
   unfold sideO;rw[htk,List.find?_append,hfn];simp[e]
  rw[hgd]at ra
  clear hz hgd hsp htk
  obtain⟨zp,zb⟩:=z
  simp only at ra hyes hno
  cases hx:(zp==p)with
  |true=>
   have hs:=hyes hx
   cases zb with
   |true=>
    simp(disch:=first|assumption|omega)only[W_block,P3,seval,initFr,clsA,is,len,e0,e1,na,ra,a_load1v,hx]
    refine hret _ _ ?_
    exact hq2 _ _ ⟨_,rfl,by unfold nkB;rw[hs];rfl,kA.trans kK⟩
   |false=>
    simp(disch:=first|assumption|omega)only[W_block,P3,seval,initFr,clsA,is,len,e0,e1,na,ra,a_load1v,hx]
    refine hret _ _ ?_
    exact hq2 _ _ ⟨_,rfl,by unfold nkB;rw[hs];rfl,kA.trans kK⟩
  |false=>
   simp(disch:=first|assumption|omega)only[W_block,P3,seval,initFr,clsA,is,len,e0,e1,na,ra,a_load1v,hx,hw]
   exact hn' _ _ _ ⟨i+1,_,_,_,rfl,rfl,by omega,hno hx,rfl⟩ (by omega)
 ·have e1:¬((i:Nat):Int)<((l.length:Nat):Int):=by omega
  have hie:i=l.length:=by omega
  subst hie
  rw[List.take_length]at hp
  simp(disch:=first|assumption|omega)only[W_block,P3,seval,initFr,clsA,is,len,e1]
  refine hx' _ _ _ ?_
  simp(disch:=first|assumption|omega)only[W_block,P3,seval,initFr,clsA]
  exact hq2 _ _ ⟨_,rfl,by unfold nkB;rw[hp];rfl,kA.trans kK⟩
theorem kO_pt(x y:Option Bool)(s t:Bool):(decide (kO x≠kO y)&&(decide (0<kO x)&&decide (0<kO y)||decide (0<kO x)&&s||decide (0<kO y)&&t))=((x.isSome&&y.isSome||x.isSome&&s||y.isSome&&t)&& !(x==y)):=by
 rcases x with _|_|_<;>rcases y with _|_|_<;>cases s<;>cases t<;>decide
theorem cpt_nk(L:Ly)(a b:Ro)(p:Nat):(decide (nkB (nds a) p≠nkB (nds b) p)&&(decide (0<nkB (nds a) p)&&decide (0<nkB (nds b) p)||decide (0<nkB (nds a) p)&&(trk b).contains (L.p.getD p ([],0)).2 ||decide (0<nkB (nds b) p)&&(trk a).contains (L.p.getD p ([],0)).2))=cPt L a b p:=kO_pt _ _ _ _
set_option maxHeartbeats 2000000 in
theorem t60{H:AHeap}{u:V4}{xs:List RV}{L:Ly}{a b:RV}(h:LyR H u xs L)(oa:a.ok H)(ob:b.ok H)(la:RoLim L a.r)(lb:RoLim L b.r)(hL:LyLim L):
 ∃w H',ARun Tryz.prog 0 60 [.agg u.l.toArray,.agg a.row.toArray,.agg b.row.toArray] H w H'∧w=.bool (confB L a.r b.r)∧H'=H:=by
 suffices h':∃w H',ARun Tryz.prog 0 60 [.agg u.l.toArray,.agg a.row.toArray,.agg b.row.toArray] H w H'∧w=.bool (confB L a.r b.r)∧Keeps H H' by
  obtain⟨_,_,r,rfl,k⟩:=h'
  exact⟨_,_,r.gc0 k (.inr (.bool _)),rfl,rfl⟩
 refine walk2 f60_ok f60_n ?_
 intro Q hq1 hq2
 have lpp:=hL.p
 have lP:=la.p
 have lO:=la.o
 have lQ:=la.q
 have lF:=la.f
 have mP:=lb.p
 have mO:=lb.o
 have mQ:=lb.q
 have mF:=lb.f
 have os:=Sl.one h.s
 have op:=Sl.one h.p
 have og:=Sl.one h.g
 have or:=Sl.one h.r
 have ip:=Sl.is h.p
 have lenp:=h.p.len
 obtain⟨a3,a4,a5,a6⟩:=RV.ones oa
 obtain⟨b3,b4,b5,b6⟩:=RV.ones ob
 have a1:one1 (Value.int .i64 a.r.g)=True:=by simp[one1,one_int]
 have a2:one1 (Value.string ⟨a.r.n.toArray⟩)=True:=by simp[one1,one_str]
 have b1:one1 (Value.int .i64 b.r.g)=True:=by simp[one1,one_int]
 have b2:one1 (Value.string ⟨b.r.n.toArray⟩)=True:=by simp[one1,one_str]
 have rowa:a.row=[.string ⟨a.r.n.toArray⟩,.int .i64 a.r.g,a.vp,a.vq,a.vo,a.vf]:=rfl
 have rowb:b.row=[.string ⟨b.r.n.toArray⟩,.int .i64 b.r.g,b.vp,b.vq,b.vo,b.vf]:=rfl
 have hul:u.l=[u.s,u.p,u.g,u.r]:=rfl
 obtain⟨K0,hK0⟩:∃X,X=box3 H u a b:=⟨_,rfl⟩
 have k0:Keeps H K0:=by rw[hK0];exact box3_k H u a b
 have n0:K0.n=H.n+3:=by rw[hK0];rfl
 have gl:=box3_l H u a b
 have ga:=box3_a H u a b
 have gb:=box3_b H u a b
 rw[←hK0]at gl ga gb
 have tA:=t98 (oa.keeps k0) (by omega)
 have hK0':=hK0
 unfold box3 at hK0'
 simp only[hul,rowa,rowb]at hK0' gl ga gb tA ⊢
 have yes:confB L a.r b.r=true→∀{K:AHeap} {fr:List Value},Keeps H K→resO f60.res fr K=some (.bool true)→Q .ret fr K:=fun e K fr k hr=>hq2 _ _ ⟨_,hr,by rw[e],k⟩
 cases hg:(a.r.g==b.r.g)with
 |true=>
  simp(disch:=first|assumption|omega|(simp only[LN]<;>omega)|(simp(disch:=first|assumption|omega|(simp only[LN]<;>omega))only[row_alloc,row_set];assumption))only[f60,W_block,P3,seval,initFr,clsA,os,op,og,or,a1,a2,a3,a4,a5,a6,b1,b2,b3,b4,b5,b6,hg]
  simp only[←hK0']
  exact yes (by simp only[confB,hg,Bool.true_or]) k0 rfl
 |false=>
 simp(disch:=first|assumption|omega|(simp only[LN]<;>omega)|(simp(disch:=first|assumption|omega|(simp only[LN]<;>omega))only[row_alloc,row_set];assumption))only[f60,W_block,P3,seval,initFr,clsA,os,op,og,or,a1,a2,a3,a4,a5,a6,b1,b2,b3,b4,b5,b6,hg]
 simp only[←hK0']
 refine callK tA ?_
 rintro tv K1 ⟨ht,k1,ft⟩
 have tB:=t98 ((ob.keeps k0).keeps k1) (by omega)
 simp only[rowb]at tB
 have gb1:=k1.at_ gb
 have hb1:H.n+2<K1.n:=AHeap.get_lt gb1
 have hb0:H.n+2<K0.n:=AHeap.get_lt gb
 simp(disch:=first|assumption|omega|(simp only[LN]<;>omega)|(simp(disch:=first|assumption|omega|(simp only[LN]<;>omega))only[row_alloc,row_set];assumption))only[W_block,P3,seval,initFr,clsA,gb1,gb,hb1,hb0]
 refine callK tB ?_
 rintro wv K2 ⟨hw,k2,fw⟩
 have hti:IL K2 tv (trk a.r):=ht.keeps k2
 have tl:(trk a.r).length≤32:=by simp[trk];omega
 have wl:(trk b.r).length≤32:=by simp[trk];omega
 have lent:=hti.len
 have ist:=Sl.is hti
 have k12:=k1.trans k2
 have kH:=k0.trans k12
 have gl2:=k12.at_ gl
 have ga2:=k12.at_ ga
 have gb2:=k12.at_ gb
 simp(disch:=first|assumption|omega)only[P3,seval,initFr,clsA]
 rw[W_block]
 obtain⟨A1,hA1⟩:∃v:Value,v=.agg #[u.s,u.p,u.g,u.r]:=⟨_,rfl⟩
 obtain⟨A2,hA2⟩:∃v:Value,v=.agg #[.string ⟨a.r.n.toArray⟩,.int .i64 a.r.g,a.vp,a.vq,a.vo,a.vf]:=⟨_,rfl⟩
 obtain⟨A4,hA4⟩:∃v:Value,v=.agg #[.string ⟨b.r.n.toArray⟩,.int .i64 b.r.g,b.vp,b.vq,b.vo,b.vf]:=⟨_,rfl⟩
 rw[←hA1,←hA2,←hA4]
 refine W_loop2 (fun q fr X=>∃i x15 x16,fr=[A1,A2,A4,ptr H.n 0,ptr (H.n+1) 0,ptr (H.n+2) 0,.bool false,tv,wv,.int .i64 ((i:Nat):Int),undef,undef,undef,undef,.bool false,x15,x16,undef,undef]∧K2=X∧i≤(trk a.r).length∧
  ((trk a.r).take i).any (fun s=>(trk b.r).contains s)=false∧q=(trk a.r).length - i) (trk a.r).length
  ⟨0,_,_,rfl,rfl,by omega,by simp,rfl⟩ ?_
 rintro Q' q fr X ⟨i,x15,x16,rfl,rfl,hi,hp,rfl⟩ hn' hx' hret
 by_cases hlt:i<(trk a.r).length
 ·obtain⟨na,ra⟩:=hti.at_ hlt
  have e0:(0:Int)≤(i:Int):=by omega
  have e1:(i:Int)<(((trk a.r).length:Nat):Int):=by omega
  have hw':IntKind.i64.wrap ((i:Int)+1)=((i+1:Nat):Int):=by rw[wrap_i64 (by omega) (by omega)];simp
  have hgd:(trk a.r).getD i 0=(trk a.r)[i]:=by rw[List.getD_eq_getElem?_getD,List.getElem?_eq_getElem hlt];rfl
  simp(disch:=first|assumption|omega)only[W_block,P3,seval,initFr,clsA,ist,lent,e0,e1,na,ra,a_load1v]
  refine callQ (t99 hw (by omega) _) ?_
  cases hc:(trk b.r).contains ((trk a.r).getD i 0)with
  |true=>
   simp(disch:=first|assumption|omega)only[W_block,P3,seval,initFr,clsA]
   refine hret _ _ ?_
   refine yes ?_ kH rfl
   have:(trk a.r).any (fun s=>(trk b.r).contains s)=true:=List.any_eq_true.2 ⟨(trk a.r)[i],List.getElem_mem hlt,by rw[←hgd];exact hc⟩
   simp only[confB,this,Bool.or_true,Bool.true_or]
  |false=>
   simp(disch:=first|assumption|omega)only[W_block,P3,seval,initFr,clsA,hw']
   refine hn' _ _ _ ⟨i+1,_,_,rfl,rfl,by omega,?_,rfl⟩ (by omega)
   rw[List.take_add_one,List.getElem?_eq_getElem hlt,List.any_append,hp]
   rw[hgd]at hc
   simp only[Option.toList_some,List.any_cons,List.any_nil,hc];rfl
 ·have e1:¬((i:Nat):Int)<(((trk a.r).length:Nat):Int):=by omega
  have hie:i=(trk a.r).length:=by omega
  subst hie
  rw[List.take_length]at hp
  simp(disch:=first|assumption|omega)only[W_block,P3,seval,initFr,clsA,ist,lent,e1]
  refine hx' _ _ _ ?_
  simp(disch:=first|assumption|omega)only[P3,seval,initFr,clsA]
  rw[W_block]
  refine W_loop2 (fun q fr X=>∃i x11 x12 x13 x17 x18,fr=[A1,A2,A4,ptr H.n 0,ptr (H.n+1) 0,ptr (H.n+2) 0,.bool false,tv,wv,.int .i64 (((trk a.r).length:Nat):Int),.int .i64 ((i:Nat):Int),x11,x12,x13,.bool false,.bool false,x16,x17,x18]∧K2=X∧i≤L.p.length∧
   (List.range i).any (cPt L a.r b.r)=false∧q=L.p.length-i) L.p.length
   ⟨0,_,_,_,_,_,rfl,rfl,by omega,by simp,rfl⟩ ?_
  rintro Q2 q fr X ⟨i,x11,x12,x13,x17,x18,rfl,rfl,hi,hpp,rfl⟩ hn2 hx2 hret2
  by_cases hlt:i<L.p.length
  ·obtain⟨np,rp⟩:=(h.p.keeps kH).at_ hlt
   have e0:(0:Int)≤(i:Int):=by omega
   have e1:(i:Int)<((L.p.length:Nat):Int):=by omega
   have hw':IntKind.i64.wrap ((i:Int)+1)=((i+1:Nat):Int):=by rw[wrap_i64 (by omega) (by omega)];simp
   have nA:=t100 ((oa.keeps k0).keeps k12) (by omega) (i:Int)
   have nB:=t100 ((ob.keeps k0).keeps k12) (by omega) (i:Int)
   simp only[rowa,rowb,←hA2,←hA4]at nA nB
   have hb2:=AHeap.get_lt gb2
   have hcp:=cpt_nk L a.r b.r i
   simp(disch:=first|assumption|omega|(simp only[LN]<;>omega)|(simp(disch:=first|assumption|omega|(simp only[LN]<;>omega))only[row_alloc,row_set];assumption))only[W_block,P3,seval,initFr,clsA,gl2,ga2,ip,lenp,e1,←hA2]
   refine callK nA ?_
   rintro _ X ⟨rfl,hX⟩
   rw[hX]
   simp(disch:=first|assumption|omega|(simp only[LN]<;>omega)|(simp(disch:=first|assumption|omega|(simp only[LN]<;>omega))only[row_alloc,row_set];assumption))only[W_block,P3,seval,initFr,clsA,gb2,hb2,←hA4]
   refine callK nB ?_
   rintro _ X ⟨rfl,hX⟩
   rw[hX]
   have hpd:(L.p.getD i ([],0))=(L.p.getD i ([],0)):=rfl
   obtain⟨z,hz⟩:∃z,z=L.p.getD i ([],0):=⟨_,rfl⟩
   rw[←hz]at hcp rp
   obtain⟨x,hx⟩:∃x,x=nkB (nds a.r) (i:Int):=⟨_,rfl⟩
   obtain⟨y,hy⟩:∃y,y=nkB (nds b.r) (i:Int):=⟨_,rfl⟩
   rw[←hx,←hy]at hcp ⊢
   have hne:decide (x≠y)=(x != y):=by rw[Bool.eq_iff_iff];simp
   rw[hne]at hcp
   have good:cPt L a.r b.r i=false→(List.range (i+1)).any (cPt L a.r b.r)=false:=fun e=>by rw[List.range_succ,List.any_append,hpp];simp[e]
   have bad:cPt L a.r b.r i=true→confB L a.r b.r=true:=fun e=>by
    have:(List.range L.p.length).any (cPt L a.r b.r)=true:=List.any_eq_true.2 ⟨i,List.mem_range.2 hlt,e⟩
    simp only[confB,this,Bool.or_true]
   clear hz hx hy hne
   cases h1:(x != y)with
   |false=>
    rw[h1]at hcp
    simp(disch:=first|assumption|omega)only[W_block,P3,seval,initFr,clsA,gl2,ip,lenp,e0,e1,np,rp,a_load1v,hw',h1]
    exact hn2 _ _ _ ⟨i+1,_,_,_,_,_,rfl,rfl,by omega,good (by rw[←hcp];rfl),rfl⟩ (by omega)
   |true=>
   cases h2:decide (0<x)with
   |true=>
    cases h3:decide (0<y)with
    |true=>
     rw[h1,h2,h3]at hcp
     simp(disch:=first|assumption|omega)only[W_block,P3,seval,initFr,clsA,gl2,ip,lenp,e0,e1,np,rp,a_load1v,h1,h2,h3]
     refine hret2 _ _ ?_
     exact yes (bad (by rw[←hcp];simp)) kH rfl
    |false=>
     rw[h1,h2,h3]at hcp
     simp(disch:=first|assumption|omega)only[W_block,P3,seval,initFr,clsA,gl2,ip,lenp,e0,e1,np,rp,a_load1v,h1,h2,h3]
     refine callQ (t99 hw (by omega) _) ?_
     cases h4:(trk b.r).contains z.2 with
     |true=>
      rw[h4]at hcp
      simp(disch:=first|assumption|omega)only[W_block,P3,seval,initFr,clsA,h3]
      refine hret2 _ _ ?_
      exact yes (bad (by rw[←hcp];simp)) kH rfl
     |false=>
      rw[h4]at hcp
      simp(disch:=first|assumption|omega)only[W_block,P3,seval,initFr,clsA,h3,hw']
      exact hn2 _ _ _ ⟨i+1,_,_,_,_,_,rfl,rfl,by omega,good (by rw[←hcp];simp),rfl⟩ (by omega)
   |false=>
    cases h3:decide (0<y)with
    |false=>
     rw[h1,h2,h3]at hcp
     simp(disch:=first|assumption|omega)only[W_block,P3,seval,initFr,clsA,gl2,ip,lenp,e0,e1,np,rp,a_load1v,h1,h2,h3,hw']
     exact hn2 _ _ _ ⟨i+1,_,_,_,_,_,rfl,rfl,by omega,good (by rw[←hcp];simp),rfl⟩ (by omega)
    |true=>
     rw[h1,h2,h3]at hcp
     simp(disch:=first|assumption|omega)only[W_block,P3,seval,initFr,clsA,gl2,ip,lenp,e0,e1,np,rp,a_load1v,h1,h2,h3]
     refine callQ (t99 hti (by omega) _) ?_
     cases h4:(trk a.r).contains z.2 with
     |true=>
      rw[h4]at hcp
      simp(disch:=first|assumption|omega)only[W_block,P3,seval,initFr,clsA]
      refine hret2 _ _ ?_
      exact yes (bad (by rw[←hcp];simp)) kH rfl
     |false=>
      rw[h4]at hcp
      simp(disch:=first|assumption|omega)only[W_block,P3,seval,initFr,clsA,hw']
      exact hn2 _ _ _ ⟨i+1,_,_,_,_,_,rfl,rfl,by omega,good (by rw[←hcp];simp),rfl⟩ (by omega)
  ·have e1:¬((i:Nat):Int)<((L.p.length:Nat):Int):=by omega
   have hie:i=L.p.length:=by omega
   subst hie
   simp(disch:=first|assumption|omega)only[W_block,P3,seval,initFr,clsA,gl2,ip,lenp,e1]
   refine hx2 _ _ _ ?_
   simp(disch:=first|assumption|omega)only[W_block,P3,seval,initFr,clsA]
   exact hq2 _ _ ⟨_,rfl,by simp only[confB,hg,hp,hpp];rfl,kH⟩
end Go.AM.Fd

set_option maxRecDepth 8000
namespace Go.AM.Fd
open Nat (reduceAdd reduceEqDiff reduceLT reduceLeDiff reduceMul reduceSub)
open Go.Proofs Go.AM.F
theorem Z68H_z:Z68H=stl Sta0:=stl_zero
theorem O68H_r:O68H=List.replicate 68 1:=rfl
theorem fill_set(c:List Value)(o:Nat)(v:Value)(r:List (Nat×Nat×Value))(hv:v.cells.toList=[v])(ho:o<c.length):fillA c ((o,1,v)::r)=fillA (c.set o v) r:=by
 rw[fill_cons,hv,if_pos ⟨rfl,by omega⟩,List.set_eq_take_append_cons_drop,if_pos ho]
 simp
theorem fill_sta(a b:Nat→Bool):fillA (stl Sta0) [(0,1,S64 a),(67,1,S32 b)]=some (stl ⟨a,fun _=>false,fun _=>false,fun _=>0,b⟩):=by
 rw[fill_set _ _ _ _ rfl (by rw[stl_len];omega),set_0,fill_set _ _ _ _ rfl (by rw[stl_len];omega),set_67];rfl
theorem t62{H:AHeap}(s:Sta){p:Nat}(hp:p<32):∃w H',ARun Tryz.prog 0 62 [.agg (stl s).toArray,.int .i64 (p:Nat)] H w H'∧w=.bool (s.po p)∧H'=H:=by
 refine gcb ?_
 refine walk2 f62_ok f62_n ?_
 intro Q hq1 hq2
 have kA:=(Keeps.refl H).alloc (.cells true false 68 (stl s) 37)
 simp(disch:=first|assumption|omega)only[f62,W_block,P3,seval,initFr,clsA,stl_one,stl_len,stl_67,p_shr,p_and1,i1p_eq]
 refine hq2 _ _ ⟨.bool _,rfl,?_,kA⟩
 simp[hp]
def tidD(s:Sta)(L:Ly)(i:Nat):Sta where
 lo:=fun i=>s.lo i&&lowP L.r.length i
 us:=fun i=>s.us i&&(s.lo i&&lowP L.r.length i)
 ca:=fun i=>s.ca i&&(s.lo i&&lowP L.r.length i)
 ti:=fun j=>if j<i then(tidyS L s).ti j else 0
 po:=fun i=>s.po i&&lowP L.p.length i
set_option maxHeartbeats 2000000 in
theorem t23{H:AHeap}{u:V4}{xs:List RV}{L:Ly}(h:LyR H u xs L)(hL:LyLim L)(s:Sta):∃w H',ARun Tryz.prog 0 23 [.agg u.l.toArray,.agg (stl s).toArray] H w H'∧w=.agg (stl (tidyS L s)).toArray∧H'=H:=by
 refine gcst ?_
 refine walk2 f23_ok f23_n ?_
 intro Q hq1 hq2
 have lr:=hL.r
 have lp:=hL.p
 have os:=Sl.one h.s
 have op:=Sl.one h.p
 have og:=Sl.one h.g
 have or:=Sl.one h.r
 have ir:=Sl.is h.r
 have ip:=Sl.is h.p
 have lenr:=h.r.len
 have lenp:=h.p.len
 rw[h.rlen]at lenr
 have hul:u.l=[u.s,u.p,u.g,u.r]:=rfl
 obtain⟨K0,hK0⟩:∃X,X=((H.alloc (.cells true false 4 [u.s,u.p,u.g,u.r] 27)).alloc (.cells true false 68 (stl s) 37)).alloc (.cells true false 68 (stl Sta0) 37):=⟨_,rfl⟩
 have k0:Keeps H K0:=by rw[hK0];exact(((Keeps.refl H).alloc _).alloc _).alloc _
 have n0:K0.n=H.n+3:=by rw[hK0];rfl
 have gl0:K0.get H.n=some (.cells true false 4 [u.s,u.p,u.g,u.r] 27):=by rw[hK0];exact(((Keeps.refl _).alloc _).alloc _).at_ (AHeap.get_alloc_new H _)
 have gs0:K0.get (H.n+1)=some (.cells true false 68 (stl s) 37):=by rw[hK0];exact((Keeps.refl _).alloc _).at_ (AHeap.get_alloc_new (H.alloc _) _)
 have gw0:K0.get (H.n+2)=some (.cells true false 68 (stl Sta0) 37):=by rw[hK0];exact AHeap.get_alloc_new ((H.alloc _).alloc _) _
 have hs0:=AHeap.get_lt gs0
 have hl0:=AHeap.get_lt gl0
 rw[hul]
 simp(disch:=first|assumption|omega)only[f23,W_block,P3,seval,initFr,clsA,os,op,og,or,stl_one,stl_len,Z68H_z]
 simp only[←hK0]
 simp(disch:=first|assumption|omega)only[W_block,P3,seval,initFr,clsA,gl0,gs0,stl_0,ir,lenr]
 refine callQ (t59 _) ?_
 simp(disch:=first|assumption|omega)only[W_block,P3,seval,initFr,clsA,gl0,gs0,hl0,hs0,stl_67,ip,lenp,s_and]
 refine⟨by simp,callK (t59 _) ?_⟩
 rintro _ X ⟨rfl,hX⟩
 rw[hX]
 obtain⟨K1,hK1⟩:∃X,X=K0.alloc (.cells true false 68 (stl (tidD s L 0)) 37):=⟨_,rfl⟩
 have k1:Keeps K0 K1:=by rw[hK1];exact(Keeps.refl K0).alloc _
 have ga1:K1.get K0.n=some (.cells true false 68 (stl (tidD s L 0)) 37):=by rw[hK1];exact AHeap.get_alloc_new K0 _
 have eT:(⟨fun i=>s.lo i&&lowP L.r.length i,fun i=>s.us i&&(s.lo i&&lowP L.r.length i),fun i=>s.ca i&&(s.lo i&&lowP L.r.length i),fun _=>0,fun i=>s.po i&&lowP L.p.length i⟩:Sta)=tidD s L 0:=by simp[tidD]
 simp(disch:=first|assumption|omega)only[P3,seval,initFr,clsA,gl0,gs0,hl0,hs0,stl_0,s_down,p_and]
 refine⟨by simp,?_⟩
 simp(disch:=first|assumption|omega)only[P3,seval,initFr,clsA,gl0,gs0,hl0,hs0,stl_0,stl_1,stl_2,stl_67,set_1,set_2,s_and,p_and,s_down,fill_sta,stn68s,stl_one,stl_len,one_s64,o_s64]
 rw[eT,←hK1,W_block]
 have gl1:=k1.at_ gl0
 have gs1:=k1.at_ gs0
 have gw1:=k1.at_ gw0
 have kH1:=k0.trans k1
 refine W_loop2 (fun q fr K=>∃i x7 x8,fr=[.agg #[u.s,u.p,u.g,u.r],.agg (stl s).toArray,ptr H.n 0,ptr (H.n+1) 0,ptr (H.n+2) 0,ptr K0.n 0,.int .i64 ((i:Nat):Int),x7,x8]∧
  Chg [K0.n] K1 K∧K.get K0.n=some (.cells true false 68 (stl (tidD s L i)) 37)∧i≤L.r.length∧q=L.r.length-i) L.r.length
  ⟨0,_,_,rfl,Chg.refl _ _,ga1,by omega,rfl⟩ ?_
 rintro Q' q fr K ⟨i,x7,x8,rfl,cK,ga,hi,rfl⟩ hn' hx' hret
 have haK:=AHeap.get_lt ga
 have gl:=cK.at_ gl1 (by simp;omega)
 have gs:=cK.at_ gs1 (by simp;omega)
 have gw:=cK.at_ gw1 (by simp;omega)
 have hsK:=AHeap.get_lt gs
 have hw2:=AHeap.get_lt gw
 by_cases hlt:i<L.r.length
 ·have iN:i<64:=by omega
  have e0:(0:Int)≤(i:Int):=by omega
  have e1:(i:Int)<((L.r.length:Nat):Int):=by omega
  have e2:(i:Int)<64:=by omega
  have hw:IntKind.i64.wrap ((i:Int)+1)=((i+1:Nat):Int):=by rw[wrap_i64 (by omega) (by omega)];simp
  have hll:3+i<68:=by omega
  simp(disch:=first|assumption|omega)only[W_block,P3,seval,initFr,clsA,gl,ga,stl_2,ir,lenr,e1]
  refine callK (t43 _ _) ?_
  rintro _ X ⟨rfl,hX⟩
  rw[hX,has_nat _ iN]
  have hca:(tidD s L i).ca i=(s.ca i&&(s.lo i&&lowP L.r.length i)):=rfl
  have htt:(tidyS L s).ti i=if s.ca i&&(s.lo i&&lowP L.r.length i)then min (s.ti i) 20 else 0:=rfl
  rw[←hca]at htt
  have low:∀j,j<i→(tidD s L i).ti j=(tidD s L (i+1)).ti j:=fun j hj=>by
   show(if j<i then _ else _)=(if j<i+1 then _ else _)
   rw[if_pos hj,if_pos (by omega)]
  have up:∀j,i<j→(tidD s L i).ti j=(tidD s L (i+1)).ti j:=fun j hj=>by
   show(if j<i then _ else _)=(if j<i+1 then _ else _)
   rw[if_neg (by omega),if_neg (by omega)]
  have here:(tidD s L i).ti i=0:=by
   show(if i<i then _ else _)=_
   rw[if_neg (by omega)]
  have at_:(tidD s L (i+1)).ti i=(tidyS L s).ti i:=by
   show(if i<i+1 then _ else _)=_
   rw[if_pos (by omega)]
  cases hc:(tidD s L i).ca i with
  |false=>
   rw[hc]at htt
   simp(disch:=first|assumption|omega)only[W_block,P3,seval,initFr,clsA,hw]
   refine hn' _ _ _ ⟨i+1,_,_,rfl,cK,?_,by omega,rfl⟩ (by omega)
   rw[ga]
   congr 2
   refine stl_ext (fun _ _=>rfl) (fun _ _=>rfl) (fun _ _=>rfl) (fun j _=>?_) (fun _ _=>rfl)
   by_cases e:j=i
   ·subst e;rw[at_,htt,here];rfl
   ·rcases Nat.lt_or_gt_of_ne e with h|h
    ·exact low j h
    ·exact up j h
  |true=>
   rw[hc]at htt
   have hmn:min ((s.ti i:Nat):Int) 20=((min (s.ti i) 20:Nat):Int):=by omega
   have st1:=fun t:Sta=>set_t t iN (min (s.ti i) 20)
   have st:=stl_t s iN
   simp(disch:=first|assumption|omega)only[W_block,P3,seval,initFr,clsA,hw,e0,e2,gs,ga,st,a_mmn,hmn,a_iaddrp,stl_len,st1,hll,Int.toNat_natCast,Nat.mul_one]
   refine hn' _ _ _ ⟨i+1,_,_,rfl,cK.trans (Chg.set K haK _) (by simp),?_,by omega,rfl⟩ (by omega)
   rw[AHeap.get_set_same ga]
   congr 2
   refine stl_ext (fun _ _=>rfl) (fun _ _=>rfl) (fun _ _=>rfl) (fun j _=>?_) (fun _ _=>rfl)
   show upd _ _ _ j=_
   unfold upd
   by_cases e:j=i
   ·subst e;rw[if_pos rfl,at_,htt];rfl
   ·rw[if_neg e]
    rcases Nat.lt_or_gt_of_ne e with h|h
    ·exact low j h
    ·exact up j h
 ·have e1:¬((i:Nat):Int)<((L.r.length:Nat):Int):=by omega
  have hie:i=L.r.length:=by omega
  subst hie
  have ex:stl (tidD s L L.r.length)=stl (tidyS L s):=stl_ext (fun _ _=>rfl) (fun _ _=>rfl) (fun _ _=>rfl) (fun j hj=>by
   show(if j<L.r.length then _ else _)=(if _ then _ else _)
   by_cases h:j<L.r.length
   ·rw[if_pos h];rfl
   ·rw[if_neg h]
    have:lowP (L.r.length:Nat) j=false:=by simp[lowP];omega
    rw[this];simp) (fun _ _=>rfl)
  rw[ex]at ga
  simp(disch:=first|assumption|omega)only[W_block,P3,seval,initFr,clsA,gl,ir,lenr,e1]
  refine hx' _ _ _ ?_
  simp(disch:=first|assumption|omega)only[W_block,P3,seval,initFr,clsA,ga,gw,rng68,stn68s]
  refine hq2 _ _ ⟨.agg (stl (tidyS L s)).toArray,?_,rfl,(kH1.chg_trans cK (by simp;omega)).set (by omega) hw2 _⟩
  show resO [.cn 68 4] _ _=_
  rw[resC]
  show celln 68 (ptr (H.n+2) 0) _=_
  rw[cellnp,rangeA_e,AHeap.get_set_same gw,rng68];rfl
end Go.AM.Fd

set_option maxRecDepth 8000
namespace Go.AM.Fd
open Nat (reduceAdd reduceEqDiff reduceLT reduceLeDiff reduceMul reduceSub)
open Go.Proofs Go.AM.F
def kOK(L:Ly)(s:Sta)(i k:Nat):Bool:= !((decide (i≠k)&&s.lo k)&&cf L i k)
def nOK(s:Sta)(i:Nat)(x:Int×Bool):Bool:= !(s.lo i&&(s.po x.1.toNat != x.2))
def iOK(L:Ly)(s:Sta)(i:Nat):Bool:=(!s.lo i||(List.range L.r.length).all (kOK L s i))&&(nds (ro L i)).all (nOK s i)
def rgtD(L:Ly)(s:Sta):Bool:=staB (tidyS L s) s&&(List.range L.r.length).all (iOK L s)
theorem all_snoc{p:Nat→Bool}{i:Nat}(h:(List.range i).all p=true)(h2:p i=true):(List.range (i+1)).all p=true:=by
 rw[List.range_succ,List.all_append,h];simp[h2]
theorem all_at{p:Nat→Bool}{n i:Nat}(hi:i<n)(h:p i=false):(List.range n).all p=false:=
 List.all_eq_false.2 ⟨i,List.mem_range.2 hi,by simp[h]⟩
set_option maxHeartbeats 4000000 in
theorem t24{H:AHeap}{u:V4}{xs:List RV}{L:Ly}(h:LyR H u xs L)(he:checkE L=0)(s:Sta):∃w H',ARun Tryz.prog 0 24 [.agg u.l.toArray,.agg (stl s).toArray] H w H'∧w=.bool (rgtD L s)∧H'=H:=by
 refine gcb ?_
 refine walk2 f24_ok f24_n ?_
 intro Q hq1 hq2
 have hmay:=check_may he
 have hL:=may_lim hmay
 have lr:=hL.r
 have lpp:=hL.p
 have os:=Sl.one h.s
 have op:=Sl.one h.p
 have og:=Sl.one h.g
 have or:=Sl.one h.r
 have ir:=Sl.is h.r
 have lenr:=h.r.len
 rw[h.rlen]at lenr
 have hul:u.l=[u.s,u.p,u.g,u.r]:=rfl
 obtain⟨K0,hK0⟩:∃X,X=(H.alloc (.cells true false 4 [u.s,u.p,u.g,u.r] 27)).alloc (.cells true false 68 (stl s) 37):=⟨_,rfl⟩
 have k0:Keeps H K0:=by rw[hK0];exact((Keeps.refl H).alloc _).alloc _
 have n0:K0.n=H.n+2:=by rw[hK0];rfl
 have gl0:K0.get H.n=some (.cells true false 4 [u.s,u.p,u.g,u.r] 27):=by rw[hK0];exact((Keeps.refl _).alloc _).at_ (AHeap.get_alloc_new H _)
 have gs0:K0.get (H.n+1)=some (.cells true false 68 (stl s) 37):=by rw[hK0];exact AHeap.get_alloc_new (H.alloc _) _
 have hs0:=AHeap.get_lt gs0
 have tT:=t23 (h.keeps k0) hL s
 have eqs0:=fun K neg a b=>eq_stl K neg a b
 have hno:rgtD L s=false→∀{K:AHeap} {fr:List Value},Keeps H K→resO f24.res fr K=some (.bool false)→Q .ret fr K:=fun e K fr k hr=>hq2 _ _ ⟨_,hr,by rw[e],k⟩
 rw[hul]at tT ⊢
 simp(disch:=first|assumption|omega|(simp only[LN]<;>omega)|(simp(disch:=first|assumption|omega|(simp only[LN]<;>omega))only[row_alloc,row_set];assumption))only[f24,W_block,P3,seval,initFr,clsA,os,op,og,or,stl_one,stl_len,rng68]
 simp only[←hK0]
 refine callK tT ?_
 rintro _ X ⟨rfl,hX⟩
 rw[hX]
 cases hsb:staB (tidyS L s) s with
 |false=>
  simp(disch:=first|assumption|omega|(simp only[LN]<;>omega)|(simp(disch:=first|assumption|omega|(simp only[LN]<;>omega))only[row_alloc,row_set];assumption))only[W_block,P3,↓reduceIte,reduceAdd,reduceEqDiff,reduceCtorEq,initFr,reduceLT,clsA,reduceLeDiff,reduceMul,reduceSub,reduceIte,gs0,rng68,O68H_r,eqs0,hsb,hs0]
  exact hno (by unfold rgtD;rw[hsb];rfl) k0 rfl
 |true=>
 simp(disch:=first|assumption|omega|(simp only[LN]<;>omega)|(simp(disch:=first|assumption|omega|(simp only[LN]<;>omega))only[row_alloc,row_set];assumption))only[P3,↓reduceIte,reduceAdd,reduceEqDiff,reduceCtorEq,initFr,reduceLT,clsA,reduceLeDiff,reduceMul,reduceSub,reduceIte,gs0,rng68,O68H_r,eqs0,hsb,hs0]
 obtain⟨A1,hA1⟩:∃v:Value,v=.agg #[u.s,u.p,u.g,u.r]:=⟨_,rfl⟩
 obtain⟨A2,hA2⟩:∃v:Value,v=.agg (stl s).toArray:=⟨_,rfl⟩
 rw[W_block,←hA1,←hA2]
 refine W_loop2 (fun q fr K=>∃i x6 x7 x8 x10 x11 x12 x13 x14,fr=[A1,A2,ptr H.n 0,ptr (H.n+1) 0,.bool false,.int .i64 ((i:Nat):Int),x6,x7,x8,.bool false,x10,x11,x12,x13,x14]∧
  Keeps K0 K∧(List.range i).all (iOK L s)=true∧i≤L.r.length∧q=L.r.length-i) L.r.length
  ⟨0,_,_,_,_,_,_,_,_,rfl,Keeps.refl _,rfl,by omega,rfl⟩ ?_
 rintro Q' q fr K ⟨i,x6,x7,x8,x10,x11,x12,x13,x14,rfl,kK,hall,hi,rfl⟩ hn' hx' hret
 have gl:=kK.at_ gl0
 have gs:=kK.at_ gs0
 have hsK:=AHeap.get_lt gs
 by_cases hlt:i<L.r.length
 ·have iN:i<64:=by omega
  have e0:(0:Int)≤(i:Int):=by omega
  have e1:(i:Int)<((L.r.length:Nat):Int):=by omega
  have hw:IntKind.i64.wrap ((i:Int)+1)=((i+1:Nat):Int):=by rw[wrap_i64 (by omega) (by omega)];simp
  have hiT:=fun e=>all_at (p:=iOK L s) hlt e
  have hbad:iOK L s i=false→rgtD L s=false:=fun e=>by unfold rgtD;rw[hiT e];simp
  obtain⟨hyr,hyo⟩:=rv_ro h hlt
  obtain⟨na,ra⟩:=(h.r.keeps (k0.trans kK)).at_ (i:=i) (by rw[h.rlen];exact hlt)
  have hgood:=check_good he (List.getElem_mem hlt)
  rw[←ro_eq hlt,←hyr]at hgood
  generalize xs.getD i rv0=y at*
  have rowy:y.row=[.string ⟨y.r.n.toArray⟩,.int .i64 y.r.g,y.vp,y.vq,y.vo,y.vf]:=rfl
  simp(disch:=first|assumption|omega)only[P3,seval,initFr,clsA,gl,ir,lenr,e1]
  rw[W_block]
  simp(disch:=first|assumption|omega)only[P3,seval,initFr,clsA]
  rw[W_block]
  -- the pairs
  refine W_loop2 (fun q fr X=>∃k x11 x12,fr=[A1,A2,ptr H.n 0,ptr (H.n+1) 0,.bool false,.int .i64 ((i:Nat):Int),.int .i64 ((k:Nat):Int),x7,x8,.bool false,.bool true,x11,x12,x13,x14]∧
   K=X∧(s.lo i=true→(List.range k).all (kOK L s i)=true)∧k≤L.r.length∧(s.lo i=false→k=0)∧q=L.r.length-k) L.r.length
   ⟨0,_,_,rfl,rfl,fun _=>rfl,by omega,fun _=>rfl,rfl⟩ ?_
  rintro Q2 q fr X ⟨k,x11,x12,rfl,rfl,hk,hkl,hk0,rfl⟩ hn2 hx2 hret2
  have goon:(s.lo i=true→(List.range L.r.length).all (kOK L s i)=true)→∀{x6 x11 x12:Value},Q2 (.exit 2) [A1,A2,ptr H.n 0,ptr (H.n+1) 0,.bool false,.int .i64 ((i:Nat):Int),x6,x7,x8,.bool false,.bool true,x11,x12,x13,x14] K:=by
   intro hkk x6 x11 x12
   have hks:(!s.lo i||(List.range L.r.length).all (kOK L s i))=true:=by
    cases hlo:s.lo i with
    |false=>rfl
    |true=>rw[hkk hlo];rfl
   refine hx2 _ _ _ ?_
   have tN:=t61 ((hyo.keeps k0).keeps kK) (by have:=hgood.lim.q;have:=hgood.lim.f;omega)
   simp only[rowy]at tN ra
   simp(disch:=first|assumption|omega)only[W_block,P3,seval,initFr,clsA,gl,ir,lenr,na,ra,e1,a_loadnvf]
   refine callK tN ?_
   rintro nv K2 ⟨hnv,k2,fnv⟩
   have gl2:=k2.at_ gl
   have gs2:=k2.at_ gs
   have hs2:=AHeap.get_lt gs2
   have isn:=Sl.is hnv
   have lenn:=hnv.len
   have ndl:(nds y.r).length≤32:=by have:=hgood.lim.q;have:=hgood.lim.f;simp[nds];omega
   simp(disch:=first|assumption|omega)only[P3,seval,initFr,clsA]
   rw[W_block]
   refine W_loop2 (fun q fr X=>∃j x13 x14,fr=[A1,A2,ptr H.n 0,ptr (H.n+1) 0,.bool false,.int .i64 ((i:Nat):Int),x6,nv,.int .i64 ((j:Nat):Int),.bool false,.bool true,x11,x12,x13,x14]∧
    K2=X∧((nds y.r).take j).all (nOK s i)=true∧j≤(nds y.r).length∧q=(nds y.r).length - j) (nds y.r).length
    ⟨0,_,_,rfl,rfl,by simp,by omega,rfl⟩ ?_
   rintro Q3 q fr X ⟨j,x13,x14,rfl,rfl,hj,hjl,rfl⟩ hn3 hx3 hret3
   by_cases hjlt:j<(nds y.r).length
   ·obtain⟨nj,rj⟩:=hnv.at_ hjlt
    have j0:(0:Int)≤(j:Int):=by omega
    have j1:(j:Int)<(((nds y.r).length:Nat):Int):=by omega
    have hw3:IntKind.i64.wrap ((j:Int)+1)=((j+1:Nat):Int):=by rw[wrap_i64 (by omega) (by omega)];simp
    have hgd:(nds y.r).getD j (0,false)=(nds y.r)[j]:=by rw[List.getD_eq_getElem?_getD,List.getElem?_eq_getElem hjlt];rfl
    have htk:(nds y.r).take (j+1)=(nds y.r).take j++[(nds y.r)[j]]:=by rw[List.take_add_one,List.getElem?_eq_getElem hjlt];rfl
    have hmem:=List.getElem_mem hjlt
    have hrng:=hgood.nd _ hmem
    rw[hgd]at rj
    generalize(nds y.r)[j]=z at*
    obtain⟨zp,zb⟩:=z
    obtain⟨m,rfl⟩:∃m:Nat,zp=(m:Int):=⟨zp.toNat,by have:=hrng.1;simp only at this;omega⟩
    have hm32:m<32:=by have:=hrng.2;simp only at this;omega
    have ok1:nOK s i ((m:Int),zb)=true→((nds y.r).take (j+1)).all (nOK s i)=true:=fun e=>by rw[htk,List.all_append,hj];simp[e]
    have bad1:nOK s i ((m:Int),zb)=false→rgtD L s=false:=fun e=>hbad (by
     unfold iOK
     have:(nds (ro L i)).all (nOK s i)=false:=List.all_eq_false.2 ⟨_,by rw[←hyr];exact hmem,by simp[e]⟩
     rw[this];simp)
    have hnOK:nOK s i ((m:Int),zb)= !(s.lo i&&(s.po m != zb)):=rfl
    simp(disch:=first|assumption|omega)only[W_block,P3,seval,initFr,clsA,isn,lenn,j1,gs2,stl_0]
    refine callK (t43 _ _) ?_
    rintro _ X ⟨rfl,hX⟩
    rw[hX,has_nat _ iN]
    cases hlo:s.lo i with
    |false=>
     rw[hlo]at hnOK
     simp(disch:=first|assumption|omega)only[W_block,P3,seval,initFr,clsA,hw3]
     exact hn3 _ _ _ ⟨j+1,_,_,rfl,rfl,ok1 (by rw[hnOK];rfl),by omega,rfl⟩ (by omega)
    |true=>
     rw[hlo]at hnOK
     simp(disch:=first|assumption|omega)only[W_block,P3,seval,initFr,clsA,gs2,rng68,nj,rj,lenn,j0,j1,a_load1v]
     refine callQ (t62 s hm32) ?_
     have qq:=row_lt rj
     cases hpo:s.po m<;>cases zb<;>rw[hpo]at hnOK
     ·simp(disch:=first|assumption|omega)only[W_block,P3,seval,initFr,clsA,nj,rj,lenn,j0,j1,a_load1v,hw3,qq]
      exact hn3 _ _ _ ⟨j+1,_,_,rfl,rfl,ok1 (by rw[hnOK];rfl),by omega,rfl⟩ (by omega)
     ·simp(disch:=first|assumption|omega)only[W_block,P3,seval,initFr,clsA,nj,rj,lenn,j0,j1,a_load1v,hw3,qq]
      refine hret3 _ _ ?_
      refine hret _ _ ?_
      exact hno (bad1 (by rw[hnOK];rfl)) ((k0.trans kK).trans k2) rfl
     ·simp(disch:=first|assumption|omega)only[W_block,P3,seval,initFr,clsA,nj,rj,lenn,j0,j1,a_load1v,hw3,qq]
      refine hret3 _ _ ?_
      refine hret _ _ ?_
      exact hno (bad1 (by rw[hnOK];rfl)) ((k0.trans kK).trans k2) rfl
     ·simp(disch:=first|assumption|omega)only[W_block,P3,seval,initFr,clsA,nj,rj,lenn,j0,j1,a_load1v,hw3,qq]
      exact hn3 _ _ _ ⟨j+1,_,_,rfl,rfl,ok1 (by rw[hnOK];rfl),by omega,rfl⟩ (by omega)
   ·have j1:¬((j:Nat):Int)<(((nds y.r).length:Nat):Int):=by omega
    have hje:j=(nds y.r).length:=by omega
    subst hje
    rw[List.take_length,hyr]at hj
    simp(disch:=first|assumption|omega)only[W_block,P3,seval,initFr,clsA,isn,lenn,j1]
    refine hx3 _ _ _ ?_
    simp(disch:=first|assumption|omega)only[W_block,P3,seval,initFr,clsA,hw]
    exact hn' _ _ _ ⟨i+1,_,_,_,_,_,_,_,_,rfl,kK.trans k2,all_snoc hall (by unfold iOK;rw[hks,hj];rfl),by omega,rfl⟩ (by omega)
  by_cases hlk:k<L.r.length
  ·have kN:k<64:=by omega
   have c0:(0:Int)≤(k:Int):=by omega
   have c1:((k:Nat):Int)<((L.r.length:Nat):Int):=by omega
   have hw2:IntKind.i64.wrap ((k:Int)+1)=((k+1:Nat):Int):=by rw[wrap_i64 (by omega) (by omega)];simp
   simp(disch:=first|assumption|omega)only[W_block,P3,seval,initFr,clsA,gl,gs,ir,lenr,c1,stl_0]
   refine callK (t43 _ _) ?_
   rintro _ X ⟨rfl,hX⟩
   rw[hX,has_nat _ iN]
   cases hlo:s.lo i with
   |false=>
    simp(disch:=first|assumption|omega)only[W_block,P3,seval,initFr,clsA]
    exact goon (fun e=>by rw[hlo]at e;cases e)
   |true=>
    have okk:kOK L s i k=true→(List.range (k+1)).all (kOK L s i)=true:=fun e=>all_snoc (hk hlo) e
    have badk:kOK L s i k=false→rgtD L s=false:=fun e=>hbad (by
     unfold iOK;rw[hlo,all_at hlk e];rfl)
    have hkk:kOK L s i k= !((decide (i≠k)&&s.lo k)&&cf L i k):=rfl
    by_cases hik:i=k
    ·subst hik
     simp(disch:=first|assumption|omega)only[W_block,P3,seval,initFr,clsA,hw2]
     exact hn2 _ _ _ ⟨i+1,_,_,rfl,rfl,fun _=>okk (by rw[hkk];simp),by omega,fun e=>(by rw[hlo]at e;cases e),rfl⟩ (by omega)
    ·have nik:((i:Int) != (k:Int))=true:=by simp;omega
     simp(disch:=first|assumption|omega)only[W_block,P3,seval,initFr,clsA,nik,gs,stl_0,hsK]
     refine callK (t43 _ _) ?_
     rintro _ X ⟨rfl,hX⟩
     rw[hX,has_nat _ kN]
     cases hlk2:s.lo k with
     |false=>
      simp(disch:=first|assumption|omega)only[W_block,P3,seval,initFr,clsA,hw2]
      exact hn2 _ _ _ ⟨k+1,_,_,rfl,rfl,fun _=>okk (by rw[hkk,hlk2];simp),by omega,fun e=>(by rw[hlo]at e;cases e),rfl⟩ (by omega)
     |true=>
      obtain⟨hzr,hzo⟩:=rv_ro h hlk
      obtain⟨nb,rb⟩:=(h.r.keeps (k0.trans kK)).at_ (i:=k) (by rw[h.rlen];exact hlk)
      have zlim:=may_ro hmay (List.getElem_mem hlk)
      rw[←ro_eq hlk,←hzr]at zlim
      generalize xs.getD k rv0=z at*
      have rowz:z.row=[.string ⟨z.r.n.toArray⟩,.int .i64 z.r.g,z.vp,z.vq,z.vo,z.vf]:=rfl
      have tC:=t60 ((h.keeps k0).keeps kK) ((hyo.keeps k0).keeps kK) ((hzo.keeps k0).keeps kK) hgood.lim zlim hL
      simp only[hul,rowy,rowz]at tC ra rb
      simp(disch:=first|assumption|omega|(simp only[LN]<;>omega)|(simp(disch:=first|assumption|omega|(simp only[LN]<;>omega))only[row_alloc,row_set];assumption))only[W_block,P3,seval,initFr,clsA,gl,gs,ir,lenr,na,ra,nb,rb,c0,c1,e0,e1,a_loadnvf]
      refine callK tC ?_
      rintro _ X ⟨rfl,hX⟩
      rw[hX,hyr,hzr]
      have hcf:confB L (ro L i) (ro L k)=cf L i k:=rfl
      rw[hcf]
      cases hc:cf L i k with
      |false=>
       simp(disch:=first|assumption|omega)only[W_block,P3,seval,initFr,clsA,hw2]
       exact hn2 _ _ _ ⟨k+1,_,_,rfl,rfl,fun _=>okk (by rw[hkk,hlk2,hc];simp),by omega,fun e=>(by rw[hlo]at e;cases e),rfl⟩ (by omega)
      |true=>
       simp(disch:=first|assumption|omega)only[W_block,P3,seval,initFr,clsA]
       refine hret2 _ _ ?_
       refine hret _ _ ?_
       exact hno (badk (by rw[hkk,hlk2,hc];simp;exact hik)) (k0.trans kK) rfl
  ·have c1:¬((k:Nat):Int)<((L.r.length:Nat):Int):=by omega
   have hke:k=L.r.length:=by omega
   subst hke
   simp(disch:=first|assumption|omega)only[W_block,P3,seval,initFr,clsA,gl,ir,lenr,c1]
   exact goon hk
 ·have e1:¬((i:Nat):Int)<((L.r.length:Nat):Int):=by omega
  have hie:i=L.r.length:=by omega
  subst hie
  simp(disch:=first|assumption|omega)only[W_block,P3,seval,initFr,clsA,gl,ir,lenr,e1]
  refine hx' _ _ _ ?_
  simp(disch:=first|assumption|omega)only[W_block,P3,seval,initFr,clsA]
  exact hq2 _ _ ⟨_,rfl,by unfold rgtD;rw[hsb,hall];rfl,k0.trans kK⟩
end Go.AM.Fd

set_option maxRecDepth 8000
namespace Go.AM.Fd
open Nat (reduceAdd reduceEqDiff reduceLT reduceLeDiff reduceMul reduceSub)
open Go.Proofs Go.AM.F
theorem s_shr32(f:Nat→Bool):binA .shr (S64 f) (.int .u64 32)=some (S64 fun i=>decide (i+32<64)&&f (i+32)):=by
 have h:=s_shr f 32
 unfold S64 at h ⊢
 rw[b_shr .u64 _ ((32:Nat):Int) .i64 (by omega)]at h
 rw[b_shr .u64 _ 32 .u64 (by omega)]
 exact h
theorem one_low{m:Nat}(hm:m≤64)(n:Int):none64 (fun j=>oneP n j&&lowP (m:Int) j)= !(decide (0≤n)&&decide (n<(m:Int))):=by
 unfold none64
 rw[Bool.eq_iff_iff,List.all_eq_true]
 simp only[oneP,lowP,List.mem_range,Bool.not_eq_true',Bool.and_eq_false_iff,decide_eq_false_iff_not]
 constructor
 ·intro h
  by_cases h0:0≤n
  ·right
   intro h1
   rcases h n.toNat (by omega)with h2|h2
   ·exact h2 (by omega)
   ·exact h2 (by omega)
  ·exact .inl h0
 ·intro h i hi
  by_cases e:(i:Int)=n
  ·right;omega
  ·exact .inl e
def turnP(L:Ly)(s:Sta)(i p:Nat):Bool:=(nor L i p&&s.po p)||(rev L i p&& !s.po p)
def setC(L:Ly)(oc:Nat→Bool)(s:Sta)(i:Nat):Bool:=none64 (fun j=>s.lo j&&(oneP (i:Nat) j||tabP L i j))&&none64 (fun j=>oc j&&(trP (ro L i) j||lieU L (turnP L s i) j))
def cancC(s:Sta)(i:Nat):Bool:= !none64 (fun j=>((oneP (i:Nat) j&&s.lo j)&& !s.us j)&& !s.ca j)
def ptP(L:Ly)(n:Int)(j:Nat):Bool:=oneP n j&&lowP L.p.length j
def moveC(L:Ly)(oc:Nat→Bool)(s:Sta)(n:Int):Bool:=none64 (fun i=>decide (i+32<64)&&oneP n (i+32))&&(!none32 (fun j=>ptP L n j&& !(anyR L s.lo (nor L) j||anyR L s.lo (rev L) j))&&none64 (fun j=>lieU L (ptP L n) j&&oc j))
def setS(L:Ly)(s:Sta)(i:Nat):Sta:={s with lo:=fun j=>s.lo j||oneP (i:Nat) j,po:=fun p=>s.po p ^^ turnP L s i p}
def cancS(L:Ly)(oc:Nat→Bool)(s:Sta)(i:Nat):Sta:={s with ca:=fun j=>s.ca j||oneP (i:Nat) j,ti:=upd s.ti i (if !none64 (fun j=>ahP L (ro L i) j&&oc j)then 20 else 0)}
def moveS(L:Ly)(s:Sta)(n:Int):Sta:={s with po:=fun j=>s.po j ^^ ptP L n j}
def comB(L:Ly)(oc:Nat→Bool)(s:Sta)(kd n:Int):Sta:=
 if kd=1 then(if 0≤n∧n<L.r.length then(if setC L oc s n.toNat then setS L s n.toNat else s)else s)
 else if kd=2 then(if 0≤n∧n<L.r.length then(if cancC s n.toNat then cancS L oc s n.toNat else s)else s)
 else if kd=3 then(if moveC L oc s n then moveS L s n else s)
 else s
theorem upd_upd(t:Nat→Nat)(i a b:Nat):upd (upd t i a) i b=upd t i b:=by
 funext j;unfold upd;split<;>rfl
set_option maxHeartbeats 4000000 in
theorem t33{K0 H:AHeap}{b sb:Nat}{L:Ly}{s:Sta}{oc:Nat→Bool}{kd n:Int}{r:Bool}{T:Nat}(h:MaR K0 b L)(k0:Keeps K0 H)(hsb:K0.n≤sb)(lr:L.r.length≤64)(lp:L.p.length≤32)
 (gs:H.get sb=some (.cells true r 68 (stl s) T)):
 ∃w H',ARun Tryz.prog 0 33 [ptr b 0,ptr sb 0,S64 oc,.agg #[.int .u8 kd,.int .i64 n]] H w H'∧Chg [sb] H H'∧H'.get sb=some (.cells true r 68 (stl (comB L oc s kd n)) T):=by
 refine walk2 f33_ok f33_n ?_
 intro Q hq1 hq2
 have hM:=h
 obtain⟨vr,vl,own,room,TT,gb0,ms0⟩:=h
 have hb0:=AHeap.get_lt gb0
 have hs0:=AHeap.get_lt gs
 have bsb:b≠sb:=by omega
 obtain⟨K,hK⟩:∃X,X=H.alloc (.cells true false 2 [.int .u8 kd,.int .i64 n] 39):=⟨_,rfl⟩
 have kK:Keeps H K:=by rw[hK];exact(Keeps.refl H).alloc _
 have gc:K.get H.n=some (.cells true false 2 [.int .u8 kd,.int .i64 n] 39):=by rw[hK];exact AHeap.get_alloc_new H _
 have gsK:=kK.at_ gs
 have gb:=(k0.trans kK).at_ gb0
 have msK:=ms0.keeps (k0.trans kK)
 have r1:=Sl.one ms0.r
 have l1:=Sl.one ms0.l
 have hsK:=AHeap.get_lt gsK
 have hcn:H.n<K.n:=AHeap.get_lt gc
 have hnsb:H.n≠sb:=by omega
 have cK:Chg [sb] H K:=kK.chg _
 unfold mcells at gb
 have one:=t31z (H:=K) n
 simp(disch:=first|assumption|omega)only[f33,W_block,P3,seval,initFr,clsA]
 rw[←hK]
 refine callK one ?_
 rintro _ X ⟨rfl,hX⟩
 rw[hX]
 have skip:comB L oc s kd n=s→∀{fr:List Value},Q .normal fr K:=fun e fr=>hq1 _ _ ⟨_,rfl,cK,by rw[e];exact gsK⟩
 have skipr:comB L oc s kd n=s→∀{fr:List Value},Q .ret fr K:=fun e fr=>hq2 _ _ ⟨_,rfl,cK,by rw[e];exact gsK⟩
 have hol:=one_low lr n
 by_cases k1:kd=1
 ·subst k1
  by_cases hn:0≤n∧n<L.r.length
  ·obtain⟨i,rfl⟩:∃i:Nat,n=(i:Int):=⟨n.toNat,by omega⟩
   have hi:i<L.r.length:=by omega
   have hol':none64 (fun j=>oneP (i:Int) j&&lowP ((L.r.length:Nat):Int) j)=false:=by rw[hol];simp[hi]
   obtain⟨na,ra⟩:=(msK.r).at_ (by omega) (i:=i) (by rw[mrows_len];exact hi)
   rw[mrows_at hi]at ra
   have len:=msK.r.len
   rw[mrows_len]at len
   have e0:(0:Int)≤(i:Int):=by omega
   have e1:(i:Int)<((L.r.length:Nat):Int):=by omega
   obtain⟨K2,hK2⟩:∃X,X=K.alloc (.cells true false 6 (mrow L i) 88):=⟨_,rfl⟩
   have kK2:Keeps K K2:=by rw[hK2];exact(Keeps.refl K).alloc _
   have gx:K2.get K.n=some (.cells true false 6 (mrow L i) 88):=by rw[hK2];exact AHeap.get_alloc_new K _
   have hM2:MaR K2 b L:=hM.keeps ((k0.trans kK).trans kK2)
   have gc2:=kK2.at_ gc
   have gs2:=kK2.at_ gsK
   have gb2:=kK2.at_ gb
   have hs2:=AHeap.get_lt gs2
   have cK2:=cK.trans (kK2.chg [sb]) (by simp)
   unfold mrow at ra hK2 gx
   have hbK:=AHeap.get_lt gb
   have eC:comB L oc s 1 (i:Int)=if setC L oc s i then setS L s i else s:=by unfold comB;rw[if_pos rfl,if_pos hn];rfl
   unfold setC setS turnP nor rev at eC
   have tL:=t69 hM2 lp (turnP L s i)
   unfold turnP nor rev at tL
   cases h1:none64 (fun j=>s.lo j&&(oneP (i:Int) j||tabP L i j))with
   |false=>
    rw[h1]at eC
    simp(disch:=first|assumption|omega|(simp only[LN]<;>omega)|(simp(disch:=first|assumption|omega|(simp only[LN]<;>omega))only[row_alloc,row_set];assumption))only[W_block,P3,seval,initFr,clsA,gc,gb,gsK,hsK,hbK,hcn,stl_0,stl_67,s_and,s_or,p_and,p_andn,p_or,s_eq0,hol',h1,len,na,ra,e0,e1,a_loadnvf,o_s64,o_s32,one_s64,one_s32]
    simp only[←hK2]
    exact hq1 _ _ ⟨_,rfl,cK2,by rw[eC];simpa using gs2⟩
   |true=>
    rw[h1]at eC
    simp(disch:=first|assumption|omega|(simp only[LN]<;>omega)|(simp(disch:=first|assumption|omega|(simp only[LN]<;>omega))only[row_alloc,row_set];assumption))only[W_block,P3,seval,initFr,clsA,gc,gb,gsK,hsK,hbK,hcn,stl_0,stl_67,s_and,s_or,p_and,p_andn,p_or,s_eq0,hol',h1,len,na,ra,e0,e1,a_loadnvf,o_s64,o_s32,one_s64,one_s32]
    simp only[←hK2]
    refine callK tL ?_
    rintro _ X ⟨rfl,hX⟩
    rw[hX]
    have g3:∀o,(K2.set sb o).get sb=some o:=fun o=>AHeap.get_set_same gs2 o
    have g4:∀o,(K2.set sb o).get H.n=K2.get H.n:=fun o=>AHeap.get_set_other K2 hnsb hs2 o
    have hw:=fun o:AO=>cK2.trans (Chg.set K2 hs2 o) (by simp)
    cases h2:none64 (fun j=>oc j&&(trP (ro L i) j||lieU L (fun p=>ndP (nds (ro L i)) false p&&s.po p||ndP (nds (ro L i)) true p&& !s.po p) j))with
    |false=>
     rw[h2]at eC
     simp(disch:=first|assumption|omega)only[W_block,P3,seval,initFr,clsA,gc2,gb2,gx,gs2,hs2,stl_0,stl_67,s_and,s_or,p_and,p_andn,p_or,s_eq0,h2,o_s64,o_s32,one_s64,one_s32]
     exact⟨by simp,hq1 _ _ ⟨_,rfl,cK2,by rw[eC];simpa using gs2⟩⟩
    |true=>
     rw[h2]at eC
     simp(disch:=first|assumption|omega)only[W_block,P3,seval,initFr,clsA,gc2,gb2,gx,gs2,hs2,g3,g4,stl_len,stl_0,stl_67,set_0,set_67,s_and,s_or,p_and,p_andn,p_or,p_xor,s_eq0,h2,o_s64,o_s32,one_s64,one_s32]
     exact⟨by simp,hq1 _ _ ⟨_,rfl,hw _,by rw[AHeap.get_set_same gs2,eC];simp⟩⟩
  ·have hol':none64 (fun j=>oneP n j&&lowP ((L.r.length:Nat):Int) j)=true:=by rw[hol];simp;omega
   simp(disch:=first|assumption|omega)only[W_block,P3,seval,initFr,clsA,gc,gb,s_and,s_eq0,hol']
   exact skipr (by unfold comB;rw[if_pos rfl,if_neg hn])
 ·have d1:(kd==1)=false:=by simp[k1]
  by_cases k2:kd=2
  ·subst k2
   by_cases hn:0≤n∧n<L.r.length
   ·obtain⟨i,rfl⟩:∃i:Nat,n=(i:Int):=⟨n.toNat,by omega⟩
    have hi:i<L.r.length:=by omega
    have hol':none64 (fun j=>oneP (i:Int) j&&lowP ((L.r.length:Nat):Int) j)=false:=by rw[hol];simp[hi]
    obtain⟨na,ra⟩:=(msK.r).at_ (by omega) (i:=i) (by rw[mrows_len];exact hi)
    rw[mrows_at hi]at ra
    have len:=msK.r.len
    rw[mrows_len]at len
    have e0:(0:Int)≤(i:Int):=by omega
    have e1:(i:Int)<((L.r.length:Nat):Int):=by omega
    obtain⟨K2,hK2⟩:∃X,X=K.alloc (.cells true false 6 (mrow L i) 88):=⟨_,rfl⟩
    have kK2:Keeps K K2:=by rw[hK2];exact(Keeps.refl K).alloc _
    have gx:K2.get K.n=some (.cells true false 6 (mrow L i) 88):=by rw[hK2];exact AHeap.get_alloc_new K _
    have hM2:MaR K2 b L:=hM.keeps ((k0.trans kK).trans kK2)
    have gc2:=kK2.at_ gc
    have gs2:=kK2.at_ gsK
    have gb2:=kK2.at_ gb
    have hs2:=AHeap.get_lt gs2
    have cK2:=cK.trans (kK2.chg [sb]) (by simp)
    unfold mrow at ra hK2 gx
    have hbK:=AHeap.get_lt gb
    have eC:comB L oc s 2 (i:Int)=if cancC s i then cancS L oc s i else s:=by unfold comB;rw[if_neg (by omega),if_pos rfl,if_pos hn];rfl
    unfold cancC cancS at eC
    have i64:(i:Int)<64:=by omega
    have iN:i<64:=by omega
    have hll:3+i<68:=by omega
    have z0:=fun t:Sta=>set_t0 t iN
    have z20:=fun t:Sta=>set_t20 t iN
    have g3:∀o,(K2.set sb o).get sb=some o:=fun o=>AHeap.get_set_same gs2 o
    have g4:∀o,(K2.set sb o).get H.n=K2.get H.n:=fun o=>AHeap.get_set_other K2 hnsb hs2 o
    have hkn:K.n≠sb:=by omega
    have g5:∀o,(K2.set sb o).get K.n=K2.get K.n:=fun o=>AHeap.get_set_other K2 hkn hs2 o
    have hw:=fun o:AO=>cK2.trans (Chg.set K2 hs2 o) (by simp)
    cases h1:none64 (fun j=>((oneP (i:Int) j&&s.lo j)&& !s.us j)&& !s.ca j)with
    |true=>
     rw[h1]at eC
     simp(disch:=first|assumption|omega|(simp only[LN]<;>omega)|(simp(disch:=first|assumption|omega|(simp only[LN]<;>omega))only[row_alloc,row_set];assumption))only[W_block,P3,seval,initFr,clsA,gc,gb,gsK,hsK,hbK,hcn,stl_0,stl_1,stl_2,stl_67,s_and,s_or,s_andn,p_and,p_andn,p_or,s_eq0,s_ne0,hol',h1,len,na,ra,e0,e1,a_loadnvf,o_s64,o_s32,one_s64,one_s32]
     simp only[←hK2]
     exact hq1 _ _ ⟨_,rfl,cK2,by rw[eC];simpa using gs2⟩
    |false=>
     rw[h1]at eC
     cases h2:none64 (fun j=>ahP L (ro L i) j&&oc j)with
     |true=>
      rw[h2]at eC
      simp(disch:=first|assumption|omega|(simp only[LN]<;>omega)|(simp(disch:=first|assumption|omega|(simp only[LN]<;>omega))only[row_alloc,row_set];assumption))only[W_block,P3,seval,initFr,clsA,gc,gb,gsK,hsK,hbK,hcn,stl_0,stl_1,stl_2,stl_67,set_2,z0,stl_len,s_and,s_or,s_andn,p_and,p_andn,p_or,s_eq0,s_ne0,hol',h1,h2,len,na,ra,e0,e1,i64,hll,a_iaddrp,Int.toNat_natCast,Nat.mul_one,a_loadnvf,o_s64,o_s32,one_s64,one_s32]
      exact hq1 _ _ ⟨_,rfl,(cK.trans (Chg.set K hsK _) (by simp)).alloc _,((Keeps.refl _).alloc _).at_ (by rw[AHeap.get_set_same gsK,eC];simp)⟩
     |false=>
      rw[h2]at eC
      simp(disch:=first|assumption|omega|(simp only[LN]<;>omega)|(simp(disch:=first|assumption|omega|(simp only[LN]<;>omega))only[row_alloc,row_set];assumption))only[W_block,P3,seval,initFr,clsA,gc,gb,gsK,hsK,hbK,hcn,stl_0,stl_1,stl_2,stl_67,set_2,z0,z20,stl_len,s_and,s_or,s_andn,p_and,p_andn,p_or,s_eq0,s_ne0,hol',h1,h2,len,na,ra,e0,e1,i64,hll,a_iaddrp,Int.toNat_natCast,Nat.mul_one,a_loadnvf,o_s64,o_s32,one_s64,one_s32]
      exact hq1 _ _ ⟨_,rfl,(cK.trans (Chg.set K hsK _) (by simp)).alloc _,((Keeps.refl _).alloc _).at_ (by rw[AHeap.get_set_same gsK,eC];simp[upd_upd])⟩
   ·have hol':none64 (fun j=>oneP n j&&lowP ((L.r.length:Nat):Int) j)=true:=by rw[hol];simp;omega
    simp(disch:=first|assumption|omega)only[W_block,P3,seval,initFr,clsA,gc,gb,s_and,s_eq0,hol']
    exact skipr (by unfold comB;rw[if_neg (by omega),if_pos rfl,if_neg hn])
  ·have d2:(kd==2)=false:=by simp[k2]
   by_cases k3:kd=3
   ·subst k3
    have hbK:=AHeap.get_lt gb
    have eC:comB L oc s 3 n=if moveC L oc s n then moveS L s n else s:=by unfold comB;rw[if_neg (by omega),if_neg (by omega),if_pos rfl]
    unfold moveC moveS at eC
    have tN:=t53 (f:=s.lo) msK lr
    have tL:=t69 (hM.keeps (k0.trans kK)) lp (ptP L n)
    unfold mcells at tN
    unfold ptP at tL eC
    simp(disch:=first|assumption|omega|(simp only[LN]<;>omega)|(simp(disch:=first|assumption|omega|(simp only[LN]<;>omega))only[row_alloc,row_set];assumption))only[W_block,P3,seval,initFr,clsA,gc,gb,gsK,r1,l1,stl_0]
    refine callK tN ?_
    rintro _ X ⟨rfl,hX⟩
    rw[hX]
    cases h1:none64 (fun i=>decide (i+32<64)&&oneP n (i+32))with
    |false=>
     rw[h1]at eC
     simp(disch:=first|assumption|omega)only[W_block,P3,seval,initFr,clsA,gc,gb,gsK,r1,l1,stl_0,s_down,p_and,s_shr32,s_eq0,h1]
     exact hq1 _ _ ⟨_,rfl,cK,by rw[eC];simpa using gsK⟩
    |true=>
     rw[h1]at eC
     cases h2:none32 (fun j=>(oneP n j&&lowP ((L.p.length:Nat):Int) j)&& !(anyR L s.lo (nor L) j||anyR L s.lo (rev L) j))with
     |true=>
      rw[h2]at eC
      simp(disch:=first|assumption|omega)only[W_block,P3,seval,initFr,clsA,gc,gb,gsK,r1,l1,stl_0,s_down,p_and,p_or,p_andn,p_ne0,s_shr32,s_eq0,h1,h2]
      exact hq1 _ _ ⟨_,rfl,cK,by rw[eC];simpa using gsK⟩
     |false=>
      rw[h2]at eC
      simp(disch:=first|assumption|omega)only[W_block,P3,seval,initFr,clsA,gc,gb,gsK,r1,l1,stl_0,s_down,p_and,p_or,p_andn,p_ne0,s_shr32,s_eq0,h1,h2]
      refine callK tL ?_
      rintro _ X ⟨rfl,hX⟩
      rw[hX]
      cases h3:none64 (fun j=>lieU L (fun j=>oneP n j&&lowP ((L.p.length:Nat):Int) j) j&&oc j)with
      |false=>
       rw[h3]at eC
       simp(disch:=first|assumption|omega)only[W_block,P3,seval,initFr,clsA,gsK,s_and,s_eq0,h3]
       exact hq1 _ _ ⟨_,rfl,cK,by rw[eC];simpa using gsK⟩
      |true=>
       rw[h3]at eC
       simp(disch:=first|assumption|omega)only[W_block,P3,seval,initFr,clsA,gsK,s_and,s_eq0,h3,stl_67,set_67,stl_len,p_xor,o_s32,one_s32]
       exact hq1 _ _ ⟨_,rfl,cK.trans (Chg.set K hsK _) (by simp),by rw[AHeap.get_set_same gsK,eC];simp⟩
   ·have d3:(kd==3)=false:=by simp[k3]
    simp(disch:=first|assumption|omega)only[W_block,P3,seval,initFr,clsA,gc,d1,d2,d3]
    exact skip (by unfold comB;rw[if_neg k1,if_neg k2,if_neg k3])
end Go.AM.Fd
