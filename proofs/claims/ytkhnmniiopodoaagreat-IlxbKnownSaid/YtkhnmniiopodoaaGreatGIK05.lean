/- Part of the proof. -/
import Derived.Test.YtkhnmniiopodoaaGreatGIK04
set_option linter.unusedSimpArgs false
set_option linter.unusedVariables false
set_option maxRecDepth 8000
namespace Go.AM.Fd
open Nat (reduceAdd reduceEqDiff reduceLT reduceLeDiff reduceMul reduceSub)
open Go.Proofs Go.AM.F
theorem Z68G_z:Z68G=stl Sta0:=stl_zero
theorem fillO(a b:Nat→Bool):fillA [.int .u64 0,.int .u32 0] [(0,1,S64 a),(1,1,S32 b)]=some [S64 a,S32 b]:=rfl
def cRow(c:Int×Int):List Value:=[.int .u8 c.1,.int .i64 c.2]
def CL(H:AHeap)(v:Value)(l:List (Int×Int)):Prop:=Sl H 2 v (l.map cRow)
theorem CL.at_{H:AHeap}{v:Value}{l:List (Int×Int)}(h:CL H v l){i:Nat}(hi:i<l.length):nnS v=true∧rowA H 2 v i=some [.int .u8 (l.getD i (0,0)).1,.int .i64 (l.getD i (0,0)).2]:=by
 have:=Sl.at_ h (by omega) (i:=i) (by simpa using hi)
 refine⟨this.1,?_⟩
 rw[this.2];simp[List.getD,List.getElem?_eq_getElem hi,cRow]
theorem CL.len{H:AHeap}{v:Value}{l:List (Int×Int)}(h:CL H v l):lenS v=l.length:=by have:=Sl.len h;simpa using this
theorem CL.keeps{H K:AHeap}{v:Value}{l:List (Int×Int)}(h:CL H v l)(k:Keeps H K):CL K v l:=Sl.keeps h k
def cmdB(L:Ly)(oc:Nat→Bool)(s:Sta)(cs:List (Int×Int)):Sta:=cs.foldl (fun s c=>comB L oc s c.1 c.2) s
def freeB(L:Ly)(x:Inp)(i:Nat):Bool:=decide (i<L.r.length)&&none64 (fun j=>trP (ro L i) j&&x.oc j)
def entB(L:Ly)(x:Inp)(i:Nat):Bool:=decide (i<L.r.length)&& !none64 (fun j=>fiP (ro L i) j&&x.oc j)
def detB(L:Ly)(x:Inp)(i:Nat):Bool:=decide (i<L.r.length)&&((none32 fun p=>nor L i p&& !sideN x p)&&(none32 fun p=>rev L i p&& !sideR x p))
def waitB(L:Ly)(x:Inp)(us:Nat→Bool)(s:Sta)(i:Nat):Bool:=(s.ca i&& !us i)&& !entB L x i
def relB(L:Ly)(x:Inp)(us:Nat→Bool)(s:Sta)(i:Nat):Bool:=freeB L x i&&(us i||(waitB L x us s i&&decide (s.ti i=0)))
def endS(L:Ly)(x:Inp)(us:Nat→Bool)(s:Sta):Sta where
 lo:=fun i=>s.lo i&& !relB L x us s i
 us:=fun i=>(s.lo i&& !relB L x us s i)&&(us i||entB L x i)
 ca:=fun i=>s.ca i&& !relB L x us s i
 ti:=fun i=>if relB L x us s i then 0 else if waitB L x us s i&& !decide (s.ti i=0)then s.ti i-1 else s.ti i
 po:=s.po
def stepB(L:Ly)(s:Sta)(x:Inp)(cs:List (Int×Int)):Sta:=endS L x (tidyS L s).us (cmdB L x.oc (tidyS L s) (cs.take 8))
def prB(L:Ly)(x:Inp)(s:Sta)(i:Nat):Bool:=(((s.lo i&&freeB L x i)&&detB L x i)&& !s.us i)&& !s.ca i
theorem tidy_ti(L:Ly)(s:Sta)(i:Nat):(tidyS L s).ti i≤20:=by
 show(if _ then _ else _)≤20
 split
 ·exact Nat.min_le_right _ _
 ·omega
theorem com_ti{L:Ly}{oc:Nat→Bool}{s:Sta}{kd n:Int}(h:∀i,s.ti i≤20)(i:Nat):(comB L oc s kd n).ti i≤20:=by
 unfold comB setS cancS moveS
 repeat' split
 all_goals first|exact h i|skip
 all_goals (show upd _ _ _ i≤20;unfold upd;split<;>first|omega|exact h i)
theorem cmd_ti{L:Ly}{oc:Nat→Bool}:∀{cs:List (Int×Int)} {s:Sta},(∀i,s.ti i≤20)→∀i,(cmdB L oc s cs).ti i≤20
 |[],s,h=>h
 |c::cs,s,h=>cmd_ti (cs:=cs) (com_ti h)
theorem cmd_snoc(L:Ly)(oc:Nat→Bool)(s:Sta)(cs:List (Int×Int))(c:Int×Int):cmdB L oc s (cs++[c])=comB L oc (cmdB L oc s cs) c.1 c.2:=by
 unfold cmdB;rw[List.foldl_append];rfl
def tiA(t:Nat→Nat)(l:List Nat)(j:Nat):Nat:=if l.contains j then t j-1 else t j
def tiB(t:Nat→Nat)(l:List Nat)(j:Nat):Nat:=if l.contains j then 0 else t j
theorem tiA_s{t:Nat→Nat}{l:List Nat}{i:Nat}(h:i∉l):upd (tiA t l) i (t i-1)=tiA t (l++[i]):=by
 funext j
 unfold upd tiA
 rw[List.contains_append]
 by_cases e:j=i
 ·subst e;simp
 ·simp[e]
theorem tiB_s{t:Nat→Nat}{l:List Nat}{i:Nat}:upd (tiB t l) i 0=tiB t (l++[i]):=by
 funext j
 unfold upd tiB
 rw[List.contains_append]
 by_cases e:j=i
 ·subst e;simp
 ·simp[e]
theorem fl_at{f:Nat→Bool}{k:Nat}(h:k<((List.range 64).filter f).length):((List.range 64).filter f)[k]<64∧f ((List.range 64).filter f)[k]=true∧((List.range 64).filter f)[k]∉((List.range 64).filter f).take k:=by
 have hm:=List.mem_filter.1 (List.getElem_mem h)
 refine⟨List.mem_range.1 hm.1,hm.2,fun hk=>?_⟩
 have hn:((List.range 64).filter f).Nodup:=List.nodup_range.filter _
 obtain⟨j,hj,e⟩:=List.mem_iff_getElem.1 hk
 rw[List.length_take]at hj
 rw[List.getElem_take]at e
 exact(List.pairwise_iff_getElem.1 hn) j k (by omega) h (by omega) e
theorem fl_mem{f:Nat→Bool}{j:Nat}(h:j<64):((List.range 64).filter f).contains j=f j:=by
 rw[Bool.eq_iff_iff,List.contains_iff_mem,List.mem_filter,List.mem_range]
 exact⟨fun a=>a.2,fun a=>⟨h,a⟩⟩
set_option maxHeartbeats 4000000 in
theorem t15{H:AHeap}{b:Nat}{L:Ly}{s:Sta}{x:Inp}{cv:Value}{cs:List (Int×Int)}(h:MaR H b L)(hL:LyLim L)(hc:CL H cv cs)(hcl:cs.length≤1000000):
 ∃w H',ARun Tryz.prog 0 15 [ptr b 0,.agg (stl s).toArray,.agg (inl x cv).toArray] H w H'∧w=.tuple #[.agg (stl (stepB L s x cs)).toArray,.agg #[S64 (prB L x (stepB L s x cs)),S32 (stepB L s x cs).po]]∧H'=H:=by
 suffices h':∃w H',ARun Tryz.prog 0 15 [ptr b 0,.agg (stl s).toArray,.agg (inl x cv).toArray] H w H'∧w=.tuple #[.agg (stl (stepB L s x cs)).toArray,.agg #[S64 (prB L x (stepB L s x cs)),S32 (stepB L s x cs).po]]∧Keeps H H' by
  obtain⟨_,_,a,rfl,k⟩:=h'
  exact⟨_,_,a.gc0 k (.inr (NV.tuple_of (.cons (nv_stl _ _) (.cons (NV.agg_of (l:=[S64 (prB L x (stepB L s x cs)),S32 (stepB L s x cs).po]) (NL.plain rfl)) .nil)))),rfl,rfl⟩
 refine walk2 f15_ok f15_n ?_
 intro Q hq1 hq2
 have lr:=hL.r
 have lp:=hL.p
 have isc:=Sl.is hc
 have onec:=Sl.one hc
 have clen:=hc.len
 have hM:=h
 obtain⟨vr,vl,own,room,TT,gb,ms⟩:=h
 have hbl:=AHeap.get_lt gb
 have r1:=Sl.one ms.r
 have l1:=Sl.one ms.l
 obtain⟨K0,hK0⟩:∃X,X=(((H.alloc (.cells true false 68 (stl s) 37)).alloc (.cells true false 4 (inl x cv) 42)).alloc (.cells true false 68 (stl Sta0) 37)).alloc (.cells true false 2 [.int .u64 0,.int .u32 0] 68):=⟨_,rfl⟩
 have k0:Keeps H K0:=by rw[hK0];exact((((Keeps.refl H).alloc _).alloc _).alloc _).alloc _
 have n0:K0.n=H.n+4:=by rw[hK0];rfl
 have gs0:K0.get H.n=some (.cells true false 68 (stl s) 37):=by rw[hK0];exact((((Keeps.refl _).alloc _).alloc _).alloc _).at_ (AHeap.get_alloc_new H _)
 have gi0:K0.get (H.n+1)=some (.cells true false 4 (inl x cv) 42):=by rw[hK0];exact(((Keeps.refl _).alloc _).alloc _).at_ (AHeap.get_alloc_new (H.alloc _) _)
 have ga0:K0.get (H.n+2)=some (.cells true false 68 (stl Sta0) 37):=by rw[hK0];exact((Keeps.refl _).alloc _).at_ (AHeap.get_alloc_new ((H.alloc _).alloc _) _)
 have go0:K0.get (H.n+3)=some (.cells true false 2 [.int .u64 0,.int .u32 0] 68):=by rw[hK0];exact AHeap.get_alloc_new (((H.alloc _).alloc _).alloc _) _
 have tT:=t8 (hM.keeps k0) s
 have hinl:inl x cv=[S64 x.oc,S32 x.nr,S32 x.rv,cv]:=rfl
 rw[hinl]at hK0 gi0 ⊢
 simp(disch:=first|assumption|omega|(simp only[LN]<;>omega)|(simp(disch:=first|assumption|omega|(simp only[LN]<;>omega))only[row_alloc,row_set];assumption))only[f15,P3,seval,initFr,clsA,stl_one,stl_len,Z68G_z,rng68,o_s64,o_s32,one_s64,one_s32,onec]
 simp only[←hK0]
 refine callK tT ?_
 rintro _ X ⟨rfl,hX⟩
 rw[hX]
 have hs0:=AHeap.get_lt gs0
 obtain⟨s0,hs0e⟩:∃t,t=tidyS L s:=⟨_,rfl⟩
 rw[←hs0e]
 obtain⟨K1,hK1⟩:∃X,X=K0.set H.n (.cells true false 68 (stl s0) 37):=⟨_,rfl⟩
 have k1:Keeps H K1:=by rw[hK1];exact k0.set (Nat.le_refl _) hs0 _
 have gs1:K1.get H.n=some (.cells true false 68 (stl s0) 37):=by rw[hK1];exact AHeap.get_set_same gs0 _
 have oth1:∀b,b≠H.n→K1.get b=K0.get b:=fun b hb=>by rw[hK1];exact AHeap.get_set_other K0 hb hs0 _
 have gi1:=(oth1 (H.n+1) (by omega)).trans gi0
 have ga1:=(oth1 (H.n+2) (by omega)).trans ga0
 have go1:=(oth1 (H.n+3) (by omega)).trans go0
 simp(disch:=first|assumption|omega)only[P3,seval,initFr,clsA,gs0,gi0,stn68s,stl_1,rng68,isc,clen]
 simp only[←hK1]
 rw[W_block]
 refine W_loop2 (fun q fr K=>∃i x8 x9 x24 x25,fr=[ptr b 0,.agg (stl s).toArray,.agg #[S64 x.oc,S32 x.nr,S32 x.rv,cv],ptr H.n 0,ptr (H.n+1) 0,ptr (H.n+2) 0,ptr (H.n+3) 0,S64 s0.us,x8,x9,
  undef,undef,undef,undef,undef,undef,undef,undef,undef,undef,.bool false,cv,.int .i64 ((cs.length:Nat):Int),.int .i64 ((i:Nat):Int),x24,x25,undef,undef,undef,undef,undef,undef,undef,undef]∧
  Keeps H K∧K.get H.n=some (.cells true false 68 (stl (cmdB L x.oc s0 (cs.take (min i 8)))) 37)∧K.get (H.n+1)=some (.cells true false 4 [S64 x.oc,S32 x.nr,S32 x.rv,cv] 42)∧
  K.get (H.n+2)=some (.cells true false 68 (stl Sta0) 37)∧K.get (H.n+3)=some (.cells true false 2 [.int .u64 0,.int .u32 0] 68)∧i≤cs.length∧q=cs.length-i) cs.length
  ⟨0,_,_,_,_,rfl,k1,gs1,gi1,ga1,go1,by omega,rfl⟩ ?_
 rintro Q' q fr K ⟨i,x8,x9,x24,x25,rfl,kK,gs,gi,ga,go,hi,rfl⟩ hn' hx' hret
 by_cases hlt:i<cs.length
 ·obtain⟨na,ra⟩:=(hc.keeps kK).at_ hlt
  have e0:(0:Int)≤(i:Int):=by omega
  have e1:(i:Int)<((cs.length:Nat):Int):=by omega
  have hw:IntKind.i64.wrap ((i:Int)+1)=((i+1:Nat):Int):=by rw[wrap_i64 (by omega) (by omega)];simp
  have hgd:cs.getD i (0,0)=cs[i]:=by rw[List.getD_eq_getElem?_getD,List.getElem?_eq_getElem hlt];rfl
  have htk:i<8→cs.take (min (i+1) 8)=cs.take (min i 8)++[cs.getD i (0,0)]:=fun h8=>by
   rw[Nat.min_eq_left (by omega),Nat.min_eq_left (by omega),List.take_add_one,List.getElem?_eq_getElem hlt,hgd];rfl
  have htn:¬i<8→cs.take (min (i+1) 8)=cs.take (min i 8):=fun h8=>by rw[Nat.min_eq_right (by omega),Nat.min_eq_right (by omega)]
  generalize cs.getD i (0,0)=c at*
  obtain⟨kd,n⟩:=c
  obtain⟨K2,hK2⟩:∃X,X=K.alloc (.cells true false 2 [.int .u8 kd,.int .i64 n] 39):=⟨_,rfl⟩
  have kK2:Keeps K K2:=by rw[hK2];exact(Keeps.refl K).alloc _
  have gc2:K2.get K.n=some (.cells true false 2 [.int .u8 kd,.int .i64 n] 39):=by rw[hK2];exact AHeap.get_alloc_new K _
  have gs2:=kK2.at_ gs
  have gi2:=kK2.at_ gi
  have ga2:=kK2.at_ ga
  have go2:=kK2.at_ go
  have hsK:=AHeap.get_lt gs
  have hiK:=AHeap.get_lt gi
  by_cases h8:i<8
  ·have e8:(i:Int)<8:=by omega
   have tC:=t33 (kd:=kd) (n:=n) (oc:=x.oc) hM (kK.trans kK2) (Nat.le_refl _) lr lp gs2
   simp(disch:=first|assumption|omega|(simp only[LN]<;>omega)|(simp(disch:=first|assumption|omega|(simp only[LN]<;>omega))only[row_alloc,row_set];assumption))only[W_block,P3,seval,initFr,clsA,e0,e1,e8,na,ra,clen,a_loadnvf,gi,hiK]
   simp only[←hK2]
   refine callK tC ?_
   rintro _ K3 ⟨c3,gs3⟩
   simp(disch:=first|assumption|omega)only[W_block,P3,seval,initFr,clsA,hw]
   refine hn' _ _ _ ⟨i+1,_,_,_,_,rfl,(kK.trans kK2).chg_trans c3 (by simp),?_,c3.at_ gi2 (by simp),c3.at_ ga2 (by simp),c3.at_ go2 (by simp),by omega,rfl⟩ (by omega)
   rw[htk h8,cmd_snoc];exact gs3
  ·have e8:¬(i:Int)<8:=by omega
   simp(disch:=first|assumption|omega|(simp only[LN]<;>omega)|(simp(disch:=first|assumption|omega|(simp only[LN]<;>omega))only[row_alloc,row_set];assumption))only[W_block,P3,seval,initFr,clsA,e0,e1,e8,na,ra,clen,a_loadnvf,gi,hiK,hw]
   simp only[←hK2]
   refine hn' _ _ _ ⟨i+1,_,_,_,_,rfl,kK.trans kK2,?_,gi2,ga2,go2,by omega,rfl⟩ (by omega)
   rw[htn h8];exact gs2
 ·have e1:¬((i:Nat):Int)<((cs.length:Nat):Int):=by omega
  have hie:i=cs.length:=by omega
  subst hie
  have htk8:cs.take (min cs.length 8)=cs.take 8:=by
   by_cases h:cs.length≤8
   ·rw[Nat.min_eq_left h,List.take_of_length_le (Nat.le_refl _),List.take_of_length_le h]
   ·rw[Nat.min_eq_right (by omega)]
  rw[htk8]at gs
  obtain⟨s1,hs1⟩:∃t,t=cmdB L x.oc s0 (cs.take 8):=⟨_,rfl⟩
  rw[←hs1]at gs
  have ti1:∀i,s1.ti i≤20:=by rw[hs1,hs0e];exact cmd_ti (tidy_ti L s)
  have hst:stepB L s x cs=endS L x s0.us s1:=by unfold stepB;rw[hs1,hs0e]
  rw[hst]at hq1 hq2
  have gbK:=kK.at_ gb
  have msK:=ms.keeps kK
  unfold mcells at gbK
  simp(disch:=first|assumption|omega)only[W_block,P3,seval,initFr,clsA,e1]
  refine hx' _ _ _ ?_
  simp(disch:=first|assumption|omega)only[P3,seval,initFr,clsA,gbK,r1,l1]
  have tF:=t34 (H:=K) (p:=fun i=>none64 fun j=>trP (ro L i) j&&x.oc j) (fn:=35) (ca:= #[ptr (H.n+1) 0]) msK.r lr (fun K' i k _=>t35 (k.at_ (by rw[hinl];exact gi)))
  have tE:=t34 (H:=K) (p:=fun i=> !none64 fun j=>fiP (ro L i) j&&x.oc j) (fn:=36) (ca:= #[ptr (H.n+1) 0]) msK.r lr (fun K' i k _=>t36 (k.at_ (by rw[hinl];exact gi)))
  have t8:=t37 gs
  refine callK tF ?_
  rintro _ X ⟨rfl,hX⟩
  rw[hX]
  simp(disch:=first|assumption|omega)only[P3,seval,initFr,clsA,gbK,r1,l1]
  refine callK tE ?_
  rintro _ X ⟨rfl,hX⟩
  rw[hX]
  obtain⟨fr_,hfr⟩:∃f,f=freeB L x:=⟨_,rfl⟩
  obtain⟨en_,hen⟩:∃f,f=entB L x:=⟨_,rfl⟩
  have hfr':(fun i=>decide (i<L.r.length)&&none64 fun j=>trP (ro L i) j&&x.oc j)=fr_:=by rw[hfr];rfl
  have hen':(fun i=>decide (i<L.r.length)&& !none64 fun j=>fiP (ro L i) j&&x.oc j)=en_:=by rw[hen];rfl
  rw[hfr',hen']
  have hsl:asem (.slarr 1 64 (ptr H.n 3) none none none) K=some (slc H.n 3 64 64,K):=rfl
  simp(disch:=first|assumption|omega)only[P3,seval,initFr,clsA,gs,stl_2,s_andn,hsl]
  refine callK t8 ?_
  rintro _ X ⟨rfl,hX⟩
  rw[hX]
  simp(disch:=first|assumption|omega)only[P3,seval,initFr,clsA,s_and,s_or,s_andn]
  refine callK (t39 _) ?_
  rintro w1 K2 ⟨il1,k2,f1⟩
  have rel_:(fun i=>fr_ i&&(s0.us i||(((s1.ca i&& !s0.us i)&& !en_ i)&&decide (s1.ti i=0))))=relB L x s0.us s1:=by rw[hfr,hen];rfl
  have wai_:(fun i=>((s1.ca i&& !s0.us i)&& !en_ i)&& !decide (s1.ti i=0))=fun i=>waitB L x s0.us s1 i&& !decide (s1.ti i=0):=by rw[hen];rfl
  rw[wai_]at il1
  have is1:=Sl.is il1
  have len1:=il1.len
  simp only[List.length_map]at len1
  obtain⟨l1_,hl1⟩:∃l,l=(List.range 64).filter (fun i=>waitB L x s0.us s1 i&& !decide (s1.ti i=0)):=⟨_,rfl⟩
  have gsK2:=k2.at_ gs
  simp(disch:=first|assumption|omega)only[P3,seval,initFr,clsA,is1,len1]
  have wai2:(fun i=>(s1.ca i&& !s0.us i)&& !en_ i)=waitB L x s0.us s1:=by rw[hen];rfl
  rw[rel_,wai2,W_block]
  rw[←hl1]at il1 len1
  simp only[←hl1]
  have l1len:l1_.length≤64:=by rw[hl1];exact fl_le _ 64
  refine W_loop2 (fun q fr X=>∃k x15 x29,fr=[ptr b 0,.agg (stl s).toArray,.agg #[S64 x.oc,S32 x.nr,S32 x.rv,cv],ptr H.n 0,ptr (H.n+1) 0,ptr (H.n+2) 0,ptr (H.n+3) 0,S64 s0.us,x8,x9,S64 fr_,S64 en_,S64 (waitB L x s0.us s1),S64 (fun i=>decide (s1.ti i=0)),S64 (relB L x s0.us s1),x15,undef,undef,undef,undef,.bool false,cv,.int .i64 ((cs.length:Nat):Int),.int .i64 ((cs.length:Nat):Int),.bool false,x25,w1,.int .i64 ((l1_.length:Nat):Int),.int .i64 ((k:Nat):Int),x29,undef,undef,undef,undef]∧
   Chg [H.n] K2 X∧X.get H.n=some (.cells true false 68 (stl {s1 with ti:=tiA s1.ti (l1_.take k)}) 37)∧k≤l1_.length∧q=l1_.length-k) l1_.length
   ⟨0,_,_,rfl,Chg.refl _ _,by rw[gsK2,List.take_zero];rfl,by omega,rfl⟩ ?_
  rintro Q2 q fr X ⟨k,x15,x29,rfl,cX,gsX,hk,rfl⟩ hn2 hx2 hret2
  have hsX:=AHeap.get_lt gsX
  by_cases hlk:k<l1_.length
  ·obtain⟨n1,ro1⟩:=(IL.at_ (Sl.chg il1 cX (fun b hb=>by have:=f1 b hb;have:=AHeap.get_lt gs;simp;omega)) (i:=k) (by simpa using hlk))
   have fa:=fl_at (f:=fun i=>waitB L x s0.us s1 i&& !decide (s1.ti i=0)) (k:=k) (by rw[←hl1];exact hlk)
   simp only[←hl1]at fa
   have hgd:(l1_.map fun(i:Nat)=>(i:Int)).getD k 0=((l1_[k]:Nat):Int):=by rw[List.getD_eq_getElem?_getD,List.getElem?_map,List.getElem?_eq_getElem hlk];rfl
   rw[hgd]at ro1
   have htk:l1_.take (k+1)=l1_.take k++[l1_[k]]:=by rw[List.take_add_one,List.getElem?_eq_getElem hlk];rfl
   obtain⟨m,hm⟩:∃m,m=l1_[k]:=⟨_,rfl⟩
   rw[←hm]at fa ro1 htk
   obtain⟨f1a,f1b,f1c⟩:=fa
   simp only[Bool.and_eq_true,Bool.not_eq_true',decide_eq_false_iff_not]at f1b
   have tim:=ti1 m
   have e0:(0:Int)≤(k:Int):=by omega
   have e1:(k:Int)<((l1_.length:Nat):Int):=by omega
   have m0:(0:Int)≤(m:Int):=by omega
   have m1:(m:Int)<64:=by omega
   have hll:3+m<68:=by omega
   have hw:IntKind.i64.wrap ((k:Int)+1)=((k+1:Nat):Int):=by rw[wrap_i64 (by omega) (by omega)];simp
   have hta:tiA s1.ti (l1_.take k) m=s1.ti m:=by unfold tiA;simp[f1c]
   have st:=stl_t {s1 with ti:=tiA s1.ti (l1_.take k)} f1a
   simp only[hta]at st
   have hsub:IntKind.u8.wrap (((s1.ti m:Nat):Int)-1)=((s1.ti m-1:Nat):Int):=by rw[wrap_u8];omega
   have sett:=set_t {s1 with ti:=tiA s1.ti (l1_.take k)} f1a (s1.ti m-1)
   simp only[tiA_s f1c,←htk]at sett
   simp(disch:=first|assumption|omega)only[W_block,P3,seval,initFr,clsA,e0,e1,n1,ro1,len1,a_load1v,m0,m1,a_iaddrp,gsX,st,hsub,sett,stl_len,hll,hw,Int.toNat_natCast,Nat.mul_one]
   exact hn2 _ _ _ ⟨k+1,_,_,rfl,cX.trans (Chg.set X hsX _) (by simp),AHeap.get_set_same gsX _,by omega,rfl⟩ (by omega)
  ·have hke:k=l1_.length:=by omega
   subst hke
   rw[List.take_length]at gsX
   have e1:¬((l1_.length:Nat):Int)<((l1_.length:Nat):Int):=by omega
   simp(disch:=first|assumption|omega)only[W_block,P3,seval,initFr,clsA,e1]
   refine hx2 _ _ _ ?_
   simp(disch:=first|assumption|omega)only[W_block,P3,seval,initFr,clsA]
   refine callK (t39 _) ?_
   rintro w2 X2 ⟨il2,kX2,f2⟩
   have is2:=Sl.is il2
   have len2:=il2.len
   simp only[List.length_map]at len2
   obtain⟨l2_,hl2⟩:∃l,l=(List.range 64).filter (relB L x s0.us s1):=⟨_,rfl⟩
   rw[←hl2]at il2 len2
   have gsX2:=kX2.at_ gsX
   simp(disch:=first|assumption|omega)only[P3,seval,initFr,clsA,is2,len2]
   rw[W_block]
   have l2len:l2_.length≤64:=by rw[hl2];exact fl_le _ 64
   refine W_loop2 (fun q fr Y=>∃k x16 x33,fr=[ptr b 0,.agg (stl s).toArray,.agg #[S64 x.oc,S32 x.nr,S32 x.rv,cv],ptr H.n 0,ptr (H.n+1) 0,ptr (H.n+2) 0,ptr (H.n+3) 0,S64 s0.us,x8,x9,S64 fr_,S64 en_,S64 (waitB L x s0.us s1),S64 (fun i=>decide (s1.ti i=0)),S64 (relB L x s0.us s1),x15,x16,undef,undef,undef,.bool false,cv,.int .i64 ((cs.length:Nat):Int),.int .i64 ((cs.length:Nat):Int),.bool false,x25,w1,.int .i64 ((l1_.length:Nat):Int),.int .i64 ((l1_.length:Nat):Int),.bool false,w2,.int .i64 ((l2_.length:Nat):Int),.int .i64 ((k:Nat):Int),x33]∧
    Chg [H.n] X2 Y∧Y.get H.n=some (.cells true false 68 (stl {s1 with ti:=tiB (tiA s1.ti l1_) (l2_.take k)}) 37)∧k≤l2_.length∧q=l2_.length-k) l2_.length
    ⟨0,_,_,rfl,Chg.refl _ _,by rw[gsX2,List.take_zero];rfl,by omega,rfl⟩ ?_
   rintro Q3 q fr Y ⟨k,x16,x33,rfl,cY,gsY,hk,rfl⟩ hn3 hx3 hret3
   have hsY:=AHeap.get_lt gsY
   by_cases hlk:k<l2_.length
   ·obtain⟨n1,ro1⟩:=(IL.at_ (Sl.chg il2 cY (fun b hb=>by have:=f2 b hb;have:=AHeap.get_lt gsX;simp;omega)) (i:=k) (by simpa using hlk))
    have fa:=fl_at (f:=relB L x s0.us s1) (k:=k) (by rw[←hl2];exact hlk)
    simp only[←hl2]at fa
    have hgd:(l2_.map fun(i:Nat)=>(i:Int)).getD k 0=((l2_[k]:Nat):Int):=by rw[List.getD_eq_getElem?_getD,List.getElem?_map,List.getElem?_eq_getElem hlk];rfl
    rw[hgd]at ro1
    have htk:l2_.take (k+1)=l2_.take k++[l2_[k]]:=by rw[List.take_add_one,List.getElem?_eq_getElem hlk];rfl
    obtain⟨m,hm⟩:∃m,m=l2_[k]:=⟨_,rfl⟩
    rw[←hm]at fa ro1 htk
    obtain⟨f1a,f1b,f1c⟩:=fa
    have e0:(0:Int)≤(k:Int):=by omega
    have e1:(k:Int)<((l2_.length:Nat):Int):=by omega
    have m0:(0:Int)≤(m:Int):=by omega
    have m1:(m:Int)<64:=by omega
    have hll:3+m<68:=by omega
    have hw:IntKind.i64.wrap ((k:Int)+1)=((k+1:Nat):Int):=by rw[wrap_i64 (by omega) (by omega)];simp
    have sett:=set_t0 {s1 with ti:=tiB (tiA s1.ti l1_) (l2_.take k)} f1a
    simp only[tiB_s,←htk]at sett
    simp(disch:=first|assumption|omega)only[W_block,P3,seval,initFr,clsA,e0,e1,n1,ro1,len2,a_load1v,m0,m1,a_iaddrp,gsY,sett,stl_len,hll,hw,Int.toNat_natCast,Nat.mul_one]
    exact hn3 _ _ _ ⟨k+1,_,_,rfl,cY.trans (Chg.set Y hsY _) (by simp),AHeap.get_set_same gsY _,by omega,rfl⟩ (by omega)
   ·have hke:k=l2_.length:=by omega
    subst hke
    rw[List.take_length]at gsY
    have e1:¬((l2_.length:Nat):Int)<((l2_.length:Nat):Int):=by omega
    have kKX:Keeps H X2:=((kK.trans k2).chg_trans cX (by simp)).trans kX2
    have kHY:Keeps H Y:=kKX.chg_trans cY (by simp)
    have giY:Y.get (H.n+1)=some (.cells true false 4 [S64 x.oc,S32 x.nr,S32 x.rv,cv] 42):=cY.at_ (kX2.at_ (cX.at_ (k2.at_ gi) (by simp))) (by simp)
    have gaY:Y.get (H.n+2)=some (.cells true false 68 (stl Sta0) 37):=cY.at_ (kX2.at_ (cX.at_ (k2.at_ ga) (by simp))) (by simp)
    have goY:Y.get (H.n+3)=some (.cells true false 2 [.int .u64 0,.int .u32 0] 68):=cY.at_ (kX2.at_ (cX.at_ (k2.at_ go) (by simp))) (by simp)
    have gbY:=kHY.at_ gb
    have msY:=ms.keeps kHY
    unfold mcells at gbY
    have stE:stl {s1 with ti:=tiB (tiA s1.ti l1_) l2_}=stl {s1 with ti:=(endS L x s0.us s1).ti}:=by
     refine stl_ext (fun _ _=>rfl) (fun _ _=>rfl) (fun _ _=>rfl) (fun j hj=>?_) (fun _ _=>rfl)
     show tiB (tiA s1.ti l1_) l2_ j=(if relB L x s0.us s1 j then 0 else if waitB L x s0.us s1 j&& !decide (s1.ti j=0)then s1.ti j-1 else s1.ti j)
     unfold tiB tiA
     rw[hl1,hl2,fl_mem hj,fl_mem hj]
    rw[stE]at gsY
    simp(disch:=first|assumption|omega)only[W_block,P3,seval,initFr,clsA,e1]
    refine hx3 _ _ _ ?_
    obtain⟨Y1,hY1⟩:∃Z,Z=Y.set H.n (.cells true false 68 (stl (endS L x s0.us s1)) 37):=⟨_,rfl⟩
    simp(disch:=first|assumption|omega|(simp only[LN]<;>omega)|(simp(disch:=first|assumption|omega|(simp only[LN]<;>omega))only[row_alloc,row_set];assumption))only[W_block,P3,seval,initFr,clsA,gsY,giY,stl_0,stl_1,stl_2,stl_len,set_0,set_1,set_2,s_andn,s_and,s_or,one_s64,o_s64]
    have eE:stl (⟨fun i=>s1.lo i&& !relB L x s0.us s1 i,fun i=>(s1.lo i&& !relB L x s0.us s1 i)&&(s0.us i||en_ i),fun i=>s1.ca i&& !relB L x s0.us s1 i,(endS L x s0.us s1).ti,s1.po⟩:Sta)=stl (endS L x s0.us s1):=by rw[hen];rfl
    have kY1:Keeps H Y1:=by rw[hY1];exact kHY.set (Nat.le_refl _) hsY _
    have gsY1:Y1.get H.n=some (.cells true false 68 (stl (endS L x s0.us s1)) 37):=by rw[hY1];exact AHeap.get_set_same gsY _
    have othY:∀b,b≠H.n→Y1.get b=Y.get b:=fun b hb=>by rw[hY1];exact AHeap.get_set_other Y hb hsY _
    have gaY1:=(othY (H.n+2) (by omega)).trans gaY
    have goY1:=(othY (H.n+3) (by omega)).trans goY
    have tS:=t40 (H:=Y1) (x:=x) isc
    rw[hinl]at tS
    rw[eE,←hY1]
    refine callK tS ?_
    rintro _ X' ⟨rfl,hX'⟩
    rw[hX']
    obtain⟨Y2,hY2⟩:∃Z,Z=(Y1.alloc (.cells true false 1 [S32 (sideN x)] 35)).alloc (.cells true false 1 [S32 (sideR x)] 35):=⟨_,rfl⟩
    have kY2:Keeps Y1 Y2:=by rw[hY2];exact((Keeps.refl Y1).alloc _).alloc _
    have g1:Y2.get Y1.n=some (.cells true false 1 [S32 (sideN x)] 35):=by rw[hY2];exact((Keeps.refl _).alloc _).at_ (AHeap.get_alloc_new Y1 _)
    have g2:Y2.get (Y1.n+1)=some (.cells true false 1 [S32 (sideR x)] 35):=by rw[hY2];exact AHeap.get_alloc_new (Y1.alloc _) _
    have kH2:=kY1.trans kY2
    have gb2:=kH2.at_ gb
    have ms2:=ms.keeps kH2
    have gb1:=kY1.at_ gb
    have hb1:=AHeap.get_lt gb1
    unfold mcells at gb2 gb1
    have gs2:=kY2.at_ gsY1
    have ga2:=kY2.at_ gaY1
    have go2:=kY2.at_ goY1
    have hs2:=AHeap.get_lt gs2
    have ha2:=AHeap.get_lt ga2
    have ho2:=AHeap.get_lt go2
    have tD:=t34 (H:=Y2) (p:=fun i=>(none32 fun p=>nor L i p&& !sideN x p)&&(none32 fun p=>rev L i p&& !sideR x p)) (fn:=41) (ca:= #[ptr Y1.n 0,ptr (Y1.n+1) 0]) ms2.r lr (fun K' i k _=>t41 (k.at_ g1) (k.at_ g2))
    have hb1':b<Y1.n+1:=by omega
    simp(disch:=first|assumption|omega|(simp only[LN]<;>omega)|(simp(disch:=first|assumption|omega|(simp only[LN]<;>omega))only[row_alloc,row_set];assumption))only[W_block,P3,seval,initFr,clsA,gb1,hb1,hb1',r1,l1,o_s32,one_s32]
    simp only[←hY2]
    refine callK tD ?_
    rintro _ X' ⟨rfl,hX'⟩
    rw[hX']
    have hde:(fun i=>decide (i<L.r.length)&&((none32 fun p=>nor L i p&& !sideN x p)&&none32 fun p=>rev L i p&& !sideR x p))=detB L x:=rfl
    rw[hde]
    obtain⟨e,hee⟩:∃e,e=endS L x s0.us s1:=⟨_,rfl⟩
    rw[←hee]at gs2 hq1 hq2
    have oa:∀o,(Y2.set (H.n+2) o).get (H.n+3)=Y2.get (H.n+3):=fun o=>AHeap.get_set_other Y2 (by omega) ha2 o
    have oh:∀o,(Y2.set (H.n+2) o).get H.n=Y2.get H.n:=fun o=>AHeap.get_set_other Y2 (by omega) ha2 o
    simp(disch:=first|assumption|omega|(simp only[LN]<;>omega)|(simp(disch:=first|assumption|omega|(simp only[LN]<;>omega))only[row_alloc,row_set];assumption))only[W_block,P3,seval,initFr,clsA,gs2,ga2,go2,oa,oh,rng68,stn68s,stl_0,stl_1,stl_2,stl_67,s_and,s_andn,fillO,o_s64,o_s32,one_s64,one_s32,cells_s64,cells_s32]
    have hpr:(fun i=>(((e.lo i&&fr_ i)&&detB L x i)&& !e.us i)&& !e.ca i)=prB L x e:=by rw[hfr];rfl
    rw[hpr]
    refine⟨by simp,hq2 _ _ ⟨.tuple #[.agg (stl e).toArray,.agg #[S64 (prB L x e),S32 e.po]],?_,rfl,(kH2.set (by omega) ha2 _).set (by omega) (by rw[set_n];exact ho2) _⟩⟩
    have ga3:((Y2.set (H.n+2) (.cells true false 68 (stl e) 37)).set (H.n+3) (.cells true false 2 [S64 (prB L x e),S32 e.po] 68)).get (H.n+2)=some (.cells true false 68 (stl e) 37):=by
     rw[AHeap.get_set_other _ (by omega) (by rw[set_n];exact ho2)];exact AHeap.get_set_same ga2 _
    have go3:((Y2.set (H.n+2) (.cells true false 68 (stl e) 37)).set (H.n+3) (.cells true false 2 [S64 (prB L x e),S32 e.po] 68)).get (H.n+3)=some (.cells true false 2 [S64 (prB L x e),S32 e.po] 68):=
     AHeap.get_set_same ((oa _).trans go2) _
    show resO [.cn 68 5,.cn 2 6] _ _=_
    have r1':celln 68 (ptr (H.n+2) 0) ((Y2.set (H.n+2) (.cells true false 68 (stl e) 37)).set (H.n+3) (.cells true false 2 [S64 (prB L x e),S32 e.po] 68))=some (.agg (stl e).toArray):=by
     rw[cellnp,rangeA_e,ga3,rng68];rfl
    have r2':celln 2 (ptr (H.n+3) 0) ((Y2.set (H.n+2) (.cells true false 68 (stl e) 37)).set (H.n+3) (.cells true false 2 [S64 (prB L x e),S32 e.po] 68))=some (.agg #[S64 (prB L x e),S32 e.po]):=by
     rw[cellnp,rangeA_e,go3];rfl
    have e5:∀l:List Value,l.getD 5 undef=ptr (H.n+2) 0→l.getD 6 undef=ptr (H.n+3) 0→∀K,celln 68 (ptr (H.n+2) 0) K=some (.agg (stl e).toArray)→celln 2 (ptr (H.n+3) 0) K=some (.agg #[S64 (prB L x e),S32 e.po])→
     resO [.cn 68 5,.cn 2 6] l K=some (.tuple #[.agg (stl e).toArray,.agg #[S64 (prB L x e),S32 e.po]]):=fun l a b K c d=>by
     simp only[resO,resVs,RX.get,a,b,c,d];rfl
    exact e5 _ rfl rfl _ r1' r2'
end Go.AM.Fd

set_option maxRecDepth 100000
set_option maxHeartbeats 0
namespace Go.AM.F
def Z68I:List Value:=[(.int .u64 0),(.int .u64 0),(.int .u64 0)]++List.replicate 64 (.int .u8 0)++[(.int .u32 0)]
def O68I:List Nat:=List.replicate 68 1
def zclI:TypeId→List Value
 |37=>Z68I
 |27=>[(.slice none 0 0),(.slice none 0 0),(.slice none 0 0),(.slice none 0 0)]
 |68=>[(.int .u64 0),(.int .u32 0)]
 |52=>[(.string ByteArray.empty),(.int .i64 0)]
 |53=>[(.string ByteArray.empty),(.int .i64 0)]
 |55=>[(.int .i64 0),(.bool false)]
 |49=>[(.string ByteArray.empty),(.int .i64 0),(.slice none 0 0),(.slice none 0 0),(.slice none 0 0),(.slice none 0 0)]
 |39=>[(.int .u8 0),(.int .i64 0)]
 |42=>[(.int .u64 0),(.int .u32 0),(.int .u32 0),(.slice none 0 0)]
 |_=>[]
def zvlI:TypeId→Value
 |_=>undef
def zklI:TypeId→List Nat
 |37=>O68I
 |68=>[1,1]
 |_=>[]
def zrlI:Nat→TypeId→List Value
 |3,9=>[(.string ByteArray.empty),(.string ByteArray.empty),(.string ByteArray.empty)]
 |1,52=>[(.string ByteArray.empty),(.int .i64 0)]
 |1,53=>[(.string ByteArray.empty),(.int .i64 0)]
 |2,3=>[(.int .i64 0),(.int .i64 0)]
 |1,55=>[(.int .i64 0),(.bool false)]
 |1,49=>[(.string ByteArray.empty),(.int .i64 0),(.slice none 0 0),(.slice none 0 0),(.slice none 0 0),(.slice none 0 0)]
 |1,39=>[(.int .u8 0),(.int .i64 0)]
 |_,_=>[]
noncomputable def f9:AFunc:=by
 refine(fun(_:Cz zclI zvlI zklI zrlI Go.Proofs.Tryz.prog 0 [0,1,2,3,4,5,6,7,14] 9 ?a)=>?a) ?h
 case h=>
 intro zc zv zk zr hc hv hk hr
 conv=>lhs;cbv;try simp only[hc,hv,hk,hr,zclI,zvlI,zklI,zrlI]
theorem f9_ok:compF Go.Proofs.Tryz.prog 0 [0,1,2,3,4,5,6,7,14] 9=some f9:=by kernel_rfl
theorem f9_n:argsOK Go.Proofs.Tryz.prog 9 2=true:=by kernel_rfl
noncomputable def f6:AFunc:=by
 refine(fun(_:Cz zclI zvlI zklI zrlI Go.Proofs.Tryz.prog 0 [0,1,2,3,4,5,6,7,8,9,10,11,12,13,14,15,16,17,21,31,37,49] 6 ?a)=>?a) ?h
 case h=>
 intro zc zv zk zr hc hv hk hr
 conv=>lhs;cbv;try simp only[hc,hv,hk,hr,zclI,zvlI,zklI,zrlI]
theorem f6_ok:compF Go.Proofs.Tryz.prog 0 [0,1,2,3,4,5,6,7,8,9,10,11,12,13,14,15,16,17,21,31,37,49] 6=some f6:=by kernel_rfl
theorem f6_n:argsOK Go.Proofs.Tryz.prog 6 3=true:=by kernel_rfl
noncomputable def f7:AFunc:=by
 refine(fun(_:Cz zclI zvlI zklI zrlI Go.Proofs.Tryz.prog 0 [0,1,2,3,4,5,6,7,8,9,10,11,12,13,14,27,35] 7 ?a)=>?a) ?h
 case h=>
 intro zc zv zk zr hc hv hk hr
 conv=>lhs;cbv;try simp only[hc,hv,hk,hr,zclI,zvlI,zklI,zrlI]
theorem f7_ok:compF Go.Proofs.Tryz.prog 0 [0,1,2,3,4,5,6,7,8,9,10,11,12,13,14,27,35] 7=some f7:=by kernel_rfl
theorem f7_n:argsOK Go.Proofs.Tryz.prog 7 3=true:=by kernel_rfl
noncomputable def f11:AFunc:=by
 refine(fun(_:Cz zclI zvlI zklI zrlI Go.Proofs.Tryz.prog 0 [0,1,2,3,4,5,6,8,9,10,11,13] 11 ?a)=>?a) ?h
 case h=>
 intro zc zv zk zr hc hv hk hr
 conv=>lhs;cbv;try simp only[hc,hv,hk,hr,zclI,zvlI,zklI,zrlI]
theorem f11_ok:compF Go.Proofs.Tryz.prog 0 [0,1,2,3,4,5,6,8,9,10,11,13] 11=some f11:=by kernel_rfl
theorem f11_n:argsOK Go.Proofs.Tryz.prog 11 0=true:=by kernel_rfl
noncomputable def f13:AFunc:=by
 refine(fun(_:Cz zclI zvlI zklI zrlI Go.Proofs.Tryz.prog 0 [0,1,2,3,4,5,6,29] 13 ?a)=>?a) ?h
 case h=>
 intro zc zv zk zr hc hv hk hr
 conv=>lhs;cbv;try simp only[hc,hv,hk,hr,zclI,zvlI,zklI,zrlI]
theorem f13_ok:compF Go.Proofs.Tryz.prog 0 [0,1,2,3,4,5,6,29] 13=some f13:=by kernel_rfl
theorem f13_n:argsOK Go.Proofs.Tryz.prog 13 1=true:=by kernel_rfl
noncomputable def f16:AFunc:=by
 refine(fun(_:Cz zclI zvlI zklI zrlI Go.Proofs.Tryz.prog 0 [0,1,2,3,4,5,6,7,8,9,10,11,12,26,42,48,62,69] 16 ?a)=>?a) ?h
 case h=>
 intro zc zv zk zr hc hv hk hr
 conv=>lhs;cbv;try simp only[hc,hv,hk,hr,zclI,zvlI,zklI,zrlI]
theorem f16_ok:compF Go.Proofs.Tryz.prog 0 [0,1,2,3,4,5,6,7,8,9,10,11,12,26,42,48,62,69] 16=some f16:=by kernel_rfl
theorem f16_n:argsOK Go.Proofs.Tryz.prog 16 3=true:=by kernel_rfl
noncomputable def f42:AFunc:=by
 refine(fun(_:Cz zclI zvlI zklI zrlI Go.Proofs.Tryz.prog 0 [0,1,2,3,4,5,6,7,8,9,10,16,18,47,64,75,117,122] 42 ?a)=>?a) ?h
 case h=>
 intro zc zv zk zr hc hv hk hr
 conv=>lhs;cbv;try simp only[hc,hv,hk,hr,zclI,zvlI,zklI,zrlI]
theorem f42_ok:compF Go.Proofs.Tryz.prog 0 [0,1,2,3,4,5,6,7,8,9,10,16,18,47,64,75,117,122] 42=some f42:=by kernel_rfl
theorem f42_n:argsOK Go.Proofs.Tryz.prog 42 4=true:=by kernel_rfl
noncomputable def f44:AFunc:=by
 refine(fun(_:Cz zclI zvlI zklI zrlI Go.Proofs.Tryz.prog 0 [0,1,2,3,4,5,6,7,10,11,17,23,27,41,60] 44 ?a)=>?a) ?h
 case h=>
 intro zc zv zk zr hc hv hk hr
 conv=>lhs;cbv;try simp only[hc,hv,hk,hr,zclI,zvlI,zklI,zrlI]
theorem f44_ok:compF Go.Proofs.Tryz.prog 0 [0,1,2,3,4,5,6,7,10,11,17,23,27,41,60] 44=some f44:=by kernel_rfl
theorem f44_n:argsOK Go.Proofs.Tryz.prog 44 5=true:=by kernel_rfl
noncomputable def f45:AFunc:=by
 refine(fun(_:Cz zclI zvlI zklI zrlI Go.Proofs.Tryz.prog 0 [0,1,2,3,4,5,6,8,9,10,11,12,13,34,49,57,67] 45 ?a)=>?a) ?h
 case h=>
 intro zc zv zk zr hc hv hk hr
 conv=>lhs;cbv;try simp only[hc,hv,hk,hr,zclI,zvlI,zklI,zrlI]
theorem f45_ok:compF Go.Proofs.Tryz.prog 0 [0,1,2,3,4,5,6,8,9,10,11,12,13,34,49,57,67] 45=some f45:=by kernel_rfl
theorem f45_n:argsOK Go.Proofs.Tryz.prog 45 4=true:=by kernel_rfl
noncomputable def f72:AFunc:=by
 refine(fun(_:Cz zclI zvlI zklI zrlI Go.Proofs.Tryz.prog 0 [0,1,2,3,4,5,6,7,8,22,40,45,59,82] 72 ?a)=>?a) ?h
 case h=>
 intro zc zv zk zr hc hv hk hr
 conv=>lhs;cbv;try simp only[hc,hv,hk,hr,zclI,zvlI,zklI,zrlI]
theorem f72_ok:compF Go.Proofs.Tryz.prog 0 [0,1,2,3,4,5,6,7,8,22,40,45,59,82] 72=some f72:=by kernel_rfl
theorem f72_n:argsOK Go.Proofs.Tryz.prog 72 2=true:=by kernel_rfl
noncomputable def f73:AFunc:=by
 refine(fun(_:Cz zclI zvlI zklI zrlI Go.Proofs.Tryz.prog 0 [0,1,2,3,4,5,6,8,9,10,11,12,27,32,48,54,84] 73 ?a)=>?a) ?h
 case h=>
 intro zc zv zk zr hc hv hk hr
 conv=>lhs;cbv;try simp only[hc,hv,hk,hr,zclI,zvlI,zklI,zrlI]
theorem f73_ok:compF Go.Proofs.Tryz.prog 0 [0,1,2,3,4,5,6,8,9,10,11,12,27,32,48,54,84] 73=some f73:=by kernel_rfl
theorem f73_n:argsOK Go.Proofs.Tryz.prog 73 4=true:=by kernel_rfl
noncomputable def f74:AFunc:=by
 refine(fun(_:Cz zclI zvlI zklI zrlI Go.Proofs.Tryz.prog 0 [0,1,2,4] 74 ?a)=>?a) ?h
 case h=>
 intro zc zv zk zr hc hv hk hr
 conv=>lhs;cbv;try simp only[hc,hv,hk,hr,zclI,zvlI,zklI,zrlI]
theorem f74_ok:compF Go.Proofs.Tryz.prog 0 [0,1,2,4] 74=some f74:=by kernel_rfl
theorem f74_n:argsOK Go.Proofs.Tryz.prog 74 2=true:=by kernel_rfl
noncomputable def f75:AFunc:=by
 refine(fun(_:Cz zclI zvlI zklI zrlI Go.Proofs.Tryz.prog 0 [0,1,2,3,4,6,7,8,9,14,26,41] 75 ?a)=>?a) ?h
 case h=>
 intro zc zv zk zr hc hv hk hr
 conv=>lhs;cbv;try simp only[hc,hv,hk,hr,zclI,zvlI,zklI,zrlI]
theorem f75_ok:compF Go.Proofs.Tryz.prog 0 [0,1,2,3,4,6,7,8,9,14,26,41] 75=some f75:=by kernel_rfl
theorem f75_n:argsOK Go.Proofs.Tryz.prog 75 3=true:=by kernel_rfl
noncomputable def f77:AFunc:=by
 refine(fun(_:Cz zclI zvlI zklI zrlI Go.Proofs.Tryz.prog 0 [0,1,2,3,4,5,6,12,21] 77 ?a)=>?a) ?h
 case h=>
 intro zc zv zk zr hc hv hk hr
 conv=>lhs;cbv;try simp only[hc,hv,hk,hr,zclI,zvlI,zklI,zrlI]
theorem f77_ok:compF Go.Proofs.Tryz.prog 0 [0,1,2,3,4,5,6,12,21] 77=some f77:=by kernel_rfl
theorem f77_n:argsOK Go.Proofs.Tryz.prog 77 2=true:=by kernel_rfl
noncomputable def f78:AFunc:=by
 refine(fun(_:Cz zclI zvlI zklI zrlI Go.Proofs.Tryz.prog 0 [0,1,2,4] 78 ?a)=>?a) ?h
 case h=>
 intro zc zv zk zr hc hv hk hr
 conv=>lhs;cbv;try simp only[hc,hv,hk,hr,zclI,zvlI,zklI,zrlI]
theorem f78_ok:compF Go.Proofs.Tryz.prog 0 [0,1,2,4] 78=some f78:=by kernel_rfl
theorem f78_n:argsOK Go.Proofs.Tryz.prog 78 2=true:=by kernel_rfl
noncomputable def f79:AFunc:=by
 refine(fun(_:Cz zclI zvlI zklI zrlI Go.Proofs.Tryz.prog 0 [0,1,2,3] 79 ?a)=>?a) ?h
 case h=>
 intro zc zv zk zr hc hv hk hr
 conv=>lhs;cbv;try simp only[hc,hv,hk,hr,zclI,zvlI,zklI,zrlI]
theorem f79_ok:compF Go.Proofs.Tryz.prog 0 [0,1,2,3] 79=some f79:=by kernel_rfl
theorem f79_n:argsOK Go.Proofs.Tryz.prog 79 1=true:=by kernel_rfl
end Go.AM.F

set_option maxRecDepth 8000
namespace Go.AM.Fd
open Nat (reduceAdd reduceEqDiff reduceLT reduceLeDiff reduceMul reduceSub)
open Go.Proofs Go.AM.F
theorem Z68I_z':Z68I=stl Sta0:=stl_zero
theorem t74{H:AHeap}{x:Inp}{cv:Value}(hc:isS cv=true)(n:Int):∃w H',ARun Tryz.prog 0 74 [.agg (inl x cv).toArray,.int .i64 n] H w H'∧w=.bool (!hasB x.oc n)∧H'=H:=by
 refine gcb ?_
 refine walk2 f74_ok f74_n ?_
 intro Q hq1 hq2
 have kA:=(Keeps.refl H).alloc (.cells true false 4 (inl x cv) 42)
 have o1:=one_isS hc
 unfold inl at kA ⊢
 simp(disch:=first|assumption|omega)only[f74,W_block,P3,seval,initFr,clsA,o1,o_s64,o_s32,one_s64,one_s32]
 refine callQ (t43 _ _) ?_
 simp(disch:=first|assumption|omega)only[W_block,P3,seval,initFr,clsA]
 exact hq2 _ _ ⟨_,rfl,rfl,kA⟩
theorem t79{H:AHeap}{x:Inp}{cv:Value}(hc:isS cv=true):
 ∃w H',ARun Tryz.prog 0 79 [.agg (inl x cv).toArray] H w H'∧w=.tuple #[S32 (sideN x),S32 (sideR x)]∧H'=H:=by
 suffices h':∃w H',ARun Tryz.prog 0 79 [.agg (inl x cv).toArray] H w H'∧w=.tuple #[S32 (sideN x),S32 (sideR x)]∧Keeps H H' by
  obtain⟨_,_,a,rfl,k⟩:=h'
  exact⟨_,_,a.gc0 k (.inr (.tuple _ _ rfl (fun i a b=>by
   match i,a with
   |0,_=>exact .int _ _
   |1,_=>exact .int _ _))),rfl,rfl⟩
 refine walk2 f79_ok f79_n ?_
 intro Q hq1 hq2
 have kA:=(Keeps.refl H).alloc (.cells true false 4 (inl x cv) 42)
 have o1:=one_isS hc
 unfold inl at kA ⊢
 simp(disch:=first|assumption|omega)only[f79,W_block,P3,seval,initFr,clsA,o1,o_s64,o_s32,one_s64,one_s32,p_andn]
 exact hq2 _ _ ⟨_,rfl,rfl,kA⟩
def relS(s:Sta)(i:Nat):Sta where
 lo:=fun j=>s.lo j&& !decide (j=i)
 us:=fun j=>s.us j&& !decide (j=i)
 ca:=fun j=>s.ca j&& !decide (j=i)
 ti:=upd s.ti i 0
 po:=s.po
theorem t78{H:AHeap}(s:Sta){i:Nat}(hi:i<64):∃w H',ARun Tryz.prog 0 78 [.agg (stl s).toArray,.int .i64 (i:Nat)] H w H'∧w=.agg (stl (relS s i)).toArray∧H'=H:=by
 refine gcst ?_
 refine walk2 f78_ok f78_n ?_
 intro Q hq1 hq2
 have s1:=s_shl1 hi
 have z0:=fun t:Sta=>set_t0 t hi
 have hll:3+i<68:=by omega
 have e0:(0:Int)≤(i:Int):=by omega
 have e1:(i:Int)<64:=by omega
 have hr:(⟨fun j=>s.lo j&& !decide (j=i),fun j=>s.us j&& !decide (j=i),fun j=>s.ca j&& !decide (j=i),upd s.ti i 0,s.po⟩:Sta)=relS s i:=rfl
 simp(disch:=first|assumption|omega|(simp only[LN]<;>omega)|(simp(disch:=first|assumption|omega|(simp only[LN]<;>omega))only[row_alloc,row_set];assumption))only[f78,W_block,P3,seval,initFr,clsA,stl_one,stl_len,Z68I_z',stl_0,stl_1,stl_2,set_0,set_1,set_2,s1,s_andn,o_s64,one_s64,e0,e1,a_iaddrp,z0,hll,rng68,stn68s,Int.toNat_natCast,Nat.mul_one]
 rw[hr]
 refine hq2 _ _ ⟨.agg (stl (relS s i)).toArray,?_,rfl,((Keeps.refl H).alloc _).alloc _⟩
 show resO [.cn 68 3] _ _=_
 rw[resC]
 show celln 68 (ptr (H.n+1) 0) _=_
 have gg:=AHeap.get_alloc_new (H.alloc (.cells true false 68 (stl (relS s i)) 37)) (.cells true false 68 (stl (relS s i)) 37)
 have gg':((H.alloc (.cells true false 68 (stl (relS s i)) 37)).alloc (.cells true false 68 (stl (relS s i)) 37)).get (H.n+1)=_:=gg
 rw[cellnp,rangeA_e,gg',rng68];rfl
def frD(x:Inp)(r:Ro):Bool:=(trk r).all fun t=> !hasB x.oc t
theorem take_all{α:Type}{p:α→Bool}{l:List α}{i:Nat}(h:i<l.length)(h1:(l.take i).all p=true)(h2:p l[i]=true):(l.take (i+1)).all p=true:=by
 rw[List.take_add_one,List.getElem?_eq_getElem h,List.all_append,h1];simp[h2]
set_option maxHeartbeats 1000000 in
theorem t77{H:AHeap}{y:RV}{x:Inp}{cv:Value}(h:y.ok H)(hl:y.r.path.length+y.r.ov.length≤1000000)(hc:isS cv=true):
 ∃w H',ARun Tryz.prog 0 77 [.agg y.row.toArray,.agg (inl x cv).toArray] H w H'∧w=.bool (frD x y.r)∧H'=H:=by
 refine gcb ?_
 refine walk2 f77_ok f77_n ?_
 intro Q hq1 hq2
 have o1:=one_isS hc
 obtain⟨a3,a4,a5,a6⟩:=RV.ones h
 have a1:one1 (Value.int .i64 y.r.g)=True:=by simp[one1,one_int]
 have a2:one1 (Value.string ⟨y.r.n.toArray⟩)=True:=by simp[one1,one_str]
 have rowy:y.row=[.string ⟨y.r.n.toArray⟩,.int .i64 y.r.g,y.vp,y.vq,y.vo,y.vf]:=rfl
 obtain⟨K0,hK0⟩:∃X,X=(H.alloc (.cells true false 6 y.row 49)).alloc (.cells true false 4 (inl x cv) 42):=⟨_,rfl⟩
 have k0:Keeps H K0:=by rw[hK0];exact((Keeps.refl H).alloc _).alloc _
 have gi0:K0.get (H.n+1)=some (.cells true false 4 (inl x cv) 42):=by rw[hK0];exact AHeap.get_alloc_new (H.alloc _) _
 have tT:=t98 (h.keeps k0) hl
 have tCl:=fun K n=>t74 (H:=K) (x:=x) hc n
 obtain⟨A1,hA1⟩:∃v:Value,v=.agg y.row.toArray:=⟨_,rfl⟩
 obtain⟨A2,hA2⟩:∃v:Value,v=.agg (inl x cv).toArray:=⟨_,rfl⟩
 have ti:trk y.r=trk y.r:=rfl
 have hinl:inl x cv=[S64 x.oc,S32 x.nr,S32 x.rv,cv]:=rfl
 rw[rowy,hinl]at hK0
 rw[rowy]at tT hA1 ⊢
 rw[hinl]at gi0 hA2 ⊢
 simp only[hinl]at tCl
 simp(disch:=first|assumption|omega|(simp only[LN]<;>omega)|(simp(disch:=first|assumption|omega|(simp only[LN]<;>omega))only[row_alloc,row_set];assumption))only[f77,W_block,P3,seval,initFr,clsA,a1,a2,a3,a4,a5,a6,o1,o_s64,o_s32,one_s64,one_s32]
 simp only[←hK0]
 refine callK tT ?_
 rintro tv K1 ⟨ht,k1,ft⟩
 have gi1:=k1.at_ gi0
 have len:=ht.len
 have is:=Sl.is ht
 have tl:(trk y.r).length≤1000000:=by simp[trk];omega
 have frd:frD x y.r=(trk y.r).all fun t=> !hasB x.oc t:=rfl
 generalize trk y.r=l at*
 simp(disch:=first|assumption|omega)only[P3,seval,initFr,clsA]
 rw[W_block,←hA1,←hA2]
 refine W_loop2 (fun q fr X=>∃i x7 x8,fr=[A1,A2,ptr H.n 0,ptr (H.n+1) 0,.bool false,tv,.int .i64 ((i:Nat):Int),x7,x8]∧K1=X∧(l.take i).all (fun t=> !hasB x.oc t)=true∧i≤l.length∧q=l.length-i) l.length
  ⟨0,_,_,rfl,rfl,by simp,by omega,rfl⟩ ?_
 rintro Q' q fr X ⟨i,x7,x8,rfl,rfl,hp,hi,rfl⟩ hn' hx' hret
 by_cases hlt:i<l.length
 ·obtain⟨na,ra⟩:=ht.at_ hlt
  have e0:(0:Int)≤(i:Int):=by omega
  have e1:(i:Int)<((l.length:Nat):Int):=by omega
  have hw:IntKind.i64.wrap ((i:Int)+1)=((i+1:Nat):Int):=by rw[wrap_i64 (by omega) (by omega)];simp
  have hgd:l.getD i 0=l[i]:=by rw[List.getD_eq_getElem?_getD,List.getElem?_eq_getElem hlt];rfl
  rw[hgd]at ra
  simp(disch:=first|assumption|omega|(simp only[LN]<;>omega)|(simp(disch:=first|assumption|omega|(simp only[LN]<;>omega))only[row_alloc,row_set];assumption))only[W_block,P3,seval,initFr,clsA,is,len,e0,e1,na,ra,a_load1v,gi1]
  refine callQ (tCl _ _) ?_
  cases hb:hasB x.oc l[i]with
  |true=>
   simp(disch:=first|assumption|omega)only[W_block,P3,seval,initFr,clsA]
   refine hret _ _ ?_
   refine hq2 _ _ ⟨_,rfl,?_,k0.trans k1⟩
   have:l.all (fun t=> !hasB x.oc t)=false:=List.all_eq_false.2 ⟨l[i],List.getElem_mem hlt,by simp[hb]⟩
   rw[frd,this];rfl
  |false=>
   simp(disch:=first|assumption|omega)only[W_block,P3,seval,initFr,clsA,hw]
   exact hn' _ _ _ ⟨i+1,_,_,rfl,rfl,take_all hlt hp (by simp[hb]),by omega,rfl⟩ (by omega)
 ·have e1:¬((i:Nat):Int)<((l.length:Nat):Int):=by omega
  have hie:i=l.length:=by omega
  subst hie
  rw[List.take_length]at hp
  simp(disch:=first|assumption|omega)only[W_block,P3,seval,initFr,clsA,is,len,e1]
  refine hx' _ _ _ ?_
  simp(disch:=first|assumption|omega)only[W_block,P3,seval,initFr,clsA]
  exact hq2 _ _ ⟨_,rfl,by rw[frd,hp];rfl,k0.trans k1⟩
end Go.AM.Fd

set_option maxRecDepth 8000
namespace Go.AM.Fd
open Nat (reduceAdd reduceEqDiff reduceLT reduceLeDiff reduceMul reduceSub)
open Go.Proofs Go.AM.F
def needD(L:Ly)(s:Sta)(p:Int):Bool:=(List.range L.r.length).any fun i=>(nds (ro L i)).any fun z=>s.lo i&&(z.1==p)
theorem any_at{p:Nat→Bool}{n i:Nat}(hi:i<n)(h:p i=true):(List.range n).any p=true:=List.any_eq_true.2 ⟨i,List.mem_range.2 hi,h⟩
theorem any_snoc{p:Nat→Bool}{i:Nat}(h:(List.range i).any p=false)(h2:p i=false):(List.range (i+1)).any p=false:=by
 rw[List.range_succ,List.any_append,h];simp[h2]
theorem take_any'{α:Type}{p:α→Bool}{l:List α}{i:Nat}(h:i<l.length)(h1:(l.take i).any p=false)(h2:p l[i]=false):(l.take (i+1)).any p=false:=by
 rw[List.take_add_one,List.getElem?_eq_getElem h,List.any_append,h1];simp[h2]
set_option maxHeartbeats 1000000 in
theorem t75{H:AHeap}{u:V4}{xs:List RV}{L:Ly}(h:LyR H u xs L)(he:checkE L=0)(s:Sta)(p:Int):
 ∃w H',ARun Tryz.prog 0 75 [.agg u.l.toArray,.agg (stl s).toArray,.int .i64 p] H w H'∧w=.bool (needD L s p)∧H'=H:=by
 refine gcb ?_
 refine walk2 f75_ok f75_n ?_
 intro Q hq1 hq2
 have hmay:=check_may he
 have hL:=may_lim hmay
 have lr:=hL.r
 have os:=Sl.one h.s
 have op:=Sl.one h.p
 have og:=Sl.one h.g
 have or:=Sl.one h.r
 have ir:=Sl.is h.r
 have lenr:=h.r.len
 rw[h.rlen]at lenr
 have hul:u.l=[u.s,u.p,u.g,u.r]:=rfl
 obtain⟨K0,hK0⟩:∃X,X=(H.alloc (.cells true false 4 [u.s,u.p,u.g,u.r] 27)).alloc (.cells true false 68 (stl s) 37):=⟨_,rfl⟩
 have k0:Keeps H K0:=by rw[hK0];exact((Keeps.refl H).alloc _).alloc _
 have gl0:K0.get H.n=some (.cells true false 4 [u.s,u.p,u.g,u.r] 27):=by rw[hK0];exact((Keeps.refl _).alloc _).at_ (AHeap.get_alloc_new H _)
 have gs0:K0.get (H.n+1)=some (.cells true false 68 (stl s) 37):=by rw[hK0];exact AHeap.get_alloc_new (H.alloc _) _
 rw[hul]
 simp(disch:=first|assumption|omega)only[f75,P3,seval,initFr,clsA,os,op,og,or,stl_one,stl_len,rng68]
 simp only[←hK0]
 obtain⟨A1,hA1⟩:∃v:Value,v=.agg #[u.s,u.p,u.g,u.r]:=⟨_,rfl⟩
 obtain⟨A2,hA2⟩:∃v:Value,v=.agg (stl s).toArray:=⟨_,rfl⟩
 rw[W_block,←hA1,←hA2]
 refine W_loop2 (fun q fr K=>∃i x7 x8 x9 x10 x11,fr=[A1,A2,.int .i64 p,ptr H.n 0,ptr (H.n+1) 0,.bool false,.int .i64 ((i:Nat):Int),x7,x8,x9,x10,x11]∧
  Keeps K0 K∧((List.range i).any fun i=>(nds (ro L i)).any fun z=>s.lo i&&(z.1==p))=false∧i≤L.r.length∧q=L.r.length-i) L.r.length
  ⟨0,_,_,_,_,_,rfl,Keeps.refl _,rfl,by omega,rfl⟩ ?_
 rintro Q' q fr K ⟨i,x7,x8,x9,x10,x11,rfl,kK,hall,hi,rfl⟩ hn' hx' hret
 have gl:=kK.at_ gl0
 by_cases hlt:i<L.r.length
 ·have iN:i<64:=by omega
  have e0:(0:Int)≤(i:Int):=by omega
  have e1:(i:Int)<((L.r.length:Nat):Int):=by omega
  have hw:IntKind.i64.wrap ((i:Int)+1)=((i+1:Nat):Int):=by rw[wrap_i64 (by omega) (by omega)];simp
  obtain⟨hyr,hyo⟩:=rv_ro h hlt
  obtain⟨na,ra⟩:=(h.r.keeps (k0.trans kK)).at_ (i:=i) (by rw[h.rlen];exact hlt)
  have hgood:=check_good he (List.getElem_mem hlt)
  rw[←ro_eq hlt,←hyr]at hgood
  have yes:((nds (ro L i)).any fun z=>s.lo i&&(z.1==p))=true→needD L s p=true:=fun e=>any_at (p:=fun i=>(nds (ro L i)).any fun z=>s.lo i&&(z.1==p)) hlt e
  have no:((nds (ro L i)).any fun z=>s.lo i&&(z.1==p))=false→((List.range (i+1)).any fun i=>(nds (ro L i)).any fun z=>s.lo i&&(z.1==p))=false:=fun e=>any_snoc hall e
  rw[←hyr]at yes no
  generalize xs.getD i rv0=y at*
  have rowy:y.row=[.string ⟨y.r.n.toArray⟩,.int .i64 y.r.g,y.vp,y.vq,y.vo,y.vf]:=rfl
  have tN:=t61 ((hyo.keeps k0).keeps kK) (by have:=hgood.lim.q;have:=hgood.lim.f;omega)
  simp only[rowy]at tN ra
  simp(disch:=first|assumption|omega)only[W_block,P3,seval,initFr,clsA,gl,ir,lenr,na,ra,e0,e1,a_loadnvf]
  refine callK tN ?_
  rintro nv K2 ⟨hnv,k2,fnv⟩
  have gs2:=(kK.trans k2).at_ gs0
  have isn:=Sl.is hnv
  have lenn:=hnv.len
  have ndl:(nds y.r).length≤32:=by have:=hgood.lim.q;have:=hgood.lim.f;simp[nds];omega
  generalize nds y.r=l at*
  simp(disch:=first|assumption|omega)only[P3,seval,initFr,clsA]
  rw[W_block]
  refine W_loop2 (fun q fr X=>∃j x10 x11,fr=[A1,A2,.int .i64 p,ptr H.n 0,ptr (H.n+1) 0,.bool false,.int .i64 ((i:Nat):Int),nv,.int .i64 ((j:Nat):Int),.bool true,x10,x11]∧
   K2=X∧((l.take j).any fun z=>s.lo i&&(z.1==p))=false∧j≤l.length∧q=l.length-j) l.length
   ⟨0,_,_,rfl,rfl,by simp,by omega,rfl⟩ ?_
  rintro Q3 q fr X ⟨j,x10,x11,rfl,rfl,hj,hjl,rfl⟩ hn3 hx3 hret3
  by_cases hjlt:j<l.length
  ·obtain⟨nj,rj⟩:=hnv.at_ hjlt
   have j0:(0:Int)≤(j:Int):=by omega
   have j1:(j:Int)<((l.length:Nat):Int):=by omega
   have hw3:IntKind.i64.wrap ((j:Int)+1)=((j+1:Nat):Int):=by rw[wrap_i64 (by omega) (by omega)];simp
   have hgd:l.getD j (0,false)=l[j]:=by rw[List.getD_eq_getElem?_getD,List.getElem?_eq_getElem hjlt];rfl
   rw[hgd]at rj
   simp(disch:=first|assumption|omega)only[W_block,P3,seval,initFr,clsA,isn,lenn,j1,gs2,stl_0]
   refine callK (t43 _ _) ?_
   rintro _ X ⟨rfl,hX⟩
   rw[hX,has_nat _ iN]
   cases hlo:s.lo i with
   |false=>
    simp(disch:=first|assumption|omega)only[W_block,P3,seval,initFr,clsA,hw3]
    exact hn3 _ _ _ ⟨j+1,_,_,rfl,rfl,take_any' hjlt hj (by rw[hlo];rfl),by omega,rfl⟩ (by omega)
   |true=>
    cases hz:(l[j].1 ==p)with
    |true=>
     simp(disch:=first|assumption|omega)only[W_block,P3,seval,initFr,clsA,nj,rj,lenn,j0,j1,a_load1v,hz]
     refine hret3 _ _ ?_
     refine hret _ _ ?_
     exact hq2 _ _ ⟨.bool true,rfl,by rw[yes (List.any_eq_true.2 ⟨l[j],List.getElem_mem hjlt,by rw[hlo,hz];rfl⟩)],(k0.trans kK).trans k2⟩
    |false=>
     simp(disch:=first|assumption|omega)only[W_block,P3,seval,initFr,clsA,nj,rj,lenn,j0,j1,a_load1v,hz,hw3]
     exact hn3 _ _ _ ⟨j+1,_,_,rfl,rfl,take_any' hjlt hj (by rw[hlo,hz];rfl),by omega,rfl⟩ (by omega)
  ·have j1:¬((j:Nat):Int)<((l.length:Nat):Int):=by omega
   have hje:j=l.length:=by omega
   subst hje
   rw[List.take_length]at hj
   simp(disch:=first|assumption|omega)only[W_block,P3,seval,initFr,clsA,isn,lenn,j1]
   refine hx3 _ _ _ ?_
   simp(disch:=first|assumption|omega)only[W_block,P3,seval,initFr,clsA,hw]
   exact hn' _ _ _ ⟨i+1,_,_,_,_,_,rfl,kK.trans k2,no hj,by omega,rfl⟩ (by omega)
 ·have e1:¬((i:Nat):Int)<((L.r.length:Nat):Int):=by omega
  have hie:i=L.r.length:=by omega
  subst hie
  simp(disch:=first|assumption|omega)only[W_block,P3,seval,initFr,clsA,gl,ir,lenr,e1]
  refine hx' _ _ _ ?_
  simp(disch:=first|assumption|omega)only[W_block,P3,seval,initFr,clsA]
  exact hq2 _ _ ⟨_,rfl,by unfold needD;rw[hall];rfl,k0.trans kK⟩
def proD(L:Ly)(x:Inp)(s:Sta)(i:Nat):Bool:=(((s.lo i&& !s.us i)&& !s.ca i)&&frD x (ro L i))&&(nds (ro L i)).all fun z=>if z.2 then sideR x z.1.toNat else sideN x z.1.toNat
set_option maxHeartbeats 2000000 in
theorem t45{H:AHeap}{u:V4}{xs:List RV}{L:Ly}{x:Inp}{cv:Value}(h:LyR H u xs L)(he:checkE L=0)(s:Sta)(hc:isS cv=true){i:Nat}(hlt:i<L.r.length):
 ∃w H',ARun Tryz.prog 0 45 [.agg u.l.toArray,.agg (stl s).toArray,.agg (inl x cv).toArray,.int .i64 (i:Nat)] H w H'∧w=.bool (proD L x s i)∧H'=H:=by
 refine gcb ?_
 refine walk2 f45_ok f45_n ?_
 intro Q hq1 hq2
 have hmay:=check_may he
 have hL:=may_lim hmay
 have lr:=hL.r
 have os:=Sl.one h.s
 have op:=Sl.one h.p
 have og:=Sl.one h.g
 have or:=Sl.one h.r
 have ir:=Sl.is h.r
 have lenr:=h.r.len
 rw[h.rlen]at lenr
 have o1:=one_isS hc
 have hul:u.l=[u.s,u.p,u.g,u.r]:=rfl
 have hinl:inl x cv=[S64 x.oc,S32 x.nr,S32 x.rv,cv]:=rfl
 obtain⟨K0,hK0⟩:∃X,X=((H.alloc (.cells true false 4 [u.s,u.p,u.g,u.r] 27)).alloc (.cells true false 68 (stl s) 37)).alloc (.cells true false 4 (inl x cv) 42):=⟨_,rfl⟩
 have k0:Keeps H K0:=by rw[hK0];exact(((Keeps.refl H).alloc _).alloc _).alloc _
 have gl0:K0.get H.n=some (.cells true false 4 [u.s,u.p,u.g,u.r] 27):=by rw[hK0];exact(((Keeps.refl _).alloc _).alloc _).at_ (AHeap.get_alloc_new H _)
 have gs0:K0.get (H.n+1)=some (.cells true false 68 (stl s) 37):=by rw[hK0];exact((Keeps.refl _).alloc _).at_ (AHeap.get_alloc_new (H.alloc _) _)
 have gi0:K0.get (H.n+2)=some (.cells true false 4 (inl x cv) 42):=by rw[hK0];exact AHeap.get_alloc_new ((H.alloc _).alloc _) _
 have l0:=AHeap.get_lt gl0
 have l1:=AHeap.get_lt gs0
 have l2:=AHeap.get_lt gi0
 have iN:i<64:=by omega
 have e0:(0:Int)≤(i:Int):=by omega
 have e1:(i:Int)<((L.r.length:Nat):Int):=by omega
 obtain⟨hyr,hyo⟩:=rv_ro h hlt
 obtain⟨na,ra⟩:=(h.r.keeps k0).at_ (i:=i) (by rw[h.rlen];exact hlt)
 have hgood:=check_good he (List.getElem_mem hlt)
 rw[←ro_eq hlt,←hyr]at hgood
 have hpro:proD L x s i=((((s.lo i&& !s.us i)&& !s.ca i)&&frD x (ro L i))&&(nds (ro L i)).all fun z=>if z.2 then sideR x z.1.toNat else sideN x z.1.toNat):=rfl
 rw[←hyr]at hpro
 generalize xs.getD i rv0=y at*
 have rowy:y.row=[.string ⟨y.r.n.toArray⟩,.int .i64 y.r.g,y.vp,y.vq,y.vo,y.vf]:=rfl
 have lP:=hgood.lim.p
 have lO:=hgood.lim.o
 have lQ:=hgood.lim.q
 have lF:=hgood.lim.f
 have tF:=t77 (x:=x) (cv:=cv) (hyo.keeps k0) (by omega) hc
 have tS:=t79 (H:=K0) (x:=x) hc
 have tN:=t61 (hyo.keeps k0) (by omega)
 simp only[rowy,hinl]at tN tF tS ra
 rw[hinl]at hK0 gi0
 have hno:proD L x s i=false→∀{K:AHeap} {fr:List Value},Keeps H K→resO f45.res fr K=some (.bool false)→Q .ret fr K:=fun e K fr k hr=>hq2 _ _ ⟨_,hr,by rw[e],k⟩
 rw[hul,hinl]
 simp(disch:=first|assumption|omega)only[f45,W_block,P3,seval,initFr,clsA,os,op,og,or,stl_one,stl_len,rng68,o1,o_s64,o_s32,one_s64,one_s32]
 simp only[←hK0]
 simp(disch:=first|assumption|omega)only[W_block,P3,seval,initFr,clsA,gs0,stl_0,stl_1,stl_2,s_andn]
 refine callK (t43 _ _) ?_
 rintro _ X ⟨rfl,hX⟩
 rw[hX,has_nat _ iN]
 cases hb1:((s.lo i&& !s.us i)&& !s.ca i)with
 |false=>
  rw[hb1]at hpro
  simp(disch:=first|assumption|omega)only[W_block,P3,seval,initFr,clsA]
  exact hno (by rw[hpro];rfl) k0 rfl
 |true=>
 rw[hb1]at hpro
 have qq:=row_lt ra
 simp(disch:=first|assumption|omega|(simp only[LN]<;>omega)|(simp(disch:=first|assumption|omega|(simp only[LN]<;>omega))only[row_alloc,row_set];assumption))only[W_block,P3,seval,initFr,clsA,gl0,gi0,ir,lenr,na,ra,e0,e1,a_loadnvf,l0,l1,l2,qq]
 refine callK tF ?_
 rintro _ X ⟨rfl,hX⟩
 rw[hX]
 cases hb2:frD x y.r with
 |false=>
  rw[hb2]at hpro
  simp(disch:=first|assumption|omega)only[W_block,P3,seval,initFr,clsA]
  exact hno (by rw[hpro];rfl) k0 rfl
 |true=>
 rw[hb2]at hpro
 simp(disch:=first|assumption|omega|(simp only[LN]<;>omega)|(simp(disch:=first|assumption|omega|(simp only[LN]<;>omega))only[row_alloc,row_set];assumption))only[W_block,P3,seval,initFr,clsA,gi0]
 refine callK tS ?_
 rintro _ X ⟨rfl,hX⟩
 rw[hX]
 simp(disch:=first|assumption|omega)only[W_block,P3,seval,initFr,clsA,gl0,ir,lenr,na,ra,e0,e1,a_loadnvf]
 refine callK tN ?_
 rintro nv K2 ⟨hnv,k2,fnv⟩
 have isn:=Sl.is hnv
 have lenn:=hnv.len
 have ndl:(nds y.r).length≤32:=by simp[nds];omega
 have hnd:=hgood.nd
 generalize nds y.r=l at*
 simp(disch:=first|assumption|omega)only[P3,seval,initFr,clsA]
 obtain⟨A1,hA1⟩:∃v:Value,v=.agg #[u.s,u.p,u.g,u.r]:=⟨_,rfl⟩
 obtain⟨A2,hA2⟩:∃v:Value,v=.agg (stl s).toArray:=⟨_,rfl⟩
 obtain⟨A4,hA4⟩:∃v:Value,v=.agg #[S64 x.oc,S32 x.nr,S32 x.rv,cv]:=⟨_,rfl⟩
 rw[W_block,←hA1,←hA2,←hA4]
 refine W_loop2 (fun q fr X=>∃j x12 x14 x15 x16,fr=[A1,A2,A4,.int .i64 ((i:Nat):Int),ptr H.n 0,ptr (H.n+1) 0,ptr (H.n+2) 0,.bool false,S32 (sideN x),S32 (sideR x),nv,.int .i64 ((j:Nat):Int),x12,.bool false,x14,x15,x16]∧
  K2=X∧((l.take j).all fun z=>if z.2 then sideR x z.1.toNat else sideN x z.1.toNat)=true∧j≤l.length∧q=l.length-j) l.length
  ⟨0,_,_,_,_,rfl,rfl,by simp,by omega,rfl⟩ ?_
 rintro Q3 q fr X ⟨j,x12,x14,x15,x16,rfl,rfl,hj,hjl,rfl⟩ hn3 hx3 hret3
 by_cases hjlt:j<l.length
 ·obtain⟨nj,rj⟩:=hnv.at_ hjlt
  have j0:(0:Int)≤(j:Int):=by omega
  have j1:(j:Int)<((l.length:Nat):Int):=by omega
  have hw3:IntKind.i64.wrap ((j:Int)+1)=((j+1:Nat):Int):=by rw[wrap_i64 (by omega) (by omega)];simp
  have hgd:l.getD j (0,false)=l[j]:=by rw[List.getD_eq_getElem?_getD,List.getElem?_eq_getElem hjlt];rfl
  have hmem:=List.getElem_mem hjlt
  have hrng:=hnd _ hmem
  have ok1:(if l[j].2 then sideR x l[j].1.toNat else sideN x l[j].1.toNat)=true→((l.take (j+1)).all fun z=>if z.2 then sideR x z.1.toNat else sideN x z.1.toNat)=true:=fun e=>take_all hjlt hj e
  have bad1:(if l[j].2 then sideR x l[j].1.toNat else sideN x l[j].1.toNat)=false→proD L x s i=false:=fun e=>by
   have:(l.all fun z=>if z.2 then sideR x z.1.toNat else sideN x z.1.toNat)=false:=List.all_eq_false.2 ⟨_,hmem,by rw[e];simp⟩
   rw[hpro,this];rfl
  rw[hgd]at rj
  generalize l[j]=z at*
  obtain⟨zp,zb⟩:=z
  obtain⟨m,rfl⟩:∃m:Nat,zp=(m:Int):=⟨zp.toNat,by have:=hrng.1;simp only at this;omega⟩
  have hm32:m<32:=by have:=hrng.2;have:=hL.p;simp only at*;omega
  have hmt:(Int.toNat (m:Int))=m:=by omega
  simp only[hmt]at ok1 bad1
  have hz:(decide (0+m<32))=true:=by simp;omega
  have hz2:0+m=m:=by omega
  cases zb with
  |true=>
   simp only[if_true]at ok1 bad1
   cases hs:sideR x m with
   |true=>
    simp(disch:=first|assumption|omega)only[W_block,P3,seval,initFr,clsA,isn,lenn,j0,j1,nj,rj,a_load1v,p_shr,p_and1,i1p_eq0,hs,hz,hz2,hw3]
    exact hn3 _ _ _ ⟨j+1,_,_,_,_,rfl,rfl,ok1 hs,by omega,rfl⟩ (by omega)
   |false=>
    simp(disch:=first|assumption|omega)only[W_block,P3,seval,initFr,clsA,isn,lenn,j0,j1,nj,rj,a_load1v,p_shr,p_and1,i1p_eq0,hs,hz,hz2,hw3]
    refine hret3 _ _ ?_
    exact hno (bad1 hs) (k0.trans k2) rfl
  |false=>
   simp only[Bool.false_eq_true,if_false]at ok1 bad1
   cases hs:sideN x m with
   |true=>
    simp(disch:=first|assumption|omega)only[W_block,P3,seval,initFr,clsA,isn,lenn,j0,j1,nj,rj,a_load1v,p_shr,p_and1,i1p_eq0,hs,hz,hz2,hw3]
    exact hn3 _ _ _ ⟨j+1,_,_,_,_,rfl,rfl,ok1 hs,by omega,rfl⟩ (by omega)
   |false=>
    simp(disch:=first|assumption|omega)only[W_block,P3,seval,initFr,clsA,isn,lenn,j0,j1,nj,rj,a_load1v,p_shr,p_and1,i1p_eq0,hs,hz,hz2,hw3]
    refine hret3 _ _ ?_
    exact hno (bad1 hs) (k0.trans k2) rfl
 ·have j1:¬((j:Nat):Int)<((l.length:Nat):Int):=by omega
  have hje:j=l.length:=by omega
  subst hje
  rw[List.take_length]at hj
  simp(disch:=first|assumption|omega)only[W_block,P3,seval,initFr,clsA,isn,lenn,j1]
  refine hx3 _ _ _ ?_
  simp(disch:=first|assumption|omega)only[W_block,P3,seval,initFr,clsA]
  exact hq2 _ _ ⟨_,rfl,by rw[hpro,hj];rfl,k0.trans k2⟩
end Go.AM.Fd

set_option maxRecDepth 20000
namespace Go.AM.Fd
open Nat (reduceAdd reduceEqDiff reduceLT reduceLeDiff reduceMul reduceSub)
open Go.Proofs Go.AM.F
theorem Z68I_z:Z68I=stl Sta0:=stl_zero
theorem O68I_r:O68I=List.replicate 68 1:=rfl
theorem newSl{H:AHeap}{o rm:Bool}{esz e n:Nat}{c:List Value}{rows:List (List Value)}(hr:∀r∈rows,r.length=esz)(hc:c=rows.flatten)(hn:n=rows.length):Sl (H.alloc (.cells o rm esz c e)) esz (slc H.n 0 n n) rows:=by
 subst hc hn
 exact⟨⟨_,_,rfl⟩,hr,elems_new rfl (flat_len hr)⟩
def wL:Ly:=⟨[[97],[98],[99]],[([80],1)],[([71],0)],[⟨[82],0,[1,2],[(0,false)],[],[]⟩]⟩
def w0:Nat→Bool:=fun i=>decide (i=0)
def w1:Nat→Bool:=fun i=>decide (i=1)
def wn:Nat→Bool:=fun _=>false
def wA:Sta:=stepB wL Sta0 ⟨wn,w0,wn⟩ [(1,0)]
def wB:Sta:=stepB wL Sta0 ⟨wn,wn,wn⟩ [(1,0)]
def wC:Sta:=stepB wL wA ⟨w1,w0,wn⟩ []
def wD:Sta:=stepB wL wC ⟨wn,w0,wn⟩ []
def wE:Sta:=stepB wL wA ⟨w0,w0,wn⟩ [(2,0)]
theorem c0_64:Value.int .u64 1=S64 w0:=congrArg (fun n:Nat=>Value.int .u64 (n:Int)) (by decide+kernel:1=bitsN w0 64)
theorem c1_64:Value.int .u64 2=S64 w1:=congrArg (fun n:Nat=>Value.int .u64 (n:Int)) (by decide+kernel:2=bitsN w1 64)
theorem c0_32:Value.int .u32 1=S32 w0:=congrArg (fun n:Nat=>Value.int .u32 (n:Int)) (by decide+kernel:1=bitsN w0 32)
theorem wL_ok:checkE wL=0:=by decide+kernel
theorem wA_lo:S64 wA.lo=.int .u64 1:=congrArg (fun n:Nat=>Value.int .u64 (n:Int)) (by decide+kernel:bitsN wA.lo 64=1)
theorem wA_pr:S64 (prB wL ⟨wn,w0,wn⟩ wA)=.int .u64 1:=congrArg (fun n:Nat=>Value.int .u64 (n:Int)) (by decide+kernel:bitsN (prB wL ⟨wn,w0,wn⟩ wA) 64=1)
theorem wB_pr:S64 (prB wL ⟨wn,wn,wn⟩ wB)=.int .u64 0:=congrArg (fun n:Nat=>Value.int .u64 (n:Int)) (by decide+kernel:bitsN (prB wL ⟨wn,wn,wn⟩ wB) 64=0)
theorem wC_us:S64 wC.us=.int .u64 1:=congrArg (fun n:Nat=>Value.int .u64 (n:Int)) (by decide+kernel:bitsN wC.us 64=1)
theorem wC_pr:S64 (prB wL ⟨w1,w0,wn⟩ wC)=.int .u64 0:=congrArg (fun n:Nat=>Value.int .u64 (n:Int)) (by decide+kernel:bitsN (prB wL ⟨w1,w0,wn⟩ wC) 64=0)
theorem wD_eq:staB wD Sta0=true:=by decide+kernel
theorem wE_ca:S64 wE.ca=.int .u64 1:=congrArg (fun n:Nat=>Value.int .u64 (n:Int)) (by decide+kernel:bitsN wE.ca 64=1)
theorem wE_ti:wE.ti 0=19:=by decide+kernel
theorem wA_r:rgtB wL wA=true:=by decide+kernel
theorem F1(x y z a b c:ByteArray):fillA [.string x,.string y,.string z] [(0,1,.string a),(1,1,.string b),(2,1,.string c)]=some [.string a,.string b,.string c]:=rfl
theorem F2(x a:ByteArray)(k j:IntKind)(n m:Int):fillA [.string x,.int k m] [(0,1,.string a),(1,1,.int j n)]=some [.string a,.int j n]:=rfl
theorem F3(x a:ByteArray)(k:IntKind)(m:Int):fillA [.string x,.int k m] [(0,1,.string a)]=some [.string a,.int k m]:=rfl
theorem F4(k j:IntKind)(n m p q:Int):fillA [.int k n,.int k m] [(0,1,.int j p),(1,1,.int j q)]=some [.int j p,.int j q]:=rfl
theorem F5(a b c d:Value):fillA [c,d] [(0,2,.agg #[a,b])]=some [a,b]:=rfl
theorem F6(x a:ByteArray)(k:IntKind)(m:Int)(b c d e f g h i j l:Nat):fillA [.string x,.int k m,.slice none 0 0,.slice none 0 0,.slice none 0 0,.slice none 0 0] [(0,1,.string a),(2,1,slc b c d e),(3,1,slc f g h i)]=some [.string a,.int k m,slc b c d e,slc f g h i,.slice none 0 0,.slice none 0 0]:=rfl
theorem F7(a b c d e f g h i j k l:Value):fillA [g,h,i,j,k,l] [(0,6,.agg #[a,b,c,d,e,f])]=some [a,b,c,d,e,f]:=rfl
theorem F8(x y z w a b c d e f g h i j k l:Nat):fillA [.slice none 0 0,.slice none 0 0,.slice none 0 0,.slice none 0 0] [(0,1,slc a b c d),(1,1,slc e f g h),(2,1,slc i j k l),(3,1,slc x y z w)]=some [slc a b c d,slc e f g h,slc i j k l,slc x y z w]:=rfl
theorem F9(k j:IntKind)(n m q:Int):fillA [.int k n,.int j m] [(0,1,.int k q)]=some [.int k q,.int j m]:=rfl
theorem FA(a b c:Int)(d:Value)(x y z w:Nat):fillA [.int .u64 a,.int .u32 b,.int .u32 c,d] [(1,1,.int .u32 1),(3,1,slc x y z w)]=some [.int .u64 a,.int .u32 1,.int .u32 c,slc x y z w]:=rfl
theorem FB(a b c:Int)(d:Value)(x y z w:Nat):fillA [.int .u64 a,.int .u32 b,.int .u32 c,d] [(3,1,slc x y z w)]=some [.int .u64 a,.int .u32 b,.int .u32 c,slc x y z w]:=rfl
theorem FC(a b c e:Int)(d:Value):fillA [.int .u64 a,.int .u32 b,.int .u32 c,d] [(1,1,.int .u32 1),(0,1,.int .u64 e)]=some [.int .u64 e,.int .u32 1,.int .u32 c,d]:=rfl
theorem FD(a b c:Int)(d:Value):fillA [.int .u64 a,.int .u32 b,.int .u32 c,d] [(1,1,.int .u32 1)]=some [.int .u64 a,.int .u32 1,.int .u32 c,d]:=rfl
theorem FE(a b c e:Int)(d:Value)(x y z w:Nat):fillA [.int .u64 a,.int .u32 b,.int .u32 c,d] [(1,1,.int .u32 1),(0,1,.int .u64 e),(3,1,slc x y z w)]=some [.int .u64 e,.int .u32 1,.int .u32 c,slc x y z w]:=rfl
theorem z64:Value.int .u64 0=S64 wn:=s_zero
theorem z32:Value.int .u32 0=S32 wn:=p_zero
theorem i1v(cv:Value):inl ⟨wn,w0,wn⟩ cv=[.int .u64 0,.int .u32 1,.int .u32 0,cv]:=by unfold inl;rw[z64,z32,c0_32]
theorem i2v(cv:Value):inl ⟨wn,wn,wn⟩ cv=[.int .u64 0,.int .u32 0,.int .u32 0,cv]:=by unfold inl;rw[z64,z32]
theorem i3v(cv:Value):inl ⟨w1,w0,wn⟩ cv=[.int .u64 2,.int .u32 1,.int .u32 0,cv]:=by unfold inl;rw[c1_64,z32,c0_32]
theorem i4v(cv:Value):inl ⟨w0,w0,wn⟩ cv=[.int .u64 1,.int .u32 1,.int .u32 0,cv]:=by unfold inl;rw[c0_64,z32,c0_32]
theorem wL_lim:LyLim wL:=⟨by decide,by decide,by decide,by decide⟩
theorem CLnil(K:AHeap):CL K (.slice none 0 0) []:=Sl.nil K 2
def wU(H:AHeap):V4:=⟨slc H.n 0 3 3,slc (H.n+1) 0 1 1,slc (H.n+2) 0 1 1,slc (H.n+5) 0 1 1⟩
def wX(H:AHeap):RV:=⟨⟨[82],0,[1,2],[(0,false)],[],[]⟩,slc (H.n+3) 0 2 2,slc (H.n+4) 0 1 1,.slice none 0 0,.slice none 0 0⟩
def wK(H:AHeap):AHeap:=(((((H.alloc (.cells true false 1 [.string ⟨#[97]⟩,.string ⟨#[98]⟩,.string ⟨#[99]⟩] 9)).alloc (.cells true false 2 [.string ⟨#[80]⟩,.int .i64 1] 52)).alloc
 (.cells true false 2 [.string ⟨#[71]⟩,.int .i64 0] 53)).alloc (.cells true false 1 [.int .i64 1,.int .i64 2] 3)).alloc (.cells true false 2 [.int .i64 0,.bool false] 55)).alloc (.cells true false 6 (wX H).row 49)
theorem wK_ly(H:AHeap):LyR (wK H) (wU H) [wX H] wL:=by
 refine⟨?_,?_,?_,?_,rfl,?_⟩
 ·exact Sl.keeps (newSl (rows:=[[.string ⟨#[97]⟩],[.string ⟨#[98]⟩],[.string ⟨#[99]⟩]]) (by simp) rfl rfl) ((((((Keeps.refl _).alloc _).alloc _).alloc _).alloc _).alloc _)
 ·exact Sl.keeps (newSl (rows:=[[.string ⟨#[80]⟩,.int .i64 1]]) (by simp) rfl rfl) (((((Keeps.refl _).alloc _).alloc _).alloc _).alloc _)
 ·exact Sl.keeps (newSl (rows:=[[.string ⟨#[71]⟩,.int .i64 0]]) (by simp) rfl rfl) ((((Keeps.refl _).alloc _).alloc _).alloc _)
 ·exact newSl (rows:=[(wX H).row]) (by simp[RV.row]) (by simp) rfl
 ·intro x hx
  rw[List.mem_singleton]at hx
  subst hx
  refine⟨?_,?_,Sl.nil _ _,Sl.nil _ _⟩
  ·exact Sl.keeps (newSl (rows:=[[.int .i64 1],[.int .i64 2]]) (by simp) rfl rfl) (((Keeps.refl _).alloc _).alloc _)
  ·exact Sl.keeps (newSl (rows:=[[.int .i64 0,.bool false]]) (by simp) rfl rfl) ((Keeps.refl _).alloc _)
theorem wK_k(H:AHeap):Keeps H (wK H):=((((((Keeps.refl H).alloc _).alloc _).alloc _).alloc _).alloc _).alloc _
theorem wL_in:LyIn 9223372036854775807 wL:=by
 refine⟨?_,?_,?_,?_⟩<;>decide
set_option maxHeartbeats 4000000 in
theorem t11(H:AHeap):∃w K,ARun Tryz.prog 0 11 [] H w K∧w=.bool true∧K=H:=by
 refine gcb ?_
 refine walk2 f11_ok f11_n ?_
 intro Q hq1 hq2
 have kW:=wK_k H
 have tN:=t5 ((wK_ly H).keeps ((Keeps.refl _).alloc (.cells true false 4 (wU H).l 27))) wL_in
 unfold wK wX RV.row at tN
 simp only[V4.l,wU]at tN
 simp(disch:=first|assumption|omega|(simp only[LN]<;>omega)|(simp(disch:=first|assumption|omega|(simp only[LN]<;>omega))only[row_alloc,row_set];assumption))only[f11,W_block,P3,seval,initFr,clsA,F1,F2,F3,F4,F5,F6,F7,F8]
 refine callK tN ?_
 rintro _ K1 ⟨k1,_,e2⟩
 obtain⟨b,rfl,hMF⟩:=e2 wL_ok
 have hM:=hMF.r
 have kH1:Keeps H K1:=(kW.alloc _).trans k1
 obtain⟨K2,hK2⟩:∃X,X=K1.alloc (.cells true false 2 [.int .u8 1,.int .i64 0] 39):=⟨_,rfl⟩
 have k2:Keeps K1 K2:=by rw[hK2];exact(Keeps.refl K1).alloc _
 have cl2:CL K2 (slc K1.n 0 1 1) [(1,0)]:=by rw[hK2];exact newSl (rows:=[[.int .u8 1,.int .i64 0]]) (by simp) rfl rfl
 have hM2:=hM.keeps k2
 have t1:=t15 (s:=Sta0) (x:=⟨wn,w0,wn⟩) hM2 wL_lim cl2 (by simp)
 have t2:=fun K (k:Keeps K2 K)=>t15 (s:=Sta0) (x:=⟨wn,wn,wn⟩) (hM2.keeps k) wL_lim (cl2.keeps k) (by simp)
 have t3:=fun K (k:Keeps K2 K)=>t15 (s:=wA) (x:=⟨w1,w0,wn⟩) (hM2.keeps k) wL_lim (CLnil K) (by simp)
 have t4:=fun K (k:Keeps K2 K)=>t15 (s:=wC) (x:=⟨wn,w0,wn⟩) (hM2.keeps k) wL_lim (CLnil K) (by simp)
 have t6:=fun K (k:Keeps K2 K)=>t20 (hM2.keeps k) (by decide) wA
 rw[i1v]at t1
 simp only[i2v,i3v]at t2 t3
 simp only[i1v]at t4
 simp(disch:=first|assumption|omega)only[W_block,P3,seval,initFr,clsA,F9,F5,FA,Z68I_z,fill0]
 rw[←hK2]
 refine callK t1 ?_
 rintro _ X ⟨rfl,hX⟩
 rw[hX]
 have sA:stepB wL Sta0 ⟨wn,w0,wn⟩ [(1,0)]=wA:=rfl
 have sB:stepB wL Sta0 ⟨wn,wn,wn⟩ [(1,0)]=wB:=rfl
 have sC:stepB wL wA ⟨w1,w0,wn⟩ []=wC:=rfl
 have sD:stepB wL wC ⟨wn,w0,wn⟩ []=wD:=rfl
 rw[sA,wA_pr]
 obtain⟨K3,hK3⟩:∃X,X=(K2.alloc (.cells true false 68 (stl wA) 37)).alloc (.cells true false 2 [.int .u64 1,S32 wA.po] 68):=⟨_,rfl⟩
 have k3:Keeps K2 K3:=by rw[hK3];exact((Keeps.refl K2).alloc _).alloc _
 have ga3:K3.get K2.n=some (.cells true false 68 (stl wA) 37):=by rw[hK3];exact((Keeps.refl _).alloc _).at_ (AHeap.get_alloc_new K2 _)
 have go3:K3.get (K2.n+1)=some (.cells true false 2 [.int .u64 1,S32 wA.po] 68):=by rw[hK3];exact AHeap.get_alloc_new (K2.alloc _) _
 simp(disch:=first|assumption|omega|(simp only[LN]<;>omega)|(simp(disch:=first|assumption|omega|(simp only[LN]<;>omega))only[row_alloc,row_set];assumption))only[W_block,P3,seval,initFr,clsA,Z68I_z,stn68s,stl_one,FB,fill0,o_s32,one_s32]
 simp only[←hK3]
 refine callK (t2 _ k3) ?_
 rintro _ X ⟨rfl,hX⟩
 rw[hX,sB,wB_pr]
 obtain⟨K4,hK4⟩:∃X,X=(K3.alloc (.cells true false 68 (stl wB) 37)).alloc (.cells true false 2 [.int .u64 0,S32 wB.po] 68):=⟨_,rfl⟩
 have k4:Keeps K3 K4:=by rw[hK4];exact((Keeps.refl K3).alloc _).alloc _
 have gb4:K4.get (K3.n+1)=some (.cells true false 2 [.int .u64 0,S32 wB.po] 68):=by rw[hK4];exact AHeap.get_alloc_new (K3.alloc _) _
 have ga4:=k4.at_ ga3
 have ha3:=AHeap.get_lt ga3
 simp(disch:=first|assumption|omega|(simp only[LN]<;>omega)|(simp(disch:=first|assumption|omega|(simp only[LN]<;>omega))only[row_alloc,row_set];assumption))only[W_block,P3,seval,initFr,clsA,Z68I_z,stn68s,stl_one,FC,fill0,o_s32,one_s32,ga3,rng68]
 simp only[←hK4]
 refine callK (t3 _ (k3.trans k4)) ?_
 rintro _ X ⟨rfl,hX⟩
 rw[hX,sC,wC_pr]
 obtain⟨K5,hK5⟩:∃X,X=(K4.alloc (.cells true false 68 (stl wC) 37)).alloc (.cells true false 2 [.int .u64 0,S32 wC.po] 68):=⟨_,rfl⟩
 have k5:Keeps K4 K5:=by rw[hK5];exact((Keeps.refl K4).alloc _).alloc _
 have gc5:K5.get K4.n=some (.cells true false 68 (stl wC) 37):=by rw[hK5];exact((Keeps.refl _).alloc _).at_ (AHeap.get_alloc_new K4 _)
 have gd5:K5.get (K4.n+1)=some (.cells true false 2 [.int .u64 0,S32 wC.po] 68):=by rw[hK5];exact AHeap.get_alloc_new (K4.alloc _) _
 simp(disch:=first|assumption|omega|(simp only[LN]<;>omega)|(simp(disch:=first|assumption|omega|(simp only[LN]<;>omega))only[row_alloc,row_set];assumption))only[W_block,P3,seval,initFr,clsA,Z68I_z,stn68s,stl_one,FD,fill0,o_s32,one_s32,rng68]
 simp only[←hK5]
 refine callK (t4 _ ((k3.trans k4).trans k5)) ?_
 rintro _ X ⟨rfl,hX⟩
 rw[hX,sD]
 obtain⟨K6,hK6⟩:∃X,X=(K5.alloc (.cells true false 68 (stl wD) 37)).alloc (.cells true false 2 [S64 (prB wL ⟨wn,w0,wn⟩ wD),S32 wD.po] 68):=⟨_,rfl⟩
 have k6:Keeps K5 K6:=by rw[hK6];exact((Keeps.refl K5).alloc _).alloc _
 have ge6:K6.get K5.n=some (.cells true false 68 (stl wD) 37):=by rw[hK6];exact((Keeps.refl _).alloc _).at_ (AHeap.get_alloc_new K5 _)
 have ga6:=(k5.trans k6).at_ ga4
 obtain⟨K7,hK7⟩:∃X,X=K6.alloc (.cells true false 2 [.int .u8 2,.int .i64 0] 39):=⟨_,rfl⟩
 have k7:Keeps K6 K7:=by rw[hK7];exact(Keeps.refl K6).alloc _
 have cl7:CL K7 (slc K6.n 0 1 1) [(2,0)]:=by rw[hK7];exact newSl (rows:=[[.int .u8 2,.int .i64 0]]) (by simp) rfl rfl
 have k27:=((((k3.trans k4).trans k5).trans k6).trans k7)
 have t5:=t15 (s:=wA) (x:=⟨w0,w0,wn⟩) (hM2.keeps k27) wL_lim cl7 (by simp)
 rw[i4v]at t5
 have sE:stepB wL wA ⟨w0,w0,wn⟩ [(2,0)]=wE:=rfl
 have ha4:=AHeap.get_lt ga4
 have ha6:=AHeap.get_lt ga6
 have ha5:K2.n<K5.n:=by have:=k5.n;omega
 have ga5:=k5.at_ ga4
 simp(disch:=first|assumption|omega|(simp only[LN]<;>omega)|(simp(disch:=first|assumption|omega|(simp only[LN]<;>omega))only[row_alloc,row_set];assumption))only[W_block,P3,seval,initFr,clsA,Z68I_z,stn68s,stl_one,F9,F5,FE,fill0,o_s32,o_s64,one_s64,one_s32,rng68,ga5,ha5]
 have n6:K6.n=K5.n+1+1:=by rw[hK6];rfl
 rw[n6]at t5
 simp only[←hK6,←hK7]
 refine callK t5 ?_
 rintro _ X ⟨rfl,hX⟩
 rw[hX,sE]
 obtain⟨K8,hK8⟩:∃X,X=(K7.alloc (.cells true false 68 (stl wE) 37)).alloc (.cells true false 2 [S64 (prB wL ⟨w0,w0,wn⟩ wE),S32 wE.po] 68):=⟨_,rfl⟩
 have k8:Keeps K7 K8:=by rw[hK8];exact((Keeps.refl K7).alloc _).alloc _
 have gf8:K8.get K7.n=some (.cells true false 68 (stl wE) 37):=by rw[hK8];exact((Keeps.refl _).alloc _).at_ (AHeap.get_alloc_new K7 _)
 have k78:=k7.trans k8
 have ge8:=k78.at_ ge6
 have gc8:=(k6.trans k78).at_ gc5
 have gd8:=(k6.trans k78).at_ gd5
 have gb8:=((k5.trans k6).trans k78).at_ gb4
 have go8:=(((k4.trans k5).trans k6).trans k78).at_ go3
 have ga8:=(((k4.trans k5).trans k6).trans k78).at_ ga3
 have eq1:=fun K a b=>eq_stl K false a b
 have ti0:=stl_t wE (i:=0) (by omega)
 rw[wE_ti]at ti0
 have ti0':(stl wE)[3]? =some (.int .u8 19):=ti0
 have kk:Keeps H K8:=((kH1.trans k2).trans k27).trans k8
 simp(disch:=first|assumption|omega|(simp only[LN]<;>omega)|(simp(disch:=first|assumption|omega|(simp only[LN]<;>omega))only[row_alloc,row_set];assumption))only[W_block,P3,↓reduceIte,reduceAdd,reduceEqDiff,reduceCtorEq,initFr,reduceLT,clsA,reduceLeDiff,reduceMul,reduceSub,reduceIte,Z68I_z,O68I_r,stn68s,stl_one,o_s32,o_s64,one_s64,one_s32,fill0]
 simp only[←hK8]
 simp(disch:=first|assumption|omega|(simp only[LN]<;>omega)|(simp(disch:=first|assumption|omega|(simp only[LN]<;>omega))only[row_alloc,row_set];assumption))only[W_block,P3,↓reduceIte,reduceAdd,reduceEqDiff,reduceCtorEq,initFr,reduceLT,clsA,reduceLeDiff,reduceMul,reduceSub,reduceIte,ga8,go8,gb8,gc8,gd8,ge8,gf8,stl_0,stl_1,stl_2,wA_lo,wC_us,wE_ca,wD_eq,ti0',eq1,Z68I_z,O68I_r,rng68,fill0]
 refine callK (t6 _ (k27.trans k8)) ?_
 rintro _ X ⟨rfl,hX⟩
 rw[hX,wA_r]
 simp(disch:=first|assumption|omega)only[W_block,P3,seval,initFr,clsA]
 exact hq2 _ _ ⟨_,rfl,rfl,kk⟩
end Go.AM.Fd

set_option maxRecDepth 8000
namespace Go.AM.Fd
open Nat (reduceAdd reduceEqDiff reduceLT reduceLeDiff reduceMul reduceSub)
open Go.Proofs Go.AM.F
def setD(L:Ly)(x:Inp)(s:Sta)(i:Nat):Bool:=(!s.lo i&&frD x (ro L i))&&((List.range L.r.length).all (fun k=> !(s.lo k&&cf L i k))&&(nds (ro L i)).all fun z=> !((s.po z.1.toNat != z.2)&&hasB x.oc (L.p.getD z.1.toNat ([],0)).2))
set_option maxHeartbeats 4000000 in
theorem t73{H:AHeap}{u:V4}{xs:List RV}{L:Ly}{x:Inp}{cv:Value}(h:LyR H u xs L)(he:checkE L=0)(s:Sta)(hc:isS cv=true){i:Nat}(hlt:i<L.r.length):
 ∃w H',ARun Tryz.prog 0 73 [.agg u.l.toArray,.agg (stl s).toArray,.agg (inl x cv).toArray,.int .i64 (i:Nat)] H w H'∧w=.bool (setD L x s i)∧H'=H:=by
 refine gcb ?_
 refine walk2 f73_ok f73_n ?_
 intro Q hq1 hq2
 have hmay:=check_may he
 have hL:=may_lim hmay
 have lr:=hL.r
 have lpp:=hL.p
 have os:=Sl.one h.s
 have op:=Sl.one h.p
 have og:=Sl.one h.g
 have or:=Sl.one h.r
 have ir:=Sl.is h.r
 have ip:=Sl.is h.p
 have lenr:=h.r.len
 have lenp:=h.p.len
 rw[h.rlen]at lenr
 have o1:=one_isS hc
 have hul:u.l=[u.s,u.p,u.g,u.r]:=rfl
 have hinl:inl x cv=[S64 x.oc,S32 x.nr,S32 x.rv,cv]:=rfl
 have iN:i<64:=by omega
 have e0:(0:Int)≤(i:Int):=by omega
 have e1:(i:Int)<((L.r.length:Nat):Int):=by omega
 obtain⟨hyr,hyo⟩:=rv_ro h hlt
 have hgood:=check_good he (List.getElem_mem hlt)
 rw[←ro_eq hlt,←hyr]at hgood
 obtain⟨K0,hK0⟩:∃X,X=(((H.alloc (.cells true false 4 [u.s,u.p,u.g,u.r] 27)).alloc (.cells true false 68 (stl s) 37)).alloc (.cells true false 4 (inl x cv) 42)).alloc (.cells true false 6 (xs.getD i rv0).row 49):=⟨_,rfl⟩
 have k0:Keeps H K0:=by rw[hK0];exact((((Keeps.refl H).alloc _).alloc _).alloc _).alloc _
 have gl0:K0.get H.n=some (.cells true false 4 [u.s,u.p,u.g,u.r] 27):=by rw[hK0];exact((((Keeps.refl _).alloc _).alloc _).alloc _).at_ (AHeap.get_alloc_new H _)
 have gs0:K0.get (H.n+1)=some (.cells true false 68 (stl s) 37):=by rw[hK0];exact(((Keeps.refl _).alloc _).alloc _).at_ (AHeap.get_alloc_new (H.alloc _) _)
 have gi0:K0.get (H.n+2)=some (.cells true false 4 (inl x cv) 42):=by rw[hK0];exact((Keeps.refl _).alloc _).at_ (AHeap.get_alloc_new ((H.alloc _).alloc _) _)
 have gy0:K0.get (H.n+3)=some (.cells true false 6 (xs.getD i rv0).row 49):=by rw[hK0];exact AHeap.get_alloc_new (((H.alloc _).alloc _).alloc _) _
 have rr:∀K,Keeps H K→nnS u.r=true∧rowA K 6 u.r i=some (xs.getD i rv0).row:=fun K k=>(h.r.keeps k).at_ (i:=i) (by rw[h.rlen];exact hlt)
 have hset:setD L x s i=((!s.lo i&&frD x (ro L i))&&((List.range L.r.length).all (fun k=> !(s.lo k&&cf L i k))&&(nds (ro L i)).all fun z=> !((s.po z.1.toNat != z.2)&&hasB x.oc (L.p.getD z.1.toNat ([],0)).2))):=rfl
 rw[←hyr]at hset
 have hcfy:∀k,cf L i k=confB L (xs.getD i rv0).r (ro L k):=fun k=>by rw[hyr];rfl
 generalize xs.getD i rv0=y at*
 have rowy:y.row=[.string ⟨y.r.n.toArray⟩,.int .i64 y.r.g,y.vp,y.vq,y.vo,y.vf]:=rfl
 have lP:=hgood.lim.p
 have lO:=hgood.lim.o
 have lQ:=hgood.lim.q
 have lF:=hgood.lim.f
 obtain⟨a3,a4,a5,a6⟩:=RV.ones hyo
 have a1:one1 (Value.int .i64 y.r.g)=True:=by simp[one1,one_int]
 have a2:one1 (Value.string ⟨y.r.n.toArray⟩)=True:=by simp[one1,one_str]
 have tF:=t77 (x:=x) (cv:=cv) (hyo.keeps k0) (by omega) hc
 have tCl:=fun K n=>t74 (H:=K) (x:=x) hc n
 have kA:=((Keeps.refl H).alloc (.cells true false 4 [u.s,u.p,u.g,u.r] 27)).alloc (.cells true false 68 (stl s) 37) |>.alloc (.cells true false 4 (inl x cv) 42)
 obtain⟨na,raA⟩:=rr _ kA
 simp only[rowy,hinl]at tF tCl raA gy0 gi0 hK0
 have hno:setD L x s i=false→∀{K:AHeap} {fr:List Value},Keeps H K→resO f73.res fr K=some (.bool false)→Q .ret fr K:=fun e K fr k hr=>hq2 _ _ ⟨_,hr,by rw[e],k⟩
 rw[hul,hinl]
 simp(disch:=first|assumption|omega|(simp only[LN]<;>omega)|(simp(disch:=first|assumption|omega|(simp only[LN]<;>omega))only[row_alloc,row_set];assumption))only[f73,W_block,P3,seval,initFr,clsA,os,op,og,or,stl_one,stl_len,rng68,o1,o_s64,o_s32,one_s64,one_s32,ir,lenr,na,raA,e0,e1,a_loadnvf,a1,a2,a3,a4,a5,a6,stl_0]
 simp only[←hK0]
 refine callK (t43 _ _) ?_
 rintro _ X ⟨rfl,hX⟩
 rw[hX,has_nat _ iN]
 cases hlo:s.lo i with
 |true=>
  rw[hlo]at hset
  simp(disch:=first|assumption|omega)only[W_block,P3,seval,initFr,clsA]
  exact hno (by rw[hset];rfl) k0 rfl
 |false=>
 rw[hlo]at hset
 simp(disch:=first|assumption|omega|(simp only[LN]<;>omega)|(simp(disch:=first|assumption|omega|(simp only[LN]<;>omega))only[row_alloc,row_set];assumption))only[W_block,P3,seval,initFr,clsA,gy0,gi0]
 refine callK tF ?_
 rintro _ X ⟨rfl,hX⟩
 rw[hX]
 cases hb2:frD x y.r with
 |false=>
  rw[hb2]at hset
  simp(disch:=first|assumption|omega)only[W_block,P3,seval,initFr,clsA]
  exact hno (by rw[hset];rfl) k0 rfl
 |true=>
 rw[hb2]at hset
 simp(disch:=first|assumption|omega)only[P3,seval,initFr,clsA]
 obtain⟨A1,hA1⟩:∃v:Value,v=.agg #[u.s,u.p,u.g,u.r]:=⟨_,rfl⟩
 obtain⟨A2,hA2⟩:∃v:Value,v=.agg (stl s).toArray:=⟨_,rfl⟩
 obtain⟨A4,hA4⟩:∃v:Value,v=.agg #[S64 x.oc,S32 x.nr,S32 x.rv,cv]:=⟨_,rfl⟩
 rw[W_block,←hA1,←hA2,←hA4]
 refine W_loop2 (fun q fr X=>∃k x13 x14,fr=[A1,A2,A4,.int .i64 ((i:Nat):Int),ptr H.n 0,ptr (H.n+1) 0,ptr (H.n+2) 0,.bool false,ptr (H.n+3) 0,.int .i64 ((k:Nat):Int),undef,undef,.bool false,x13,x14,undef,undef]∧
  K0=X∧(List.range k).all (fun k=> !(s.lo k&&cf L i k))=true∧k≤L.r.length∧q=L.r.length-k) L.r.length
  ⟨0,_,_,rfl,rfl,rfl,by omega,rfl⟩ ?_
 rintro Q2 q fr X ⟨k,x13,x14,rfl,rfl,hk,hkl,rfl⟩ hn2 hx2 hret2
 by_cases hlk:k<L.r.length
 ·have kN:k<64:=by omega
  have c0:(0:Int)≤(k:Int):=by omega
  have c1:((k:Nat):Int)<((L.r.length:Nat):Int):=by omega
  have hw2:IntKind.i64.wrap ((k:Int)+1)=((k+1:Nat):Int):=by rw[wrap_i64 (by omega) (by omega)];simp
  have hall:=fun e=>all_at (p:=fun k=> !(s.lo k&&cf L i k)) hlk e
  have bad:(!(s.lo k&&cf L i k))=false→setD L x s i=false:=fun e=>by rw[hset,hall e];simp
  simp(disch:=first|assumption|omega)only[W_block,P3,seval,initFr,clsA,gl0,gs0,ir,lenr,c1,stl_0]
  refine callK (t43 _ _) ?_
  rintro _ X ⟨rfl,hX⟩
  rw[hX,has_nat _ kN]
  cases hlk2:s.lo k with
  |false=>
   simp(disch:=first|assumption|omega)only[W_block,P3,seval,initFr,clsA,hw2]
   exact hn2 _ _ _ ⟨k+1,_,_,rfl,rfl,all_snoc hk (by rw[hlk2];rfl),by omega,rfl⟩ (by omega)
  |true=>
   obtain⟨hzr,hzo⟩:=rv_ro h hlk
   obtain⟨nb,rb⟩:=(h.r.keeps k0).at_ (i:=k) (by rw[h.rlen];exact hlk)
   have zlim:=may_ro hmay (List.getElem_mem hlk)
   rw[←ro_eq hlk,←hzr]at zlim
   generalize xs.getD k rv0=z at*
   have rowz:z.row=[.string ⟨z.r.n.toArray⟩,.int .i64 z.r.g,z.vp,z.vq,z.vo,z.vf]:=rfl
   have tC:=t60 (h.keeps k0) (hyo.keeps k0) (hzo.keeps k0) hgood.lim zlim hL
   simp only[hul,rowy,rowz]at tC rb
   simp(disch:=first|assumption|omega|(simp only[LN]<;>omega)|(simp(disch:=first|assumption|omega|(simp only[LN]<;>omega))only[row_alloc,row_set];assumption))only[W_block,P3,seval,initFr,clsA,gl0,gs0,gy0,ir,lenr,nb,rb,c0,c1,a_loadnvf]
   refine callK tC ?_
   rintro _ X ⟨rfl,hX⟩
   rw[hX,hzr,←hcfy]
   cases hcc:cf L i k with
   |false=>
    simp(disch:=first|assumption|omega)only[W_block,P3,seval,initFr,clsA,hw2]
    exact hn2 _ _ _ ⟨k+1,_,_,rfl,rfl,all_snoc hk (by rw[hlk2,hcc];rfl),by omega,rfl⟩ (by omega)
   |true=>
    simp(disch:=first|assumption|omega)only[W_block,P3,seval,initFr,clsA]
    refine hret2 _ _ ?_
    exact hno (bad (by rw[hlk2,hcc];rfl)) k0 rfl
 ·have c1:¬((k:Nat):Int)<((L.r.length:Nat):Int):=by omega
  have hke:k=L.r.length:=by omega
  subst hke
  rw[hk]at hset
  have tN:=t61 (hyo.keeps k0) (by omega)
  simp only[rowy]at tN
  simp(disch:=first|assumption|omega)only[W_block,P3,seval,initFr,clsA,gl0,ir,lenr,c1]
  refine hx2 _ _ _ ?_
  simp(disch:=first|assumption|omega|(simp only[LN]<;>omega)|(simp(disch:=first|assumption|omega|(simp only[LN]<;>omega))only[row_alloc,row_set];assumption))only[W_block,P3,seval,initFr,clsA,gy0]
  refine callK tN ?_
  rintro nv K2 ⟨hnv,k2,fnv⟩
  have isn:=Sl.is hnv
  have lenn:=hnv.len
  have ndl:(nds y.r).length≤32:=by simp[nds];omega
  have hnd:=hgood.nd
  have gl2:=k2.at_ gl0
  have gs2:=k2.at_ gs0
  have gi2:=k2.at_ gi0
  have l0:=AHeap.get_lt gl2
  have l1:=AHeap.get_lt gs2
  have l2:=AHeap.get_lt gi2
  have hp2:=h.p.keeps (k0.trans k2)
  generalize nds y.r=l at*
  simp(disch:=first|assumption|omega)only[P3,seval,initFr,clsA]
  rw[W_block]
  refine W_loop2 (fun q fr X=>∃j x15 x16,fr=[A1,A2,A4,.int .i64 ((i:Nat):Int),ptr H.n 0,ptr (H.n+1) 0,ptr (H.n+2) 0,.bool false,ptr (H.n+3) 0,.int .i64 ((L.r.length:Nat):Int),nv,.int .i64 ((j:Nat):Int),.bool false,.bool false,x14,x15,x16]∧
   K2=X∧((l.take j).all fun z=> !((s.po z.1.toNat != z.2)&&hasB x.oc (L.p.getD z.1.toNat ([],0)).2))=true∧j≤l.length∧q=l.length-j) l.length
   ⟨0,_,_,rfl,rfl,by simp,by omega,rfl⟩ ?_
  rintro Q3 q fr X ⟨j,x15,x16,rfl,rfl,hj,hjl,rfl⟩ hn3 hx3 hret3
  by_cases hjlt:j<l.length
  ·obtain⟨nj,rj⟩:=hnv.at_ hjlt
   have j0:(0:Int)≤(j:Int):=by omega
   have j1:(j:Int)<((l.length:Nat):Int):=by omega
   have hw3:IntKind.i64.wrap ((j:Int)+1)=((j+1:Nat):Int):=by rw[wrap_i64 (by omega) (by omega)];simp
   have hgd:l.getD j (0,false)=l[j]:=by rw[List.getD_eq_getElem?_getD,List.getElem?_eq_getElem hjlt];rfl
   have hmem:=List.getElem_mem hjlt
   have hrng:=hnd _ hmem
   have ok1:(!((s.po l[j].1.toNat != l[j].2)&&hasB x.oc (L.p.getD l[j].1.toNat ([],0)).2))=true→((l.take (j+1)).all fun z=> !((s.po z.1.toNat != z.2)&&hasB x.oc (L.p.getD z.1.toNat ([],0)).2))=true:=fun e=>take_all hjlt hj e
   have bad1:(!((s.po l[j].1.toNat != l[j].2)&&hasB x.oc (L.p.getD l[j].1.toNat ([],0)).2))=false→setD L x s i=false:=fun e=>by
    have:(l.all fun z=> !((s.po z.1.toNat != z.2)&&hasB x.oc (L.p.getD z.1.toNat ([],0)).2))=false:=List.all_eq_false.2 ⟨_,hmem,by rw[e];simp⟩
    rw[hset,this];rfl
   rw[hgd]at rj
   generalize l[j]=z at*
   obtain⟨zp,zb⟩:=z
   obtain⟨m,rfl⟩:∃m:Nat,zp=(m:Int):=⟨zp.toNat,by have:=hrng.1;simp only at this;omega⟩
   have hmp:m<L.p.length:=by have:=hrng.2;simp only at*;omega
   have hm32:m<32:=by omega
   have hmt:(Int.toNat (m:Int))=m:=by omega
   simp only[hmt]at ok1 bad1
   obtain⟨np,rp⟩:=hp2.at_ hmp
   have m0:(0:Int)≤(m:Int):=by omega
   have m1:(m:Int)<((L.p.length:Nat):Int):=by omega
   have qq:=row_lt rj
   have qp:=row_lt rp
   generalize L.p.getD m ([],0)=w at*
   simp(disch:=first|assumption|omega)only[W_block,P3,seval,initFr,clsA,isn,lenn,j0,j1,nj,rj,a_load1v,gs2,rng68]
   refine callQ (t62 s hm32) ?_
   cases hpo:s.po m<;>cases zb<;>rw[hpo]at ok1 bad1
   ·simp(disch:=first|assumption|omega)only[W_block,P3,seval,initFr,clsA,nj,rj,lenn,j0,j1,a_load1v,hw3,qq]
    exact hn3 _ _ _ ⟨j+1,_,_,rfl,rfl,ok1 rfl,by omega,rfl⟩ (by omega)
   ·simp(disch:=first|assumption|omega|(simp only[LN]<;>omega)|(simp(disch:=first|assumption|omega|(simp only[LN]<;>omega))only[row_alloc,row_set];assumption))only[W_block,P3,seval,initFr,clsA,nj,rj,lenn,j0,j1,a_load1v,hw3,qq,gi2,gl2,ip,lenp,np,rp,m0,m1,l0,l1,l2,qp]
    refine callQ (tCl _ _) ?_
    cases hb:hasB x.oc w.2 with
    |true=>
     simp(disch:=first|assumption|omega)only[W_block,P3,seval,initFr,clsA]
     refine hret3 _ _ ?_
     exact hno (bad1 (by rw[hb];rfl)) (k0.trans k2) rfl
    |false=>
     simp(disch:=first|assumption|omega)only[W_block,P3,seval,initFr,clsA,hw3]
     exact hn3 _ _ _ ⟨j+1,_,_,rfl,rfl,ok1 (by rw[hb];rfl),by omega,rfl⟩ (by omega)
   ·simp(disch:=first|assumption|omega|(simp only[LN]<;>omega)|(simp(disch:=first|assumption|omega|(simp only[LN]<;>omega))only[row_alloc,row_set];assumption))only[W_block,P3,seval,initFr,clsA,nj,rj,lenn,j0,j1,a_load1v,hw3,qq,gi2,gl2,ip,lenp,np,rp,m0,m1,l0,l1,l2,qp]
    refine callQ (tCl _ _) ?_
    cases hb:hasB x.oc w.2 with
    |true=>
     simp(disch:=first|assumption|omega)only[W_block,P3,seval,initFr,clsA]
     refine hret3 _ _ ?_
     exact hno (bad1 (by rw[hb];rfl)) (k0.trans k2) rfl
    |false=>
     simp(disch:=first|assumption|omega)only[W_block,P3,seval,initFr,clsA,hw3]
     exact hn3 _ _ _ ⟨j+1,_,_,rfl,rfl,ok1 (by rw[hb];rfl),by omega,rfl⟩ (by omega)
   ·simp(disch:=first|assumption|omega)only[W_block,P3,seval,initFr,clsA,nj,rj,lenn,j0,j1,a_load1v,hw3,qq]
    exact hn3 _ _ _ ⟨j+1,_,_,rfl,rfl,ok1 rfl,by omega,rfl⟩ (by omega)
  ·have j1:¬((j:Nat):Int)<((l.length:Nat):Int):=by omega
   have hje:j=l.length:=by omega
   subst hje
   rw[List.take_length]at hj
   simp(disch:=first|assumption|omega)only[W_block,P3,seval,initFr,clsA,isn,lenn,j1]
   refine hx3 _ _ _ ?_
   simp(disch:=first|assumption|omega)only[W_block,P3,seval,initFr,clsA]
   exact hq2 _ _ ⟨_,rfl,by rw[hset,hj];rfl,k0.trans k2⟩
def okC(L:Ly)(kd n:Int):Bool:=(decide (1≤kd)&&decide (kd≤3))&&(decide (0≤n)&&decide (n<if kd=3 then((L.p.length:Nat):Int)else((L.r.length:Nat):Int)))
def xn:Inp:=⟨wn,wn,wn⟩
theorem none_wn(f:Nat→Bool):(none64 fun i=>wn i&& !f i)=true:=by unfold none64 wn;simp
theorem nonp_wn(f:Nat→Bool):(none32 fun i=>wn i&& !f i)=true:=by unfold none32 wn;simp
set_option maxHeartbeats 1000000 in
theorem t72{H:AHeap}{u:V4}{xs:List RV}{L:Ly}{cv:Value}(h:LyR H u xs L)(hL:LyLim L){kd n:Int}(hc:CL H cv [(kd,n)]):
 ∃w H',ARun Tryz.prog 0 72 [.agg u.l.toArray,.agg (inl xn cv).toArray] H w H'∧w=.bool (okC L kd n)∧H'=H:=by
 refine gcb ?_
 refine walk2 f72_ok f72_n ?_
 intro Q hq1 hq2
 have lr:=hL.r
 have lpp:=hL.p
 have os:=Sl.one h.s
 have op:=Sl.one h.p
 have og:=Sl.one h.g
 have or:=Sl.one h.r
 have is:=Sl.is h.s
 have ir:=Sl.is h.r
 have ip:=Sl.is h.p
 have lenr:=h.r.len
 have lenp:=h.p.len
 have lens:=h.s.len
 rw[h.rlen]at lenr
 have isc:=Sl.is hc
 have oc:=Sl.one hc
 have lenc:lenS cv=1:=hc.len
 have hul:u.l=[u.s,u.p,u.g,u.r]:=rfl
 have hinl:inl xn cv=[S64 wn,S32 wn,S32 wn,cv]:=rfl
 obtain⟨K0,hK0⟩:∃X,X=(H.alloc (.cells true false 4 [u.s,u.p,u.g,u.r] 27)).alloc (.cells true false 4 (inl xn cv) 42):=⟨_,rfl⟩
 have k0:Keeps H K0:=by rw[hK0];exact((Keeps.refl H).alloc _).alloc _
 have gl0:K0.get H.n=some (.cells true false 4 [u.s,u.p,u.g,u.r] 27):=by rw[hK0];exact((Keeps.refl _).alloc _).at_ (AHeap.get_alloc_new H _)
 have gi0:K0.get (H.n+1)=some (.cells true false 4 (inl xn cv) 42):=by rw[hK0];exact AHeap.get_alloc_new (H.alloc _) _
 have l0:=AHeap.get_lt gl0
 have l1:=AHeap.get_lt gi0
 rw[hinl]at hK0 gi0
 rw[hul,hinl]
 have i8:(((1:Nat):Int))=1:=rfl
 simp(disch:=first|assumption|omega|(simp only[LN]<;>omega)|(simp(disch:=first|assumption|omega|(simp only[LN]<;>omega))only[row_alloc,row_set];assumption))only[f72,W_block,P3,seval,initFr,clsA,os,op,og,or,oc,o_s64,o_s32,one_s64,one_s32,is,lens]
 simp only[←hK0]
 refine callQ (t59 _) ?_
 have hmp:min ((L.p.length:Nat):Int) 32=((L.p.length:Nat):Int):=by omega
 have hmr:min ((L.r.length:Nat):Int) 64=((L.r.length:Nat):Int):=by omega
 simp(disch:=first|assumption|omega)only[W_block,P3,seval,initFr,clsA,gl0,gi0,s_andn,s_ne0,none_wn,isc,lenc,ip,lenp,l0,l1,a_mmn,hmp]
 refine⟨by simp,callK (t59 _) ?_⟩
 rintro _ X ⟨rfl,hX⟩
 rw[hX]
 simp(disch:=first|assumption|omega)only[P3,seval,initFr,clsA,gl0,gi0,s_down,p_andn,p_ne0,nonp_wn]
 obtain⟨A1,hA1⟩:∃v:Value,v=.agg #[u.s,u.p,u.g,u.r]:=⟨_,rfl⟩
 obtain⟨A2,hA2⟩:∃v:Value,v=.agg #[S64 wn,S32 wn,S32 wn,cv]:=⟨_,rfl⟩
 rw[W_block,←hA1,←hA2]
 refine W_loop2 (fun q fr X=>∃i x7 x8 x11 x12 x13,fr=[A1,A2,ptr H.n 0,ptr (H.n+1) 0,.bool false,S32 (lowP (L.p.length:Nat)),.int .i64 ((i:Nat):Int),x7,x8,.bool false,.bool false,x11,x12,x13]∧Keeps K0 X∧i≤1∧(i=1→okC L kd n=true)∧q=1-i) 1
  ⟨0,_,_,_,_,_,rfl,Keeps.refl _,by omega,fun e=>(by cases e),rfl⟩ ?_
 rintro Q' q fr X ⟨i,x7,x8,x11,x12,x13,rfl,kX,hi,hok,rfl⟩ hn' hx' hret
 have glX:=kX.at_ gl0
 have giX:=kX.at_ gi0
 have lX:=AHeap.get_lt glX
 by_cases hlt:i<1
 ·have hi0:i=0:=by omega
  subst hi0
  obtain⟨nc,rc⟩:=((hc.keeps k0).keeps kX).at_ (i:=0) (by simp)
  have rc':rowA X 2 cv 0=some [.int .u8 kd,.int .i64 n]:=rc
  have kA:=kX.alloc (.cells true false 2 [.int .u8 kd,.int .i64 n] 39)
  have hw:IntKind.i64.wrap ((0:Int)+1)=((1:Nat):Int):=by rw[wrap_i64 (by omega) (by omega)];rfl
  have hno:okC L kd n=false→∀{K:AHeap} {fr:List Value},Keeps H K→resO f72.res fr K=some (.bool false)→Q .ret fr K:=fun e K fr k hr=>hq2 _ _ ⟨_,hr,by rw[e],k⟩
  have c1:(((0:Nat):Int))<((lenS cv:Nat):Int):=by rw[lenc];omega
  have t0:Int.toNat (((0:Nat):Int))=0:=rfl
  have t1:(0:Int)<((1:Nat):Int):=by omega
  have t2:((0:Nat):Int)=0:=rfl
  by_cases g1:kd<1
  ·have hk3:(kd==3)=false:=by simp;omega
   simp(disch:=first|assumption|omega|(simp only[LN]<;>omega)|(simp(disch:=first|assumption|omega|(simp only[LN]<;>omega))only[row_alloc,row_set];assumption))only[W_block,P3,seval,initFr,clsA,glX,giX,isc,lenc,nc,rc',a_loadnvf,ir,lenr,a_mmn,hmr,hk3,g1,lX,c1,t0,t1,t2,i8]
   refine hret _ _ ?_
   exact hno (by unfold okC;simp;omega) (k0.trans kA) rfl
  by_cases g2:3<kd
  ·have hk3:(kd==3)=false:=by simp;omega
   simp(disch:=first|assumption|omega|(simp only[LN]<;>omega)|(simp(disch:=first|assumption|omega|(simp only[LN]<;>omega))only[row_alloc,row_set];assumption))only[W_block,P3,seval,initFr,clsA,glX,giX,isc,lenc,nc,rc',a_loadnvf,ir,lenr,a_mmn,hmr,hk3,g1,g2,lX,c1,t0,t1,t2,i8]
   refine hret _ _ ?_
   exact hno (by unfold okC;simp;omega) (k0.trans kA) rfl
  by_cases g3:n<0
  ·by_cases g5:kd=3
   ·have hk3:(kd==3)=true:=by simp[g5]
    simp(disch:=first|assumption|omega|(simp only[LN]<;>omega)|(simp(disch:=first|assumption|omega|(simp only[LN]<;>omega))only[row_alloc,row_set];assumption))only[W_block,P3,seval,initFr,clsA,glX,giX,isc,lenc,nc,rc',a_loadnvf,ir,lenr,ip,lenp,a_mmn,hmr,hmp,hk3,g1,g2,g3,lX,c1,t0,t1,t2,i8]
    refine hret _ _ ?_
    exact hno (by unfold okC;simp;omega) (k0.trans kA) rfl
   ·have hk3:(kd==3)=false:=by simp[g5]
    simp(disch:=first|assumption|omega|(simp only[LN]<;>omega)|(simp(disch:=first|assumption|omega|(simp only[LN]<;>omega))only[row_alloc,row_set];assumption))only[W_block,P3,seval,initFr,clsA,glX,giX,isc,lenc,nc,rc',a_loadnvf,ir,lenr,ip,lenp,a_mmn,hmr,hmp,hk3,g1,g2,g3,lX,c1,t0,t1,t2,i8]
    refine hret _ _ ?_
    exact hno (by unfold okC;simp;omega) (k0.trans kA) rfl
  by_cases g5:kd=3
  ·have hk3:(kd==3)=true:=by simp[g5]
   by_cases g4:((L.p.length:Nat):Int)≤n
   ·simp(disch:=first|assumption|omega|(simp only[LN]<;>omega)|(simp(disch:=first|assumption|omega|(simp only[LN]<;>omega))only[row_alloc,row_set];assumption))only[W_block,P3,seval,initFr,clsA,glX,giX,isc,lenc,nc,rc',a_loadnvf,ir,lenr,ip,lenp,a_mmn,hmr,hmp,hk3,g1,g2,g3,g4,lX,c1,t0,t1,t2,i8]
    refine hret _ _ ?_
    exact hno (by unfold okC;simp[g5];omega) (k0.trans kA) rfl
   ·simp(disch:=first|assumption|omega|(simp only[LN]<;>omega)|(simp(disch:=first|assumption|omega|(simp only[LN]<;>omega))only[row_alloc,row_set];assumption))only[W_block,P3,seval,initFr,clsA,glX,giX,isc,lenc,nc,rc',a_loadnvf,ir,lenr,ip,lenp,a_mmn,hmr,hmp,hk3,g1,g2,g3,g4,lX,c1,t0,t1,t2,i8,hw]
    exact hn' _ _ _ ⟨1,_,_,_,_,_,rfl,kA,by omega,fun _=>by unfold okC;simp[g5];omega,rfl⟩ (by omega)
  ·have hk3:(kd==3)=false:=by simp[g5]
   by_cases g4:((L.r.length:Nat):Int)≤n
   ·simp(disch:=first|assumption|omega|(simp only[LN]<;>omega)|(simp(disch:=first|assumption|omega|(simp only[LN]<;>omega))only[row_alloc,row_set];assumption))only[W_block,P3,seval,initFr,clsA,glX,giX,isc,lenc,nc,rc',a_loadnvf,ir,lenr,ip,lenp,a_mmn,hmr,hmp,hk3,g1,g2,g3,g4,lX,c1,t0,t1,t2,i8]
    refine hret _ _ ?_
    exact hno (by unfold okC;simp[g5];omega) (k0.trans kA) rfl
   ·simp(disch:=first|assumption|omega|(simp only[LN]<;>omega)|(simp(disch:=first|assumption|omega|(simp only[LN]<;>omega))only[row_alloc,row_set];assumption))only[W_block,P3,seval,initFr,clsA,glX,giX,isc,lenc,nc,rc',a_loadnvf,ir,lenr,ip,lenp,a_mmn,hmr,hmp,hk3,g1,g2,g3,g4,lX,c1,t0,t1,t2,i8,hw]
    exact hn' _ _ _ ⟨1,_,_,_,_,_,rfl,kA,by omega,fun _=>by unfold okC;simp[g5];omega,rfl⟩ (by omega)
 ·have hi1:i=1:=by omega
  subst hi1
  simp(disch:=first|assumption|omega)only[W_block,P3,seval,initFr,clsA,giX,isc,lenc,i8]
  refine hx' _ _ _ ?_
  simp(disch:=first|assumption|omega)only[W_block,P3,seval,initFr,clsA]
  exact hq2 _ _ ⟨.bool true,rfl,by rw[hok rfl],k0.trans kX⟩
end Go.AM.Fd

set_option maxRecDepth 8000
namespace Go.AM.Fd
open Nat (reduceAdd reduceEqDiff reduceLT reduceLeDiff reduceMul reduceSub)
open Go.Proofs Go.AM.F
def poD(l:List (Int×Bool))(f:Nat→Bool):Nat→Bool:=l.foldl (fun f z p=>if p=z.1.toNat then z.2 else f p) f
theorem poD_s(l:List (Int×Bool))(z:Int×Bool)(f:Nat→Bool):poD (l++[z]) f=fun p=>if p=z.1.toNat then z.2 else poD l f p:=by
 unfold poD;rw[List.foldl_append];rfl
def comD(L:Ly)(x:Inp)(s:Sta)(kd n:Int):Sta:=
 if okC L kd n then
  if kd=1∧setD L x s n.toNat=true then{s with lo:=fun j=>s.lo j||decide (j=n.toNat),po:=poD (nds (ro L n.toNat)) s.po}
  else if kd=2∧((s.lo n.toNat&& !s.us n.toNat)&& !s.ca n.toNat)=true then
   {s with ca:=fun j=>s.ca j||decide (j=n.toNat),ti:=upd s.ti n.toNat (if hasB x.oc (L.g.getD (ro L n.toNat).g.toNat ([],0)).2 then 20 else 0)}
  else if kd=3∧(!hasB x.oc (L.p.getD n.toNat ([],0)).2 && !needD L s n)=true then{s with po:=fun j=>s.po j ^^ decide (j=n.toNat)}
  else s
 else s
def roD(L:Ly)(x:Inp)(us:Nat→Bool)(s:Sta)(i:Nat):Sta:=
 if us i then(if frD x (ro L i)then relS s i else s)
 else if hasB x.oc ((ro L i).path.getD 0 0)then{s with us:=fun j=>s.us j||decide (j=i)}
 else if s.ca i&&decide (0<s.ti i)then{s with ti:=upd s.ti i (s.ti i-1)}
 else if s.ca i&&frD x (ro L i)then relS s i
 else s
set_option maxHeartbeats 4000000 in
theorem t44{H:AHeap}{u:V4}{xs:List RV}{L:Ly}{x:Inp}{cv:Value}(h:LyR H u xs L)(he:checkE L=0)(s:Sta)(us:Nat→Bool)(hc:isS cv=true)(ht:∀i,s.ti i<256){i:Nat}(hlt:i<L.r.length):
 ∃w H',ARun Tryz.prog 0 44 [.agg u.l.toArray,.agg (stl s).toArray,.agg (inl x cv).toArray,.int .i64 (i:Nat),S64 us] H w H'∧w=.agg (stl (roD L x us s i)).toArray∧H'=H:=by
 refine gcst ?_
 refine walk2 f44_ok f44_n ?_
 intro Q hq1 hq2
 have hmay:=check_may he
 have hL:=may_lim hmay
 have lr:=hL.r
 have os:=Sl.one h.s
 have op:=Sl.one h.p
 have og:=Sl.one h.g
 have or:=Sl.one h.r
 have ir:=Sl.is h.r
 have lenr:=h.r.len
 rw[h.rlen]at lenr
 have o1:=one_isS hc
 have hul:u.l=[u.s,u.p,u.g,u.r]:=rfl
 have hinl:inl x cv=[S64 x.oc,S32 x.nr,S32 x.rv,cv]:=rfl
 have iN:i<64:=by omega
 have e0:(0:Int)≤(i:Int):=by omega
 have e1:(i:Int)<((L.r.length:Nat):Int):=by omega
 have e64:(i:Int)<64:=by omega
 obtain⟨hyr,hyo⟩:=rv_ro h hlt
 have hgood:=check_good he (List.getElem_mem hlt)
 rw[←ro_eq hlt,←hyr]at hgood
 obtain⟨K0,hK0⟩:∃X,X=((((H.alloc (.cells true false 4 [u.s,u.p,u.g,u.r] 27)).alloc (.cells true false 68 (stl s) 37)).alloc (.cells true false 4 (inl x cv) 42)).alloc (.cells true false 68 (stl Sta0) 37)).alloc (.cells true false 6 (xs.getD i rv0).row 49):=⟨_,rfl⟩
 have k0:Keeps H K0:=by rw[hK0];exact(((((Keeps.refl H).alloc _).alloc _).alloc _).alloc _).alloc _
 have n0:K0.n=H.n+5:=by rw[hK0];rfl
 have gs0:K0.get (H.n+1)=some (.cells true false 68 (stl s) 37):=by rw[hK0];exact((((Keeps.refl _).alloc _).alloc _).alloc _).at_ (AHeap.get_alloc_new (H.alloc _) _)
 have gi0:K0.get (H.n+2)=some (.cells true false 4 (inl x cv) 42):=by rw[hK0];exact(((Keeps.refl _).alloc _).alloc _).at_ (AHeap.get_alloc_new ((H.alloc _).alloc _) _)
 have gw0:K0.get (H.n+3)=some (.cells true false 68 (stl Sta0) 37):=by rw[hK0];exact((Keeps.refl _).alloc _).at_ (AHeap.get_alloc_new (((H.alloc _).alloc _).alloc _) _)
 have gy0:K0.get (H.n+4)=some (.cells true false 6 (xs.getD i rv0).row 49):=by rw[hK0];exact AHeap.get_alloc_new ((((H.alloc _).alloc _).alloc _).alloc _) _
 have rr:∀K,Keeps H K→nnS u.r=true∧rowA K 6 u.r i=some (xs.getD i rv0).row:=fun K k=>(h.r.keeps k).at_ (i:=i) (by rw[h.rlen];exact hlt)
 have hro:roD L x us s i=(if us i then(if frD x (ro L i)then relS s i else s)
  else if hasB x.oc ((ro L i).path.getD 0 0)then{s with us:=fun j=>s.us j||decide (j=i)}
  else if s.ca i&&decide (0<s.ti i)then{s with ti:=upd s.ti i (s.ti i-1)}
  else if s.ca i&&frD x (ro L i)then relS s i
  else s):=rfl
 rw[←hyr]at hro
 generalize xs.getD i rv0=y at*
 have rowy:y.row=[.string ⟨y.r.n.toArray⟩,.int .i64 y.r.g,y.vp,y.vq,y.vo,y.vf]:=rfl
 have lP:=hgood.lim.p
 have lO:=hgood.lim.o
 obtain⟨a3,a4,a5,a6⟩:=RV.ones hyo
 have a1:one1 (Value.int .i64 y.r.g)=True:=by simp[one1,one_int]
 have a2:one1 (Value.string ⟨y.r.n.toArray⟩)=True:=by simp[one1,one_str]
 have tF:=t77 (x:=x) (cv:=cv) (hyo.keeps k0) (by omega) hc
 have tCl:=fun K n=>t74 (H:=K) (x:=x) hc n
 have kA:=(((Keeps.refl H).alloc (.cells true false 4 [u.s,u.p,u.g,u.r] 27)).alloc (.cells true false 68 (stl s) 37) |>.alloc (.cells true false 4 (inl x cv) 42)).alloc (.cells true false 68 (stl Sta0) 37)
 obtain⟨na,raA⟩:=rr _ kA
 simp only[rowy,hinl]at tF tCl raA gy0 gi0 hK0
 have iy:=Sl.is hyo.p
 have lpt:=hyo.p.len
 obtain⟨nap,rap⟩:=(hyo.p.keeps k0).at_ (i:=0) hgood.ne
 have p0:(0:Int)<((y.r.path.length:Nat):Int):=by have:=hgood.ne;omega
 have q1:=row_lt rap
 have s1:=s_shl1 iN
 have hsl:=AHeap.get_lt gs0
 have hwl:=AHeap.get_lt gw0
 have hyl:=AHeap.get_lt gy0
 have hil:=AHeap.get_lt gi0
 have t0:Int.toNat 0=0:=rfl
 -- the ends
 have fin:∀{K:AHeap} {fr:List Value} (t:Sta),Keeps H K→K.get (H.n+3)=some (.cells true false 68 (stl t) 37)→fr.getD 8 undef=ptr (H.n+3) 0→roD L x us s i=t→Q .ret fr K:=by
  intro K fr t k g e er
  refine hq2 _ _ ⟨.agg (stl (roD L x us s i)).toArray,?_,rfl,k⟩
  show resO [.cn 68 8] _ _=_
  rw[resC,e,cellnp,rangeA_e,g,rng68,er];rfl
 have fin2:∀{fr:List Value} (t:Sta) (o:AO),fr.getD 8 undef=ptr (H.n+3) 0→roD L x us s i=t→Q .ret fr ((K0.set (H.n+1) o).set (H.n+3) (.cells true false 68 (stl t) 37)):=fun t o e er=>
  fin t ((k0.set (by omega) hsl _).set (by omega) (by rw[set_n];exact hwl) _) (AHeap.get_set_same ((AHeap.get_set_other K0 (by omega) hsl _).trans gw0) _) e er
 have hti:=ht i
 have st:=stl_t s iN
 have hll:3+i<68:=by omega
 rw[hul,hinl]
 simp(disch:=first|assumption|omega|(simp only[LN]<;>omega)|(simp(disch:=first|assumption|omega|(simp only[LN]<;>omega))only[row_alloc,row_set];assumption))only[f44,W_block,P3,seval,initFr,clsA,os,op,og,or,stl_one,stl_len,rng68,o1,o_s64,o_s32,one_s64,one_s32,Z68I_z',ir,lenr,na,raA,e0,e1,a_loadnvf,a1,a2,a3,a4,a5,a6]
 simp only[←hK0]
 refine callK (t43 _ _) ?_
 rintro _ X ⟨rfl,hX⟩
 rw[hX,has_nat _ iN]
 cases hus:us i with
 |true=>
  rw[hus]at hro
  simp(disch:=first|assumption|omega|(simp only[LN]<;>omega)|(simp(disch:=first|assumption|omega|(simp only[LN]<;>omega))only[row_alloc,row_set];assumption))only[W_block,P3,seval,initFr,clsA,gy0,gi0]
  refine callK tF ?_
  rintro _ X ⟨rfl,hX⟩
  rw[hX]
  cases hf:frD x y.r with
  |true=>
   rw[hf]at hro
   simp(disch:=first|assumption|omega)only[W_block,P3,seval,initFr,clsA,gs0,rng68]
   refine callQ (t78 s iN) ?_
   simp(disch:=first|assumption|omega)only[W_block,P3,seval,initFr,clsA,gw0,stn68s]
   exact fin (relS s i) (k0.set (by omega) hwl _) (AHeap.get_set_same gw0 _) rfl (by rw[hro];rfl)
  |false=>
   rw[hf]at hro
   simp(disch:=first|assumption|omega)only[W_block,P3,seval,initFr,clsA,gs0,gw0,rng68,stn68s]
   exact fin s (k0.set (by omega) hwl _) (AHeap.get_set_same gw0 _) rfl (by rw[hro];rfl)
 |false=>
 rw[hus]at hro
 simp(disch:=first|assumption|omega|(simp only[LN]<;>omega)|(simp(disch:=first|assumption|omega|(simp only[LN]<;>omega))only[row_alloc,row_set];assumption))only[W_block,P3,seval,initFr,clsA,gy0,gi0,iy,lpt,nap,rap,p0,t0,a_load1v,hil,hyl,q1]
 refine callQ (tCl _ _) ?_
 cases hb:hasB x.oc (y.r.path.getD 0 0)with
 |true=>
  rw[hb]at hro
  simp(disch:=first|assumption|omega)only[W_block,P3,seval,initFr,clsA,gs0,gw0,stl_0,stl_1,set_1,s1,s_or,one_s64,o_s64,stl_len,rng68,stn68s]
  exact fin2 _ _ rfl (by rw[hro];rfl)
 |false=>
 rw[hb]at hro
 simp(disch:=first|assumption|omega)only[W_block,P3,seval,initFr,clsA,gs0,stl_2]
 refine callK (t43 _ _) ?_
 rintro _ X ⟨rfl,hX⟩
 rw[hX,has_nat _ iN]
 cases hca:s.ca i with
 |false=>
  rw[hca]at hro
  simp(disch:=first|assumption|omega)only[W_block,P3,seval,initFr,clsA,gs0,stl_2]
  refine callK (t43 _ _) ?_
  rintro _ X ⟨rfl,hX⟩
  rw[hX,has_nat _ iN,hca]
  simp(disch:=first|assumption|omega)only[W_block,P3,seval,initFr,clsA,gs0,gw0,rng68,stn68s]
  exact fin s (k0.set (by omega) hwl _) (AHeap.get_set_same gw0 _) rfl (by rw[hro];rfl)
 |true=>
 rw[hca]at hro
 by_cases hp:0<s.ti i
 ·have hp':(0:Int)<((s.ti i:Nat):Int):=by omega
  have hsub:IntKind.u8.wrap (((s.ti i:Nat):Int)-1)=((s.ti i-1:Nat):Int):=by rw[wrap_u8];omega
  have sett:=set_t s iN (s.ti i-1)
  simp(disch:=first|assumption|omega)only[W_block,P3,seval,initFr,clsA,gs0,gw0,e0,e64,a_iaddrp,st,hp',hsub,sett,stl_len,hll,rng68,stn68s,Int.toNat_natCast,Nat.mul_one]
  exact fin2 _ _ rfl (by rw[hro];simp[hp])
 ·have hp':¬(0:Int)<((s.ti i:Nat):Int):=by omega
  simp(disch:=first|assumption|omega)only[W_block,P3,seval,initFr,clsA,gs0,gw0,e0,e64,a_iaddrp,st,hp',stl_2,Int.toNat_natCast,Nat.mul_one]
  refine callK (t43 _ _) ?_
  rintro _ X ⟨rfl,hX⟩
  rw[hX,has_nat _ iN,hca]
  simp(disch:=first|assumption|omega|(simp only[LN]<;>omega)|(simp(disch:=first|assumption|omega|(simp only[LN]<;>omega))only[row_alloc,row_set];assumption))only[W_block,P3,seval,initFr,clsA,gy0,gi0]
  refine callK tF ?_
  rintro _ X ⟨rfl,hX⟩
  rw[hX]
  cases hf:frD x y.r with
  |true=>
   rw[hf]at hro
   simp(disch:=first|assumption|omega)only[W_block,P3,seval,initFr,clsA,gs0,rng68]
   refine callQ (t78 s iN) ?_
   simp(disch:=first|assumption|omega)only[W_block,P3,seval,initFr,clsA,gw0,stn68s]
   exact fin (relS s i) (k0.set (by omega) hwl _) (AHeap.get_set_same gw0 _) rfl (by rw[hro];simp[hp])
  |false=>
   rw[hf]at hro
   simp(disch:=first|assumption|omega)only[W_block,P3,seval,initFr,clsA,gs0,gw0,rng68,stn68s]
   exact fin s (k0.set (by omega) hwl _) (AHeap.get_set_same gw0 _) rfl (by rw[hro];simp[hp])
end Go.AM.Fd

set_option maxRecDepth 8000
namespace Go.AM.Fd
open Nat (reduceAdd reduceEqDiff reduceLT reduceLeDiff reduceMul reduceSub)
open Go.Proofs Go.AM.F
theorem x_n(cv:Value):inl xn cv=[.int .u64 0,.int .u32 0,.int .u32 0,cv]:=i2v cv
theorem FX(a b c:Int)(d:Value)(x y z w:Nat):fillA [.int .u64 a,.int .u32 b,.int .u32 c,d] [(3,1,slc x y z w)]=some [.int .u64 a,.int .u32 b,.int .u32 c,slc x y z w]:=rfl
theorem FY(a b c d:Value):fillA [c,d] [(0,2,.agg #[a,b])]=some [a,b]:=rfl
set_option maxHeartbeats 8000000 in
theorem t42{H:AHeap}{u:V4}{xs:List RV}{L:Ly}{x:Inp}{cv:Value}(h:LyR H u xs L)(he:checkE L=0)(s:Sta)(hc:isS cv=true)(kd n:Int):
 ∃w H',ARun Tryz.prog 0 42 [.agg u.l.toArray,.agg (stl s).toArray,.agg (inl x cv).toArray,.agg #[.int .u8 kd,.int .i64 n]] H w H'∧w=.agg (stl (comD L x s kd n)).toArray∧H'=H:=by
 refine gcst ?_
 refine walk2 f42_ok f42_n ?_
 intro Q hq1 hq2
 have hmay:=check_may he
 have hL:=may_lim hmay
 have lr:=hL.r
 have lpp:=hL.p
 have os:=Sl.one h.s
 have op:=Sl.one h.p
 have og:=Sl.one h.g
 have or:=Sl.one h.r
 have ir:=Sl.is h.r
 have ip:=Sl.is h.p
 have ig:=Sl.is h.g
 have lenr:=h.r.len
 have lenp:=h.p.len
 have leng:=h.g.len
 rw[h.rlen]at lenr
 have o1:=one_isS hc
 have hul:u.l=[u.s,u.p,u.g,u.r]:=rfl
 have hinl:inl x cv=[S64 x.oc,S32 x.nr,S32 x.rv,cv]:=rfl
 obtain⟨K0,hK0⟩:∃X,X=(((((H.alloc (.cells true false 4 [u.s,u.p,u.g,u.r] 27)).alloc (.cells true false 68 (stl s) 37)).alloc (.cells true false 4 (inl x cv) 42)).alloc (.cells true false 2 [.int .u8 kd,.int .i64 n] 39)).alloc (.cells true false 68 (stl Sta0) 37)).alloc (.cells true false 2 [.int .u8 kd,.int .i64 n] 39):=⟨_,rfl⟩
 have k0:Keeps H K0:=by rw[hK0];exact((((((Keeps.refl H).alloc _).alloc _).alloc _).alloc _).alloc _).alloc _
 have n0:K0.n=H.n+6:=by rw[hK0];rfl
 have gl0:K0.get H.n=some (.cells true false 4 [u.s,u.p,u.g,u.r] 27):=by rw[hK0];exact((((((Keeps.refl _).alloc _).alloc _).alloc _).alloc _).alloc _).at_ (AHeap.get_alloc_new H _)
 have gs0:K0.get (H.n+1)=some (.cells true false 68 (stl s) 37):=by rw[hK0];exact(((((Keeps.refl _).alloc _).alloc _).alloc _).alloc _).at_ (AHeap.get_alloc_new (H.alloc _) _)
 have gi0:K0.get (H.n+2)=some (.cells true false 4 (inl x cv) 42):=by rw[hK0];exact((((Keeps.refl _).alloc _).alloc _).alloc _).at_ (AHeap.get_alloc_new ((H.alloc _).alloc _) _)
 have gc0:K0.get (H.n+3)=some (.cells true false 2 [.int .u8 kd,.int .i64 n] 39):=by rw[hK0];exact(((Keeps.refl _).alloc _).alloc _).at_ (AHeap.get_alloc_new (((H.alloc _).alloc _).alloc _) _)
 have gw0:K0.get (H.n+4)=some (.cells true false 68 (stl Sta0) 37):=by rw[hK0];exact((Keeps.refl _).alloc _).at_ (AHeap.get_alloc_new ((((H.alloc _).alloc _).alloc _).alloc _) _)
 have cl0:CL K0 (slc (H.n+5) 0 1 1) [(kd,n)]:=by rw[hK0];exact newSl (rows:=[[.int .u8 kd,.int .i64 n]]) (by simp) rfl rfl
 have l0:=AHeap.get_lt gl0
 have l1:=AHeap.get_lt gs0
 have l2:=AHeap.get_lt gi0
 have l3:=AHeap.get_lt gc0
 have l4:=AHeap.get_lt gw0
 have t9:=t72 (h.keeps k0) hL cl0
 rw[x_n]at t9
 have fin:∀{K:AHeap} {fr:List Value} (t:Sta),Keeps H K→K.get (H.n+4)=some (.cells true false 68 (stl t) 37)→fr.getD 8 undef=ptr (H.n+4) 0→comD L x s kd n=t→Q .ret fr K:=by
  intro K fr t k g e er
  refine hq2 _ _ ⟨.agg (stl (comD L x s kd n)).toArray,?_,rfl,k⟩
  show resO [.cn 68 8] _ _=_
  rw[resC,e,cellnp,rangeA_e,g,rng68,er];rfl
 have fin2:∀{fr:List Value} (t:Sta) (o:AO),fr.getD 8 undef=ptr (H.n+4) 0→comD L x s kd n=t→Q .ret fr ((K0.set (H.n+1) o).set (H.n+4) (.cells true false 68 (stl t) 37)):=fun t o e er=>
  fin t ((k0.set (by omega) l1 _).set (by omega) (by rw[set_n];exact l4) _) (AHeap.get_set_same ((AHeap.get_set_other K0 (by omega) l1 _).trans gw0) _) e er
 have fin1:∀{fr:List Value},fr.getD 8 undef=ptr (H.n+4) 0→comD L x s kd n=s→Q .ret fr (K0.set (H.n+4) (.cells true false 68 (stl s) 37)):=fun e er=>
  fin s (k0.set (by omega) l4 _) (AHeap.get_set_same gw0 _) e er
 have tCl:=fun K n=>t74 (H:=K) (x:=x) hc n
 rw[hinl]at hK0 gi0
 rw[hul,hinl]
 rw[hul]at t9
 simp only[hinl]at tCl
 simp(disch:=first|assumption|omega|(simp only[LN]<;>omega)|(simp(disch:=first|assumption|omega|(simp only[LN]<;>omega))only[row_alloc,row_set];assumption))only[f42,W_block,P3,seval,initFr,clsA,os,op,og,or,stl_one,stl_len,rng68,o1,o_s64,o_s32,one_s64,one_s32,Z68I_z',FX,FY]
 simp only[←hK0]
 refine callK t9 ?_
 rintro _ X ⟨rfl,hX⟩
 rw[hX]
 cases hok:okC L kd n with
 |false=>
  simp(disch:=first|assumption|omega)only[W_block,P3,seval,initFr,clsA,gs0,gw0,rng68,stn68s]
  exact fin1 rfl (by unfold comD;rw[hok];rfl)
 |true=>
 have hcom:comD L x s kd n=(if kd=1∧setD L x s n.toNat=true then{s with lo:=fun j=>s.lo j||decide (j=n.toNat),po:=poD (nds (ro L n.toNat)) s.po}
  else if kd=2∧((s.lo n.toNat&& !s.us n.toNat)&& !s.ca n.toNat)=true then
   {s with ca:=fun j=>s.ca j||decide (j=n.toNat),ti:=upd s.ti n.toNat (if hasB x.oc (L.g.getD (ro L n.toNat).g.toNat ([],0)).2 then 20 else 0)}
  else if kd=3∧(!hasB x.oc (L.p.getD n.toNat ([],0)).2 && !needD L s n)=true then{s with po:=fun j=>s.po j ^^ decide (j=n.toNat)}
  else s):=by unfold comD;rw[hok];rfl
 have hok':=hok
 simp only[okC,Bool.and_eq_true,decide_eq_true_eq]at hok'
 obtain⟨⟨ka,kb⟩,na0,nb0⟩:=hok'
 obtain⟨i,rfl⟩:∃i:Nat,n=(i:Int):=⟨n.toNat,by omega⟩
 have hit:Int.toNat (i:Int)=i:=by omega
 rw[hit]at hcom
 have hk:kd=1∨kd=2∨kd=3:=by omega
 rcases hk with rfl|rfl|rfl
 ·have hlt:i<L.r.length:=by rw[if_neg (by omega)]at nb0;omega
  have iN:i<64:=by omega
  have e0:(0:Int)≤(i:Int):=by omega
  have e1:(i:Int)<((L.r.length:Nat):Int):=by omega
  have s1:=s_shl1 iN
  have tS:=t73 (x:=x) (h.keeps k0) he s hc hlt
  rw[hul,hinl]at tS
  simp(disch:=first|assumption|omega|(simp only[LN]<;>omega)|(simp(disch:=first|assumption|omega|(simp only[LN]<;>omega))only[row_alloc,row_set];assumption))only[W_block,P3,seval,initFr,clsA,gl0,gs0,gi0,gc0,rng68]
  refine callK tS ?_
  rintro _ X ⟨rfl,hX⟩
  rw[hX]
  cases hsd:setD L x s i with
  |false=>
   rw[hsd]at hcom
   simp(disch:=first|assumption|omega)only[W_block,P3,seval,initFr,clsA,gl0,gs0,gi0,gc0,gw0,rng68,stn68s,stl_0]
   exact fin1 rfl (by rw[hcom];simp)
  |true=>
  rw[hsd]at hcom
  obtain⟨hyr,hyo⟩:=rv_ro h hlt
  have hgood:=check_good he (List.getElem_mem hlt)
  rw[←ro_eq hlt,←hyr]at hgood
  obtain⟨K1,hK1⟩:∃X,X=K0.set (H.n+1) (.cells true false 68 (stl {s with lo:=fun j=>s.lo j||decide (j=i)}) 37):=⟨_,rfl⟩
  have k1:Keeps H K1:=by rw[hK1];exact k0.set (by omega) l1 _
  have gs1:K1.get (H.n+1)=some (.cells true false 68 (stl {s with lo:=fun j=>s.lo j||decide (j=i)}) 37):=by rw[hK1];exact AHeap.get_set_same gs0 _
  have gw1:K1.get (H.n+4)=some (.cells true false 68 (stl Sta0) 37):=by rw[hK1,AHeap.get_set_other K0 (by omega) l1];exact gw0
  have gl1:K1.get H.n=some (.cells true false 4 [u.s,u.p,u.g,u.r] 27):=by rw[hK1,AHeap.get_set_other K0 (by omega) l1];exact gl0
  have n1:K1.n=H.n+6:=by rw[hK1,set_n,n0]
  obtain⟨na,ra⟩:=(h.r.keeps k1).at_ (i:=i) (by rw[h.rlen];exact hlt)
  have hcy:comD L x s 1 (i:Int)={s with lo:=fun j=>s.lo j||decide (j=i),po:=poD (nds (xs.getD i rv0).r) s.po}:=by rw[hcom,hyr];simp
  generalize xs.getD i rv0=y at*
  have rowy:y.row=[.string ⟨y.r.n.toArray⟩,.int .i64 y.r.g,y.vp,y.vq,y.vo,y.vf]:=rfl
  have lQ:=hgood.lim.q
  have lF:=hgood.lim.f
  have tN:=t61 (hyo.keeps k1) (by omega)
  simp only[rowy]at tN ra
  simp(disch:=first|assumption|omega)only[W_block,P3,seval,initFr,clsA,gs0,gc0,gl0,stl_0,set_0,s1,s_or,one_s64,o_s64,stl_len]
  simp only[←hK1]
  simp(disch:=first|assumption|omega)only[W_block,P3,seval,initFr,clsA,na,ra,a_loadnvf]
  refine callK tN ?_
  rintro nv K2 ⟨hnv,k2,fnv⟩
  have isn:=Sl.is hnv
  have lenn:=hnv.len
  have ndl:(nds y.r).length≤32:=by simp[nds];omega
  have hnd:=hgood.nd
  have gs2:=k2.at_ gs1
  have gw2:=k2.at_ gw1
  have hs2:=AHeap.get_lt gs2
  generalize nds y.r=l at*
  simp(disch:=first|assumption|omega)only[P3,seval,initFr,clsA]
  obtain⟨A1,hA1⟩:∃v:Value,v=.agg #[u.s,u.p,u.g,u.r]:=⟨_,rfl⟩
  obtain⟨A2,hA2⟩:∃v:Value,v=.agg (stl s).toArray:=⟨_,rfl⟩
  obtain⟨A4,hA4⟩:∃v:Value,v=.agg #[S64 x.oc,S32 x.nr,S32 x.rv,cv]:=⟨_,rfl⟩
  obtain⟨A5,hA5⟩:∃v:Value,v=.agg #[.int .u8 1,.int .i64 (i:Int)]:=⟨_,rfl⟩
  rw[W_block,←hA1,←hA2,←hA4,←hA5]
  refine W_loop2 (fun q fr X=>∃j x13 x14,fr=[A1,A2,A4,A5,ptr H.n 0,ptr (H.n+1) 0,ptr (H.n+2) 0,ptr (H.n+3) 0,ptr (H.n+4) 0,nv,.int .i64 ((j:Nat):Int),.bool false,.bool true,x13,x14,undef,undef,undef]∧
   Chg [H.n+1] K2 X∧X.get (H.n+1)=some (.cells true false 68 (stl {s with lo:=fun j=>s.lo j||decide (j=i),po:=poD (l.take j) s.po}) 37)∧j≤l.length∧q=l.length-j) l.length
   ⟨0,_,_,rfl,Chg.refl _ _,gs2,by omega,rfl⟩ ?_
  rintro Q3 q fr X ⟨j,x13,x14,rfl,cX,gsX,hjl,rfl⟩ hn3 hx3 hret3
  have hsX:=AHeap.get_lt gsX
  have hnX:NL X nv l:=Sl.chg hnv cX (fun b hb=>by have:=fnv b hb;simp;omega)
  by_cases hjlt:j<l.length
  ·obtain⟨nj,rj⟩:=hnX.at_ hjlt
   have j0:(0:Int)≤(j:Int):=by omega
   have j1:(j:Int)<((l.length:Nat):Int):=by omega
   have hw3:IntKind.i64.wrap ((j:Int)+1)=((j+1:Nat):Int):=by rw[wrap_i64 (by omega) (by omega)];simp
   have hgd:l.getD j (0,false)=l[j]:=by rw[List.getD_eq_getElem?_getD,List.getElem?_eq_getElem hjlt];rfl
   have htk:l.take (j+1)=l.take j++[l[j]]:=by rw[List.take_add_one,List.getElem?_eq_getElem hjlt];rfl
   have hmem:=List.getElem_mem hjlt
   have hrng:=hnd _ hmem
   rw[hgd]at rj
   generalize l[j]=z at*
   obtain⟨zp,zb⟩:=z
   obtain⟨m,rfl⟩:∃m:Nat,zp=(m:Int):=⟨zp.toNat,by have:=hrng.1;simp only at this;omega⟩
   have hm32:m<32:=by have:=hrng.2;simp only at*;omega
   have hmt:(Int.toNat (m:Int))=m:=by omega
   have p1:=p_shl1 hm32
   have g3:∀o,(X.set (H.n+1) o).get (H.n+1)=some o:=fun o=>AHeap.get_set_same gsX o
   have rj2:∀o,rowA (X.set (H.n+1) o) 2 nv j=some [.int .i64 (m:Int),.bool zb]:=fun o=>by
    have:=(NL.at_ (H:=X.set (H.n+1) o) (v:=nv) (l:=l) (Sl.chg hnX (Chg.set X hsX o) (fun b hb=>by have:=fnv b hb;simp;omega)) hjlt).2
    rw[hgd]at this;exact this
   have qq:=row_lt rj
   have hbn:bn nv-1≠H.n+1:=by
    obtain⟨b,o,nn,kk,e,_⟩:=rowA_range rj
    subst e
    have:=fnv b rfl
    simp[bn,blk,slc];try omega
   cases zb with
   |false=>
    simp(disch:=first|assumption|omega|(simp only[LN]<;>omega)|(simp(disch:=first|assumption|omega|(simp only[LN]<;>omega))only[row_alloc,row_set];assumption))only[W_block,P3,seval,initFr,clsA,isn,lenn,j0,j1,nj,rj,rj2,a_load1v,gsX,stl_67,set_67,p1,p_andn,p_or,one_s32,o_s32,stl_len,g3,hw3,qq,hbn]
    refine hn3 _ _ _ ⟨j+1,_,_,rfl,cX.trans (Chg.set X hsX _) (by simp),?_,by omega,rfl⟩ (by omega)
    rw[AHeap.get_set_same gsX]
    congr 2
    refine stl_ext (fun _ _=>rfl) (fun _ _=>rfl) (fun _ _=>rfl) (fun _ _=>rfl) (fun q _=>?_)
    show _=poD (l.take (j+1)) s.po q
    rw[htk,poD_s]
    simp only[hmt]
    by_cases e:q=m<;>simp[e]
   |true=>
    simp(disch:=first|assumption|omega|(simp only[LN]<;>omega)|(simp(disch:=first|assumption|omega|(simp only[LN]<;>omega))only[row_alloc,row_set];assumption))only[W_block,P3,seval,initFr,clsA,isn,lenn,j0,j1,nj,rj,rj2,a_load1v,gsX,stl_67,set_67,p1,p_andn,p_or,one_s32,o_s32,stl_len,g3,hw3,qq,hbn]
    refine hn3 _ _ _ ⟨j+1,_,_,rfl,cX.trans (Chg.set X hsX _) (by simp),?_,by omega,rfl⟩ (by omega)
    rw[AHeap.get_set_same gsX]
    congr 2
    refine stl_ext (fun _ _=>rfl) (fun _ _=>rfl) (fun _ _=>rfl) (fun _ _=>rfl) (fun q _=>?_)
    show _=poD (l.take (j+1)) s.po q
    rw[htk,poD_s]
    simp only[hmt]
    by_cases e:q=m<;>simp[e]
  ·have j1:¬((j:Nat):Int)<((l.length:Nat):Int):=by omega
   have hje:j=l.length:=by omega
   subst hje
   rw[List.take_length]at gsX
   have gwX:=cX.at_ gw2 (by simp)
   have hwX:=AHeap.get_lt gwX
   simp(disch:=first|assumption|omega)only[W_block,P3,seval,initFr,clsA,isn,lenn,j1]
   refine hx3 _ _ _ ?_
   simp(disch:=first|assumption|omega)only[W_block,P3,seval,initFr,clsA,gsX,gwX,rng68,stn68s]
   exact fin _ (((k1.trans k2).chg_trans cX (by simp)).set (by omega) hwX _) (AHeap.get_set_same gwX _) rfl hcy
 ·have hlt:i<L.r.length:=by rw[if_neg (by omega)]at nb0;omega
  have iN:i<64:=by omega
  have e0:(0:Int)≤(i:Int):=by omega
  have e1:(i:Int)<((L.r.length:Nat):Int):=by omega
  have e64:(i:Int)<64:=by omega
  have hll:3+i<68:=by omega
  have s1:=s_shl1 iN
  have z0:=fun t:Sta=>set_t0 t iN
  have z20:=fun t:Sta=>set_t20 t iN
  simp(disch:=first|assumption|omega)only[W_block,P3,seval,initFr,clsA,gs0,gc0,stl_0,stl_1,stl_2,s_andn]
  refine callK (t43 _ _) ?_
  rintro _ X ⟨rfl,hX⟩
  rw[hX,has_nat _ iN]
  cases hcc:((s.lo i&& !s.us i)&& !s.ca i)with
  |false=>
   rw[hcc]at hcom
   simp(disch:=first|assumption|omega)only[W_block,P3,seval,initFr,clsA,gs0,gc0,gw0,rng68,stn68s]
   exact fin1 rfl (by rw[hcom];simp)
  |true=>
  rw[hcc]at hcom
  obtain⟨hyr,hyo⟩:=rv_ro h hlt
  have hgood:=check_good he (List.getElem_mem hlt)
  rw[←ro_eq hlt,←hyr]at hgood
  obtain⟨t1,ht1⟩:∃t:Sta,t={s with ca:=fun j=>s.ca j||decide (j=i),ti:=upd s.ti i 0}:=⟨_,rfl⟩
  obtain⟨K1,hK1⟩:∃X,X=K0.set (H.n+1) (.cells true false 68 (stl t1) 37):=⟨_,rfl⟩
  have k1:Keeps H K1:=by rw[hK1];exact k0.set (by omega) l1 _
  have gs1:K1.get (H.n+1)=some (.cells true false 68 (stl t1) 37):=by rw[hK1];exact AHeap.get_set_same gs0 _
  have gw1:K1.get (H.n+4)=some (.cells true false 68 (stl Sta0) 37):=by rw[hK1,AHeap.get_set_other K0 (by omega) l1];exact gw0
  have gl1:K1.get H.n=some (.cells true false 4 [u.s,u.p,u.g,u.r] 27):=by rw[hK1,AHeap.get_set_other K0 (by omega) l1];exact gl0
  have gi1:K1.get (H.n+2)=some (.cells true false 4 [S64 x.oc,S32 x.nr,S32 x.rv,cv] 42):=by rw[hK1,AHeap.get_set_other K0 (by omega) l1];exact gi0
  have gc1:K1.get (H.n+3)=some (.cells true false 2 [.int .u8 2,.int .i64 (i:Int)] 39):=by rw[hK1,AHeap.get_set_other K0 (by omega) l1];exact gc0
  have hs1:=AHeap.get_lt gs1
  have hw1:=AHeap.get_lt gw1
  obtain⟨na,ra⟩:=(h.r.keeps k1).at_ (i:=i) (by rw[h.rlen];exact hlt)
  rw[←hyr]at hcom
  generalize xs.getD i rv0=y at*
  have rowy:y.row=[.string ⟨y.r.n.toArray⟩,.int .i64 y.r.g,y.vp,y.vq,y.vo,y.vf]:=rfl
  obtain⟨g,hg⟩:∃g:Nat,y.r.g=(g:Int):=⟨y.r.g.toNat,by have:=hgood.lim.g.1;omega⟩
  have hgl:g<L.g.length:=by have:=hgood.lim.g.2;omega
  have hgt:(Int.toNat (g:Int))=g:=by omega
  obtain⟨ng,rg⟩:=(h.g.keeps k1).at_ hgl
  have g0:(0:Int)≤(g:Int):=by omega
  have g1:(g:Int)<((L.g.length:Nat):Int):=by omega
  rw[hg,hgt]at hcom
  simp only[rowy,hg]at ra
  have eT:stl (⟨s.lo,s.us,fun j=>s.ca j||decide (j=i),upd s.ti i 0,s.po⟩:Sta)=stl t1:=by rw[ht1]
  simp(disch:=first|assumption|omega)only[W_block,P3,seval,initFr,clsA,gs0,gc0,stl_2,set_2,s1,s_or,one_s64,o_s64,stl_len,e0,e64,a_iaddrp,z0,hll,Int.toNat_natCast,Nat.mul_one]
  rw[eT,←hK1]
  simp(disch:=first|assumption|omega|(simp only[LN]<;>omega)|(simp(disch:=first|assumption|omega|(simp only[LN]<;>omega))only[row_alloc,row_set];assumption))only[W_block,P3,seval,initFr,clsA,gi0,gl0,gc0,gi1,gl1,gc1,ir,ig,lenr,leng,na,ra,ng,rg,e0,e1,g0,g1,a_load1v,a_loadnvf]
  refine callQ (tCl _ _) ?_
  have hw2:∀o,(K1.set (H.n+1) o).get (H.n+4)=some (.cells true false 68 (stl Sta0) 37):=fun o=>by rw[AHeap.get_set_other K1 (by omega) hs1];exact gw1
  cases hb:hasB x.oc (L.g.getD g ([],0)).2 with
  |true=>
   rw[hb]at hcom
   simp(disch:=first|assumption|omega)only[W_block,P3,seval,initFr,clsA,gs1,gc1,gw1,e0,e64,a_iaddrp,z20,stl_len,hll,rng68,stn68s,Int.toNat_natCast,Nat.mul_one]
   refine fin _ ((k1.set (by omega) hs1 _).set (by omega) (by rw[set_n];exact hw1) _) (AHeap.get_set_same (hw2 _) _) rfl ?_
   rw[hcom,ht1];simp[upd_upd]
  |false=>
   rw[hb]at hcom
   simp(disch:=first|assumption|omega)only[W_block,P3,seval,initFr,clsA,gs1,gw1,rng68,stn68s]
   refine fin _ (k1.set (by omega) hw1 _) (AHeap.get_set_same gw1 _) rfl ?_
   rw[hcom,ht1];simp
 ·have hlt:i<L.p.length:=by rw[if_pos rfl]at nb0;omega
  have iN:i<32:=by omega
  have e0:(0:Int)≤(i:Int):=by omega
  have e1:(i:Int)<((L.p.length:Nat):Int):=by omega
  have s1:=p_shl1 iN
  obtain⟨np,rp⟩:=(h.p.keeps k0).at_ hlt
  have qp:=row_lt rp
  have tNd:=t75 (h.keeps k0) he s (i:Int)
  rw[hul]at tNd
  simp(disch:=first|assumption|omega|(simp only[LN]<;>omega)|(simp(disch:=first|assumption|omega|(simp only[LN]<;>omega))only[row_alloc,row_set];assumption))only[W_block,P3,seval,initFr,clsA,gs0,gc0,gi0,gl0,ip,lenp,np,rp,e0,e1,a_load1v]
  refine callQ (tCl _ _) ?_
  cases hb:hasB x.oc (L.p.getD i ([],0)).2 with
  |true=>
   rw[hb]at hcom
   simp(disch:=first|assumption|omega)only[W_block,P3,seval,initFr,clsA,gs0,gw0,rng68,stn68s]
   exact fin1 rfl (by rw[hcom];simp)
  |false=>
  rw[hb]at hcom
  simp(disch:=first|assumption|omega|(simp only[LN]<;>omega)|(simp(disch:=first|assumption|omega|(simp only[LN]<;>omega))only[row_alloc,row_set];assumption))only[W_block,P3,seval,initFr,clsA,gs0,gc0,gl0,rng68,l0,l1,l2,l3,qp]
  refine callK tNd ?_
  rintro _ X ⟨rfl,hX⟩
  rw[hX]
  cases hnd:needD L s (i:Int)with
  |true=>
   rw[hnd]at hcom
   simp(disch:=first|assumption|omega)only[W_block,P3,seval,initFr,clsA,gs0,gw0,rng68,stn68s]
   exact fin1 rfl (by rw[hcom];simp)
  |false=>
   rw[hnd]at hcom
   simp(disch:=first|assumption|omega)only[W_block,P3,seval,initFr,clsA,gs0,gc0,gw0,stl_67,set_67,s1,p_xor,one_s32,o_s32,stl_len,rng68,stn68s]
   exact fin2 _ _ rfl (by rw[hcom];simp)
end Go.AM.Fd

set_option maxRecDepth 8000
namespace Go.AM.Fd
open Nat (reduceAdd reduceEqDiff reduceLT reduceLeDiff reduceMul reduceSub)
open Go.Proofs Go.AM.F
def cmdD(L:Ly)(x:Inp)(s:Sta)(cs:List (Int×Int)):Sta:=cs.foldl (fun s c=>comD L x s c.1 c.2) s
def rosD(L:Ly)(x:Inp)(us:Nat→Bool)(s:Sta)(i:Nat):Sta:=(List.range i).foldl (fun s i=>if s.lo i then roD L x us s i else s) s
def stepD(L:Ly)(s:Sta)(x:Inp)(cs:List (Int×Int)):Sta:=rosD L x (tidyS L s).us (cmdD L x (tidyS L s) (cs.take 8)) L.r.length
theorem cmdD_snoc(L:Ly)(x:Inp)(s:Sta)(cs:List (Int×Int))(c:Int×Int):cmdD L x s (cs++[c])=comD L x (cmdD L x s cs) c.1 c.2:=by
 unfold cmdD;rw[List.foldl_append];rfl
theorem rosD_s(L:Ly)(x:Inp)(us:Nat→Bool)(s:Sta)(i:Nat):rosD L x us s (i+1)=if(rosD L x us s i).lo i then roD L x us (rosD L x us s i) i else rosD L x us s i:=by
 unfold rosD;rw[List.range_succ,List.foldl_append];rfl
theorem upd_le{t:Nat→Nat}{i n m:Nat}(h:∀j,t j≤m)(hn:n≤m)(j:Nat):upd t i n j≤m:=by
 unfold upd;split
 ·exact hn
 ·exact h j
theorem comD_ti{L:Ly}{x:Inp}{s:Sta}{kd n:Int}(h:∀i,s.ti i≤20)(i:Nat):(comD L x s kd n).ti i≤20:=by
 unfold comD
 repeat' split
 all_goals first|exact h i|exact upd_le h (by omega) i|(refine upd_le h ?_ i;split<;>omega)
theorem roD_ti{L:Ly}{x:Inp}{us:Nat→Bool}{s:Sta}{k:Nat}(h:∀i,s.ti i≤20)(i:Nat):(roD L x us s k).ti i≤20:=by
 unfold roD relS
 repeat' split
 all_goals first|exact h i|exact upd_le h (by have:=h k;omega) i
theorem cmdD_ti{L:Ly}{x:Inp}:∀{cs:List (Int×Int)} {s:Sta},(∀i,s.ti i≤20)→∀i,(cmdD L x s cs).ti i≤20
 |[],s,h=>h
 |c::cs,s,h=>cmdD_ti (cs:=cs) (comD_ti h)
theorem rosD_ti{L:Ly}{x:Inp}{us:Nat→Bool}{s:Sta}(h:∀i,s.ti i≤20):∀k i,(rosD L x us s k).ti i≤20
 |0=>h
 |k+1=>by
  rw[rosD_s]
  split
  ·exact roD_ti (rosD_ti h k)
  ·exact rosD_ti h k
theorem fillO1(b:Nat→Bool):fillA [.int .u64 0,.int .u32 0] [(1,1,S32 b)]=some [.int .u64 0,S32 b]:=rfl
set_option maxHeartbeats 8000000 in
theorem t16{H:AHeap}{u:V4}{xs:List RV}{L:Ly}{s:Sta}{x:Inp}{cv:Value}{cs:List (Int×Int)}(h:LyR H u xs L)(he:checkE L=0)(hc:CL H cv cs)(hcl:cs.length≤1000000):
 ∃w H',ARun Tryz.prog 0 16 [.agg u.l.toArray,.agg (stl s).toArray,.agg (inl x cv).toArray] H w H'∧w=.tuple #[.agg (stl (stepD L s x cs)).toArray,.agg #[S64 (fun i=>decide (i<L.r.length)&&proD L x (stepD L s x cs) i),S32 (stepD L s x cs).po]]∧H'=H:=by
 suffices h':∃w H',ARun Tryz.prog 0 16 [.agg u.l.toArray,.agg (stl s).toArray,.agg (inl x cv).toArray] H w H'∧w=.tuple #[.agg (stl (stepD L s x cs)).toArray,.agg #[S64 (fun i=>decide (i<L.r.length)&&proD L x (stepD L s x cs) i),S32 (stepD L s x cs).po]]∧Keeps H H' by
  obtain⟨_,_,a,rfl,k⟩:=h'
  exact⟨_,_,a.gc0 k (.inr (NV.tuple_of (.cons (nv_stl _ _) (.cons (NV.agg_of (l:=[S64 (fun i=>decide (i<L.r.length)&&proD L x (stepD L s x cs) i),S32 (stepD L s x cs).po]) (NL.plain rfl)) .nil)))),rfl,rfl⟩
 refine walk2 f16_ok f16_n ?_
 intro Q hq1 hq2
 have hmay:=check_may he
 have hL:=may_lim hmay
 have lr:=hL.r
 have lpp:=hL.p
 have os:=Sl.one h.s
 have op:=Sl.one h.p
 have og:=Sl.one h.g
 have or:=Sl.one h.r
 have ir:=Sl.is h.r
 have lenr:=h.r.len
 rw[h.rlen]at lenr
 have isc:=Sl.is hc
 have onec:=Sl.one hc
 have clen:=hc.len
 have hul:u.l=[u.s,u.p,u.g,u.r]:=rfl
 have hinl:inl x cv=[S64 x.oc,S32 x.nr,S32 x.rv,cv]:=rfl
 obtain⟨K0,hK0⟩:∃X,X=((((H.alloc (.cells true false 4 [u.s,u.p,u.g,u.r] 27)).alloc (.cells true false 68 (stl s) 37)).alloc (.cells true false 4 (inl x cv) 42)).alloc (.cells true false 68 (stl Sta0) 37)).alloc (.cells true false 2 [.int .u64 0,.int .u32 0] 68):=⟨_,rfl⟩
 have k0:Keeps H K0:=by rw[hK0];exact(((((Keeps.refl H).alloc _).alloc _).alloc _).alloc _).alloc _
 have n0:K0.n=H.n+5:=by rw[hK0];rfl
 have gl0:K0.get H.n=some (.cells true false 4 [u.s,u.p,u.g,u.r] 27):=by rw[hK0];exact(((((Keeps.refl _).alloc _).alloc _).alloc _).alloc _).at_ (AHeap.get_alloc_new H _)
 have gs0:K0.get (H.n+1)=some (.cells true false 68 (stl s) 37):=by rw[hK0];exact((((Keeps.refl _).alloc _).alloc _).alloc _).at_ (AHeap.get_alloc_new (H.alloc _) _)
 have gi0:K0.get (H.n+2)=some (.cells true false 4 (inl x cv) 42):=by rw[hK0];exact(((Keeps.refl _).alloc _).alloc _).at_ (AHeap.get_alloc_new ((H.alloc _).alloc _) _)
 have gw0:K0.get (H.n+3)=some (.cells true false 68 (stl Sta0) 37):=by rw[hK0];exact((Keeps.refl _).alloc _).at_ (AHeap.get_alloc_new (((H.alloc _).alloc _).alloc _) _)
 have go0:K0.get (H.n+4)=some (.cells true false 2 [.int .u64 0,.int .u32 0] 68):=by rw[hK0];exact AHeap.get_alloc_new ((((H.alloc _).alloc _).alloc _).alloc _) _
 have l1:=AHeap.get_lt gs0
 have tT:=t23 (h.keeps k0) hL s
 have tC:=fun K (k:Keeps H K) (t:Sta) (kd n:Int)=>t42 (x:=x) (cv:=cv) (h.keeps k) he t isc kd n
 have tR:=fun K (k:Keeps H K) (t:Sta) (us:Nat→Bool) (ht:∀i,t.ti i<256) (i:Nat) (hi:i<L.r.length)=>t44 (x:=x) (cv:=cv) (h.keeps k) he t us isc ht hi
 have tP:=fun K (k:Keeps H K) (t:Sta) (i:Nat) (hi:i<L.r.length)=>t45 (x:=x) (cv:=cv) (h.keeps k) he t isc hi
 rw[hinl]at hK0 gi0
 rw[hul]at tT
 simp only[hul,hinl]at tC tR tP
 rw[hul,hinl]
 simp(disch:=first|assumption|omega|(simp only[LN]<;>omega)|(simp(disch:=first|assumption|omega|(simp only[LN]<;>omega))only[row_alloc,row_set];assumption))only[f16,W_block,P3,seval,initFr,clsA,os,op,og,or,stl_one,stl_len,rng68,onec,o_s64,o_s32,one_s64,one_s32,Z68I_z']
 simp only[←hK0]
 refine callK tT ?_
 rintro _ X ⟨rfl,hX⟩
 rw[hX]
 obtain⟨s0,hs0e⟩:∃t,t=tidyS L s:=⟨_,rfl⟩
 rw[←hs0e]
 obtain⟨K1,hK1⟩:∃X,X=K0.set (H.n+1) (.cells true false 68 (stl s0) 37):=⟨_,rfl⟩
 have k1:Keeps H K1:=by rw[hK1];exact k0.set (by omega) l1 _
 have oth:∀b,b≠H.n+1→K1.get b=K0.get b:=fun b hb=>by rw[hK1];exact AHeap.get_set_other K0 hb l1 _
 have gs1:K1.get (H.n+1)=some (.cells true false 68 (stl s0) 37):=by rw[hK1];exact AHeap.get_set_same gs0 _
 have gl1:=(oth H.n (by omega)).trans gl0
 have gi1:=(oth (H.n+2) (by omega)).trans gi0
 have gw1:=(oth (H.n+3) (by omega)).trans gw0
 have go1:=(oth (H.n+4) (by omega)).trans go0
 have n1:K1.n=H.n+5:=by rw[hK1,set_n,n0]
 simp(disch:=first|assumption|omega)only[P3,seval,initFr,clsA,gs0,stn68s,stl_1]
 simp only[←hK1]
 obtain⟨A1,hA1⟩:∃v:Value,v=.agg #[u.s,u.p,u.g,u.r]:=⟨_,rfl⟩
 obtain⟨A2,hA2⟩:∃v:Value,v=.agg (stl s).toArray:=⟨_,rfl⟩
 obtain⟨A4,hA4⟩:∃v:Value,v=.agg #[S64 x.oc,S32 x.nr,S32 x.rv,cv]:=⟨_,rfl⟩
 rw[W_block,←hA1,←hA2,←hA4]
 refine W_loop2 (fun q fr X=>∃i x13,fr=[A1,A2,A4,ptr H.n 0,ptr (H.n+1) 0,ptr (H.n+2) 0,ptr (H.n+3) 0,ptr (H.n+4) 0,S64 s0.us,.int .i64 ((i:Nat):Int),undef,undef,undef,x13,undef,undef,undef,undef]∧
  Chg [H.n+1] K1 X∧X.n=K1.n∧X.get (H.n+1)=some (.cells true false 68 (stl (cmdD L x s0 (cs.take i))) 37)∧i≤cs.length∧i≤8∧q=8-i) 8
  ⟨0,_,rfl,Chg.refl _ _,rfl,gs1,by omega,by omega,rfl⟩ ?_
 rintro Q' q fr X ⟨i,x13,rfl,cX,nX,gsX,hi,hi8,rfl⟩ hn' hx' hret
 have kX:Keeps H X:=k1.chg_trans cX (by simp)
 have glX:=cX.at_ gl1 (by simp)
 have giX:=cX.at_ gi1 (by simp)
 have lX:=AHeap.get_lt gsX
 -- behind the commands
 have goon:∀{v9 v13:Value} (hcm:cmdD L x s0 (cs.take i)=cmdD L x s0 (cs.take 8)),Q' (.exit 0) [A1,A2,A4,ptr H.n 0,ptr (H.n+1) 0,ptr (H.n+2) 0,ptr (H.n+3) 0,ptr (H.n+4) 0,S64 s0.us,v9,undef,undef,undef,v13,undef,undef,undef,undef] X:=by
  intro v9 v13 hcm
  rw[hcm]at gsX
  obtain⟨s1,hs1⟩:∃t,t=cmdD L x s0 (cs.take 8):=⟨_,rfl⟩
  rw[←hs1]at gsX
  have ti1:∀i,s1.ti i≤20:=by rw[hs1,hs0e];exact cmdD_ti (tidy_ti L s)
  have hst:stepD L s x cs=rosD L x s0.us s1 L.r.length:=by unfold stepD;rw[hs1,hs0e]
  rw[hst]at hq1 hq2
  refine hx' _ _ _ ?_
  simp(disch:=first|assumption|omega)only[P3,seval,initFr,clsA]
  rw[W_block]
  refine W_loop2 (fun q fr Y=>∃k x14 x15,fr=[A1,A2,A4,ptr H.n 0,ptr (H.n+1) 0,ptr (H.n+2) 0,ptr (H.n+3) 0,ptr (H.n+4) 0,S64 s0.us,v9,.int .i64 ((k:Nat):Int),undef,undef,v13,x14,x15,undef,undef]∧
   Chg [H.n+1] K1 Y∧Y.n=K1.n∧Y.get (H.n+1)=some (.cells true false 68 (stl (rosD L x s0.us s1 k)) 37)∧k≤L.r.length∧q=L.r.length-k) L.r.length
   ⟨0,_,_,rfl,cX,nX,gsX,by omega,rfl⟩ ?_
  rintro Q2 q fr Y ⟨k,x14,x15,rfl,cY,nY,gsY,hk,rfl⟩ hn2 hx2 hret2
  have kY:Keeps H Y:=k1.chg_trans cY (by simp)
  have glY:=cY.at_ gl1 (by simp)
  have giY:=cY.at_ gi1 (by simp)
  have gwY:=cY.at_ gw1 (by simp)
  have goY:=cY.at_ go1 (by simp)
  have lY:=AHeap.get_lt gsY
  by_cases hlk:k<L.r.length
  ·have kN:k<64:=by omega
   have c0:(0:Int)≤(k:Int):=by omega
   have c1:((k:Nat):Int)<((L.r.length:Nat):Int):=by omega
   have hw2:IntKind.i64.wrap ((k:Int)+1)=((k+1:Nat):Int):=by rw[wrap_i64 (by omega) (by omega)];simp
   have hrs:=rosD_s L x s0.us s1 k
   have tik:=rosD_ti (L:=L) (x:=x) (us:=s0.us) ti1 k
   generalize rosD L x s0.us s1 k=t at*
   simp(disch:=first|assumption|omega)only[W_block,P3,seval,initFr,clsA,glY,gsY,stl_0,ir,lenr,c1]
   refine callK (t43 _ _) ?_
   rintro _ Z ⟨rfl,hZ⟩
   rw[hZ,has_nat _ kN]
   cases hlo:t.lo k with
   |false=>
    rw[hlo]at hrs
    simp(disch:=first|assumption|omega)only[W_block,P3,seval,initFr,clsA,hw2]
    exact hn2 _ _ _ ⟨k+1,_,_,rfl,cY,nY,by rw[hrs];exact gsY,by omega,rfl⟩ (by omega)
   |true=>
    rw[hlo]at hrs
    simp(disch:=first|assumption|omega|(simp only[LN]<;>omega)|(simp(disch:=first|assumption|omega|(simp only[LN]<;>omega))only[row_alloc,row_set];assumption))only[W_block,P3,seval,initFr,clsA,glY,gsY,giY,rng68]
    refine callQ (tR _ kY t s0.us (fun i=>by have:=tik i;omega) k hlk) ?_
    simp(disch:=first|assumption|omega)only[W_block,P3,seval,initFr,clsA,gsY,stn68s,hw2]
    exact hn2 _ _ _ ⟨k+1,_,_,rfl,cY.trans (Chg.set Y lY _) (by simp),by rw[set_n];exact nY,by rw[AHeap.get_set_same gsY,hrs];rfl,by omega,rfl⟩ (by omega)
  ·have c1:¬((k:Nat):Int)<((L.r.length:Nat):Int):=by omega
   have hke:k=L.r.length:=by omega
   subst hke
   obtain⟨t,ht⟩:∃t,t=rosD L x s0.us s1 L.r.length:=⟨_,rfl⟩
   rw[←ht]at hq1 hq2 gsY
   simp(disch:=first|assumption|omega)only[W_block,P3,seval,initFr,clsA,glY,ir,lenr,c1]
   refine hx2 _ _ _ ?_
   obtain⟨Z0,hZ0⟩:∃Z,Z=Y.alloc (.cells true false 2 [S64 fun j=>decide (j<0)&&proD L x t j,S32 t.po] 68):=⟨_,rfl⟩
   have kZ0:Keeps Y Z0:=by rw[hZ0];exact(Keeps.refl Y).alloc _
   have gz0:Z0.get Y.n=some (.cells true false 2 [S64 fun j=>decide (j<0)&&proD L x t j,S32 t.po] 68):=by rw[hZ0];exact AHeap.get_alloc_new Y _
   have e00:Value.int .u64 0=S64 fun j=>decide (j<0)&&proD L x t j:=by rw[s_zero];exact s64_ext fun i _=>by simp
   simp(disch:=first|assumption|omega|(simp only[LN]<;>omega)|(simp(disch:=first|assumption|omega|(simp only[LN]<;>omega))only[row_alloc,row_set];assumption))only[P3,seval,initFr,clsA,gsY,stl_67,fillO1,o_s32,one_s32]
   rw[e00,←hZ0,W_block]
   refine W_loop2 (fun q fr Z=>∃k x16 x17,fr=[A1,A2,A4,ptr H.n 0,ptr (H.n+1) 0,ptr (H.n+2) 0,ptr (H.n+3) 0,ptr (H.n+4) 0,S64 s0.us,v9,.int .i64 ((L.r.length:Nat):Int),ptr Y.n 0,.int .i64 ((k:Nat):Int),v13,.bool false,x15,x16,x17]∧
    Chg [Y.n] Z0 Z∧Z.get Y.n=some (.cells true false 2 [S64 fun j=>decide (j<k)&&proD L x t j,S32 t.po] 68)∧k≤L.r.length∧q=L.r.length-k) L.r.length
    ⟨0,_,_,rfl,Chg.refl _ _,gz0,by omega,rfl⟩ ?_
   rintro Q3 q fr Z ⟨k,x16,x17,rfl,cZ,gz,hk,rfl⟩ hn3 hx3 hret3
   have lYn:=Nat.lt_of_lt_of_le (AHeap.get_lt gwY) (Nat.le_refl _)
   have kYZ:Keeps Y Z:=kZ0.chg_trans cZ (by simp)
   have kZ:Keeps H Z:=kY.trans kYZ
   have glZ:=kYZ.at_ glY
   have giZ:=kYZ.at_ giY
   have gsZ:=kYZ.at_ gsY
   have gwZ:=kYZ.at_ gwY
   have goZ:=kYZ.at_ goY
   have lZ:=AHeap.get_lt gz
   by_cases hlk:k<L.r.length
   ·have kN:k<64:=by omega
    have c1:((k:Nat):Int)<((L.r.length:Nat):Int):=by omega
    have hw2:IntKind.i64.wrap ((k:Int)+1)=((k+1:Nat):Int):=by rw[wrap_i64 (by omega) (by omega)];simp
    have sh:=s_shl1 kN
    simp(disch:=first|assumption|omega|(simp only[LN]<;>omega)|(simp(disch:=first|assumption|omega|(simp only[LN]<;>omega))only[row_alloc,row_set];assumption))only[W_block,P3,seval,initFr,clsA,glZ,giZ,gsZ,ir,lenr,c1,rng68]
    refine callQ (tP _ kZ t k hlk) ?_
    cases hp:proD L x t k with
    |false=>
     simp(disch:=first|assumption|omega)only[W_block,P3,seval,initFr,clsA,hw2]
     exact hn3 _ _ _ ⟨k+1,_,_,rfl,cZ,by rw[gz,with_n (proD L x t) k hp],by omega,rfl⟩ (by omega)
    |true=>
     simp(disch:=first|assumption|omega)only[W_block,P3,seval,initFr,clsA,gz,sh,s_or,o_s64,one_s64,hw2]
     refine hn3 _ _ _ ⟨k+1,_,_,rfl,cZ.trans (Chg.set Z lZ _) (by simp),?_,by omega,rfl⟩ (by omega)
     rw[AHeap.get_set_same gz,←with_p (proD L x t) k hp]
     congr 4
     congr 1
     funext j
     simp only[oneP,Int.ofNat_inj]
   ·have c1:¬((k:Nat):Int)<((L.r.length:Nat):Int):=by omega
    have hke:k=L.r.length:=by omega
    subst hke
    have hwl:=AHeap.get_lt gwZ
    have hol:=AHeap.get_lt goZ
    have oa:∀o,(Z.set (H.n+3) o).get (H.n+4)=Z.get (H.n+4):=fun o=>AHeap.get_set_other Z (by omega) hwl o
    simp(disch:=first|assumption|omega)only[W_block,P3,seval,initFr,clsA,glZ,ir,lenr,c1]
    refine hx3 _ _ _ ?_
    simp(disch:=first|assumption|omega|(simp only[LN]<;>omega)|(simp(disch:=first|assumption|omega|(simp only[LN]<;>omega))only[row_alloc,row_set];assumption))only[W_block,P3,seval,initFr,clsA,gsZ,gz,gwZ,goZ,oa,rng68,stn68s,o_s64,o_s32,one_s64,one_s32]
    obtain⟨pr,hpr⟩:∃pr:Nat→Bool,pr=fun j=>decide (j<L.r.length)&&proD L x t j:=⟨_,rfl⟩
    rw[←hpr]at hq2 ⊢
    refine⟨by simp,hq2 _ _ ⟨.tuple #[.agg (stl t).toArray,.agg #[S64 pr,S32 t.po]],?_,rfl,(kZ.set (by omega) hwl _).set (by omega) (by rw[set_n];exact hol) _⟩⟩
    have ga3:((Z.set (H.n+3) (.cells true false 68 (stl t) 37)).set (H.n+4) (.cells true false 2 [S64 pr,S32 t.po] 68)).get (H.n+3)=some (.cells true false 68 (stl t) 37):=by
     rw[AHeap.get_set_other _ (by omega) (by rw[set_n];exact hol)];exact AHeap.get_set_same gwZ _
    have go3:((Z.set (H.n+3) (.cells true false 68 (stl t) 37)).set (H.n+4) (.cells true false 2 [S64 pr,S32 t.po] 68)).get (H.n+4)=some (.cells true false 2 [S64 pr,S32 t.po] 68):=
     AHeap.get_set_same ((oa _).trans goZ) _
    show resO [.cn 68 6,.cn 2 7] _ _=_
    have r1':celln 68 (ptr (H.n+3) 0) ((Z.set (H.n+3) (.cells true false 68 (stl t) 37)).set (H.n+4) (.cells true false 2 [S64 pr,S32 t.po] 68))=some (.agg (stl t).toArray):=by
     rw[cellnp,rangeA_e,ga3,rng68];rfl
    have r2':celln 2 (ptr (H.n+4) 0) ((Z.set (H.n+3) (.cells true false 68 (stl t) 37)).set (H.n+4) (.cells true false 2 [S64 pr,S32 t.po] 68))=some (.agg #[S64 pr,S32 t.po]):=by
     rw[cellnp,rangeA_e,go3];rfl
    have e5:∀l:List Value,l.getD 6 undef=ptr (H.n+3) 0→l.getD 7 undef=ptr (H.n+4) 0→∀K,celln 68 (ptr (H.n+3) 0) K=some (.agg (stl t).toArray)→celln 2 (ptr (H.n+4) 0) K=some (.agg #[S64 pr,S32 t.po])→
     resO [.cn 68 6,.cn 2 7] l K=some (.tuple #[.agg (stl t).toArray,.agg #[S64 pr,S32 t.po]]):=fun l a b K c d=>by
     simp only[resO,resVs,RX.get,a,b,c,d];rfl
    exact e5 _ rfl rfl _ r1' r2'
 by_cases h1:i<cs.length
 ·by_cases h2:i<8
  ·obtain⟨nc,rc⟩:=(hc.keeps kX).at_ h1
   have e0:(0:Int)≤(i:Int):=by omega
   have e1:(i:Int)<((cs.length:Nat):Int):=by omega
   have e8:(i:Int)<8:=by omega
   have hw:IntKind.i64.wrap ((i:Int)+1)=((i+1:Nat):Int):=by rw[wrap_i64 (by omega) (by omega)];simp
   have hgd:cs.getD i (0,0)=cs[i]:=by rw[List.getD_eq_getElem?_getD,List.getElem?_eq_getElem h1];rfl
   have htk:cs.take (i+1)=cs.take i++[cs[i]]:=by rw[List.take_add_one,List.getElem?_eq_getElem h1];rfl
   rw[hgd]at rc
   generalize cs[i]=c at*
   obtain⟨kd,n⟩:=c
   simp(disch:=first|assumption|omega|(simp only[LN]<;>omega)|(simp(disch:=first|assumption|omega|(simp only[LN]<;>omega))only[row_alloc,row_set];assumption))only[W_block,P3,seval,initFr,clsA,glX,giX,gsX,isc,clen,nc,rc,e0,e1,e8,a_loadnvf,rng68]
   refine callQ (tC _ kX _ kd n) ?_
   simp(disch:=first|assumption|omega)only[W_block,P3,seval,initFr,clsA,gsX,stn68s,hw]
   exact hn' _ _ _ ⟨i+1,_,rfl,cX.trans (Chg.set X lX _) (by simp),by rw[set_n];exact nX,by rw[AHeap.get_set_same gsX,htk,cmdD_snoc],by omega,by omega,rfl⟩ (by omega)
  ·have e1:(i:Int)<((cs.length:Nat):Int):=by omega
   have e8:¬(i:Int)<8:=by omega
   have hi8':i=8:=by omega
   simp(disch:=first|assumption|omega)only[W_block,P3,seval,initFr,clsA,giX,isc,clen,e1,e8]
   exact goon (by rw[hi8'])
 ·have e1:¬(i:Int)<((cs.length:Nat):Int):=by omega
  have hil:i=cs.length:=by omega
  simp(disch:=first|assumption|omega)only[W_block,P3,seval,initFr,clsA,giX,isc,clen,e1]
  exact goon (by rw[List.take_of_length_le (by omega),List.take_of_length_le (by omega)])
end Go.AM.Fd

set_option maxRecDepth 8000
namespace Go.AM.Fd
open Nat (reduceAdd reduceEqDiff reduceLT reduceLeDiff reduceMul reduceSub)
open Go.Proofs Go.AM.F
theorem Z68K_z:Z68K=stl Sta0:=stl_zero
theorem O68K_r:O68K=List.replicate 68 1:=rfl
theorem t52{H:AHeap}(f:Nat→Bool){n:Int}(h:0≤n):∃w H',ARun Tryz.prog 0 52 [S64 f,.int .i64 n] H w H'∧w=.bool (hasB f n)∧H'=H:=by
 refine walk2 f52_ok f52_n ?_
 intro Q hq1 hq2
 obtain⟨m,rfl⟩:∃m:Nat,n=(m:Int):=⟨n.toNat,by omega⟩
 simp(disch:=first|assumption|omega)only[f52,W_block,P3,seval,initFr,clsA,s_shr,s_and1,i1_eq,o_s64,o_i1]
 refine hq2 _ _ ⟨.bool _,rfl,?_,rfl⟩
 unfold hasB
 have e:decide ((m:Int)<64)=decide (m<64):=by rw[decide_eq_decide];omega
 simp[e]
def tidA(L:Ly)(s:Sta)(i:Nat):Sta where
 lo:=fun j=>s.lo j&&decide (j<i)
 us:=fun j=>s.us j&&(s.lo j&&decide (j<i))
 ca:=fun j=>s.ca j&&(s.lo j&&decide (j<i))
 ti:=fun j=>if s.ca j&&(s.lo j&&decide (j<i))then min (s.ti j) 20 else 0
 po:=fun j=>s.po j&&lowP L.p.length j
theorem tidA_0(L:Ly)(s:Sta):stl (tidA L s 0)=stl {Sta0 with po:=fun j=>s.po j&&lowP L.p.length j}:=
 stl_ext (fun _ _=>by simp[tidA,Sta0]) (fun _ _=>by simp[tidA,Sta0]) (fun _ _=>by simp[tidA,Sta0]) (fun _ _=>by simp[tidA,Sta0]) (fun _ _=>rfl)
theorem tidA_n(L:Ly)(s:Sta):tidA L s L.r.length=tidyS L s:=by
 have e:∀j:Nat,decide (j<L.r.length)=lowP L.r.length j:=fun j=>by unfold lowP;rw[decide_eq_decide];omega
 unfold tidA tidyS
 simp only[e]
def tidN(s:Sta)(i:Nat)(t:Sta):Sta:=if s.lo i then⟨fun j=>t.lo j||decide (j=i),if s.us i then(fun j=>t.us j||decide (j=i))else t.us,if s.ca i then(fun j=>t.ca j||decide (j=i))else t.ca,if s.ca i then upd t.ti i (min (s.ti i) 20)else t.ti,t.po⟩else t
theorem tidN_e(L:Ly)(s:Sta)(i:Nat):stl (tidA L s (i+1))=stl (tidN s i (tidA L s i)):=by
 have lt:∀j,j≠i→decide (j<i+1)=decide (j<i):=fun j h=>by rw[decide_eq_decide];omega
 have lp:∀j,j≠i→(j<i+1)=(j<i):=fun j h=>propext (by omega)
 unfold tidN
 cases h1:s.lo i with
 |false=>
  refine stl_ext (fun j _=>?_) (fun j _=>?_) (fun j _=>?_) (fun j _=>?_) (fun _ _=>rfl)
  all_goals
   by_cases e:j=i
   ·subst e;simp[tidA,h1]
   ·simp[tidA,lt j e,lp j e]
 |true=>
  simp only[if_true]
  cases h2:s.us i<;>cases h3:s.ca i<;>
  ·refine stl_ext (fun j _=>?_) (fun j _=>?_) (fun j _=>?_) (fun j _=>?_) (fun _ _=>rfl)
   all_goals
    by_cases e:j=i
    ·subst e;simp[tidA,upd,h1,h2,h3]
    ·simp[tidA,upd,lt j e,lp j e,e]
set_option maxHeartbeats 2000000 in
theorem t19{H:AHeap}{b:Nat}{L:Ly}(h:MaA H b L)(hL:L.r.length≤64)(s:Sta):∃w H',ARun Tryz.prog 0 19 [ptr b 0,.agg (stl s).toArray] H w H'∧w=.agg (stl (tidyS L s)).toArray∧H'=H:=by
 refine gcst ?_
 refine walk2 f19_ok f19_n ?_
 intro Q hq1 hq2
 obtain⟨vl,vi,ls,own,room,T,gb,sl,ok,si⟩:=h.x
 have hbl:=AHeap.get_lt gb
 obtain⟨K0,hK0⟩:∃X,X=((H.alloc (.cells true false 68 (stl s) 37)).alloc (.cells true false 68 (stl Sta0) 37)).alloc (.cells true false 68 (stl {Sta0 with po:=fun j=>s.po j&&lowP L.p.length j}) 37):=⟨_,rfl⟩
 have k0:Keeps H K0:=by rw[hK0];exact(((Keeps.refl H).alloc _).alloc _).alloc _
 have n0:K0.n=H.n+3:=by rw[hK0];rfl
 have gs0:K0.get H.n=some (.cells true false 68 (stl s) 37):=by rw[hK0];exact(((Keeps.refl _).alloc _).alloc _).at_ (AHeap.get_alloc_new H _)
 have gw0:K0.get (H.n+1)=some (.cells true false 68 (stl Sta0) 37):=by rw[hK0];exact((Keeps.refl _).alloc _).at_ (AHeap.get_alloc_new (H.alloc _) _)
 have go0:K0.get (H.n+2)=some (.cells true false 68 (stl (tidA L s 0)) 37):=by rw[hK0,tidA_0];exact AHeap.get_alloc_new ((H.alloc _).alloc _) _
 have gb0:=k0.at_ gb
 have hb1:¬b=H.n:=by omega
 have hb2:¬b=H.n+1:=by omega
 have hb3:¬b=H.n+2:=by omega
 have hbl1:b<H.n+1:=by omega
 have hbl2:b<H.n+2:=by omega
 have isl:=Sl.is sl
 have lenl:lenS vl=L.r.length:=by have:=Sl.len sl;simpa[arows]using this
 unfold amc at gb gb0
 simp(disch:=first|assumption|omega|(simp only[LN]<;>omega)|(simp(disch:=first|assumption|omega|(simp only[LN]<;>omega))only[row_alloc,row_set];assumption))only[f19,P3,seval,initFr,clsA,stl_one,stl_len,Z68K_z,stl_67,set_67,gb,hbl,hbl1,hbl2,hb1,hb2,hb3,p_and,one_s32,o_s32,isl,lenl]
 rw[←hK0,W_block]
 have h12:H.n+1+1=H.n+2:=rfl
 rw[h12]
 refine W_loop2 (fun q fr K=>∃i x5 x9 x10 x11 x12,fr=[ptr b 0,.agg (stl s).toArray,ptr H.n 0,ptr (H.n+1) 0,ptr (H.n+2) 0,x5,.bool false,.int .i64 ((L.r.length:Nat):Int),.int .i64 ((i:Nat):Int),x9,x10,x11,x12]∧
  Chg [H.n+2] K0 K∧K.get (H.n+2)=some (.cells true false 68 (stl (tidA L s i)) 37)∧i≤L.r.length∧q=L.r.length-i) L.r.length
  ⟨0,_,_,_,_,_,rfl,Chg.refl _ _,go0,by omega,rfl⟩ ?_
 rintro Q' q fr K ⟨i,x5,x9,x10,x11,x12,rfl,cK,go,hi,rfl⟩ hn' hx' hret
 have gs:=cK.at_ gs0 (by simp)
 have gw:=cK.at_ gw0 (by simp)
 have hol:=AHeap.get_lt go
 have hwl:=AHeap.get_lt gw
 by_cases hlt:i<L.r.length
 ·have iN:i<64:=by omega
  have e0:(0:Int)≤(i:Int):=by omega
  have e1:(i:Int)<((L.r.length:Nat):Int):=by omega
  have e64:(i:Int)<64:=by omega
  have hw:IntKind.i64.wrap ((i:Int)+1)=((i+1:Nat):Int):=by rw[wrap_i64 (by omega) (by omega)];simp
  have sh:=s_shl1 iN
  have gsx:∀o,(K.set (H.n+2) o).get H.n=some (.cells true false 68 (stl s) 37):=fun o=>by rw[AHeap.get_set_other K (by omega) hol];exact gs
  have gox:∀o,(K.set (H.n+2) o).get (H.n+2)=some o:=fun o=>AHeap.get_set_same go o
  have hmn:min ((s.ti i:Nat):Int) 20=((min (s.ti i) 20:Nat):Int):=by omega
  have st:=stl_t s iN
  have st1:=fun t:Sta=>set_t t iN (min (s.ti i) 20)
  have hll:3+i<68:=by omega
  have hstep:=tidN_e L s i
  unfold tidN at hstep
  generalize tidA L s i=t at*
  have fin:∀{v10 v11 v12:Value} (t':Sta),stl (tidA L s (i+1))=stl t'→Q' .normal [ptr b 0,.agg (stl s).toArray,ptr H.n 0,ptr (H.n+1) 0,ptr (H.n+2) 0,.int .i64 ((i:Nat):Int),.bool false,.int .i64 ((L.r.length:Nat):Int),.int .i64 ((i+1:Nat):Int),.bool true,v10,v11,v12] (K.set (H.n+2) (.cells true false 68 (stl t') 37)):=fun t' e=>
   hn' _ _ _ ⟨i+1,_,_,_,_,_,rfl,cK.trans (Chg.set K hol _) (by simp),by rw[e];exact AHeap.get_set_same go _,by omega,rfl⟩ (by omega)
  simp(disch:=first|assumption|omega)only[W_block,P3,seval,initFr,clsA,e1,gs,stl_0]
  refine callK (t52 _ e0) ?_
  rintro _ X ⟨rfl,hX⟩
  rw[hX,has_nat _ iN]
  cases h1:s.lo i with
  |false=>
   rw[h1]at hstep
   simp(disch:=first|assumption|omega)only[W_block,P3,seval,initFr,clsA,hw]
   exact hn' _ _ _ ⟨i+1,_,_,_,_,_,rfl,cK,by rw[hstep];exact go,by omega,rfl⟩ (by omega)
  |true=>
  rw[h1]at hstep
  simp(disch:=first|assumption|omega)only[W_block,P3,seval,initFr,clsA,gs,go,gsx,gox,stl_0,stl_1,stl_2,set_0,set_1,set_2,sh,s_or,o_s64,one_s64,stl_len]
  refine callK (t52 _ e0) ?_
  rintro _ X ⟨rfl,hX⟩
  rw[hX,has_nat _ iN]
  cases h2:s.us i with
  |false=>
   rw[h2]at hstep
   simp(disch:=first|assumption|omega)only[W_block,P3,seval,initFr,clsA,gs,go,gsx,gox,stl_0,stl_1,stl_2,set_0,set_1,set_2,sh,s_or,o_s64,one_s64,stl_len]
   refine callK (t52 _ e0) ?_
   rintro _ X ⟨rfl,hX⟩
   rw[hX,has_nat _ iN]
   cases h3:s.ca i with
   |false=>
    rw[h3]at hstep
    simp(disch:=first|assumption|omega)only[W_block,P3,seval,initFr,clsA,hw]
    exact fin _ hstep
   |true=>
    rw[h3]at hstep
    simp(disch:=first|assumption|omega)only[W_block,P3,seval,initFr,clsA,gs,go,gsx,gox,stl_0,stl_1,stl_2,set_0,set_1,set_2,sh,s_or,o_s64,one_s64,stl_len,e0,e64,a_mmn,hmn,a_iaddrp,st,st1,hll,Int.toNat_natCast,Nat.mul_one,hw]
    exact fin _ hstep
  |true=>
   rw[h2]at hstep
   simp(disch:=first|assumption|omega)only[W_block,P3,seval,initFr,clsA,gs,go,gsx,gox,stl_0,stl_1,stl_2,set_0,set_1,set_2,sh,s_or,o_s64,one_s64,stl_len]
   refine callK (t52 _ e0) ?_
   rintro _ X ⟨rfl,hX⟩
   rw[hX,has_nat _ iN]
   cases h3:s.ca i with
   |false=>
    rw[h3]at hstep
    simp(disch:=first|assumption|omega)only[W_block,P3,seval,initFr,clsA,hw]
    exact fin _ hstep
   |true=>
    rw[h3]at hstep
    simp(disch:=first|assumption|omega)only[W_block,P3,seval,initFr,clsA,gs,go,gsx,gox,stl_0,stl_1,stl_2,set_0,set_1,set_2,sh,s_or,o_s64,one_s64,stl_len,e0,e64,a_mmn,hmn,a_iaddrp,st,st1,hll,Int.toNat_natCast,Nat.mul_one,hw]
    exact fin _ hstep
 ·have e1:¬((i:Nat):Int)<((L.r.length:Nat):Int):=by omega
  have hie:i=L.r.length:=by omega
  subst hie
  rw[tidA_n]at go
  simp(disch:=first|assumption|omega)only[W_block,P3,seval,initFr,clsA,e1]
  refine hx' _ _ _ ?_
  simp(disch:=first|assumption|omega)only[W_block,P3,seval,initFr,clsA,go,gw,rng68,stn68s]
  refine hq2 _ _ ⟨_,?_,rfl,(k0.chg_trans cK (by simp)).set (by omega) hwl _⟩
  show resO [.cn 68 3] _ _=_
  rw[resC]
  show celln 68 (ptr (H.n+1) 0) _=_
  rw[cellnp,rangeA_e,AHeap.get_set_same gw,rng_full (stl_len _)];rfl
end Go.AM.Fd

set_option maxRecDepth 8000
namespace Go.AM.Fd
open Nat (reduceAdd reduceEqDiff reduceLT reduceLeDiff reduceMul reduceSub)
open Go.Proofs Go.AM.F
def p64(f:Nat→Bool):Nat→Bool:=fun i=>decide (i<32)&&f i
theorem has_p64(f:Nat→Bool){n:Int}(h:0≤n)(h2:n<32):hasB (p64 f) n=f n.toNat:=by
 unfold hasB p64
 have e1:n<64:=by omega
 have e2:n.toNat<32:=by omega
 simp[h,e1,e2]
theorem t56{H:AHeap}{s:Sta}{b T:Nat}{o r:Bool}{n:Int}(gb:H.get b=some (.cells o r 68 (stl s) T))(h:0≤n):
 ∃w H',ARun Tryz.prog 0 56 [.int .i64 n,ptr b 0] H w H'∧w=.bool (hasB s.lo n)∧H'=H:=by
 refine walk2 f56_ok f56_n ?_
 intro Q hq1 hq2
 simp(disch:=first|assumption|omega)only[f56,W_block,P3,seval,initFr,clsA,gb,stl_0]
 refine callQ (t52 _ h) ?_
 simp(disch:=first|assumption|omega)only[W_block,P3,seval,initFr,clsA]
 exact hq2 _ _ ⟨_,rfl,rfl,rfl⟩
theorem t58{H:AHeap}{s:Sta}{b T:Nat}{o r:Bool}{z:Int×Bool}(gb:H.get b=some (.cells o r 68 (stl s) T))(h:0≤z.1):
 ∃w H',ARun Tryz.prog 0 58 [.agg (nRow z).toArray,ptr b 0] H w H'∧w=.bool (hasB (p64 s.po) z.1 != z.2)∧H'=H:=by
 refine gcb ?_
 refine walk2 f58_ok f58_n ?_
 intro Q hq1 hq2
 have kA:=(Keeps.refl H).alloc (.cells true false 2 [.int .i64 z.1,.bool z.2] 55)
 have lb:=AHeap.get_lt gb
 have hb:¬b=H.n:=by omega
 have es:S64 (fun i=>decide (i<32)&&s.po i)=S64 (p64 s.po):=rfl
 unfold nRow
 simp(disch:=first|assumption|omega)only[f58,W_block,P3,seval,initFr,clsA,gb,stl_67,s_up,lb,hb]
 rw[es]
 refine callQ (t52 _ h) ?_
 have bx:∀a c:Bool,(if true=true then !(a==c)else(a==c))=(a != c):=fun a c=>by cases a<;>cases c<;>rfl
 simp(disch:=first|assumption|omega)only[W_block,P3,seval,initFr,clsA]
 exact hq2 _ _ ⟨_,rfl,by cases hasB (p64 s.po) z.1<;>cases z.2<;>rfl,kA⟩
def rgaI(L:Ly)(s:Sta)(i:Nat):Bool:= !s.lo i||(!((cfl L i L.r.length).any fun k=>hasB s.lo k)&& !((nds (ro L i)).any fun z=>hasB (p64 s.po) z.1 != z.2))
def rgtA(L:Ly)(s:Sta):Bool:=staB (tidyS L s) s&&(List.range L.r.length).all (rgaI L s)
theorem cfl_0{L:Ly}{i n:Nat}:∀x∈cfl L i n,0≤x∧x<n:=by
 intro x hx
 unfold cfl at hx
 obtain⟨k,hk,rfl⟩:=List.mem_map.1 hx
 have:=List.mem_range.1 (List.mem_filter.1 hk).1
 omega
theorem cfl_any{L:Ly}{i:Nat}(hL:L.r.length≤64)(s:Sta):((cfl L i L.r.length).any fun k=>hasB s.lo k)=(List.range L.r.length).any fun k=>(decide (i≠k)&&s.lo k)&&cf L i k:=by
 unfold cfl
 rw[List.any_map,List.any_filter,Bool.eq_iff_iff,List.any_eq_true,List.any_eq_true]
 constructor
 ·rintro⟨k,hk,h⟩
  have:=List.mem_range.1 hk
  refine⟨k,hk,?_⟩
  simp only[Function.comp,has_nat s.lo (show k<64 by omega),Bool.and_eq_true,bne_iff_ne]at h
  simp[h.1.2,h.2];exact fun e=>h.1.1 e.symm
 ·rintro⟨k,hk,h⟩
  have:=List.mem_range.1 hk
  refine⟨k,hk,?_⟩
  simp only[Function.comp,has_nat s.lo (show k<64 by omega)]
  simp only[Bool.and_eq_true,decide_eq_true_eq]at h
  simp[h.1.2,h.2];exact fun e=>h.1.1 e.symm
theorem nd_rng{L:Ly}(he:checkE L=0){i:Nat}(hi:i<L.r.length):∀z∈nds (ro L i),0≤z.1∧z.1<32:=by
 intro z hz
 have hg:=(check_good he (List.getElem_mem hi)).nd z (by rw[←ro_eq hi];exact hz)
 have:=(may_lim (check_may he)).p
 exact⟨hg.1,by omega⟩
theorem rga_eq{L:Ly}(he:checkE L=0)(s:Sta):rgtA L s=rgtD L s:=by
 have hL:=(may_lim (check_may he)).r
 unfold rgtA rgtD
 congr 1
 apply Bool.eq_iff_iff.2
 rw[List.all_eq_true,List.all_eq_true]
 have key:∀i,i<L.r.length→rgaI L s i=iOK L s i:=by
  intro i hi
  unfold rgaI iOK
  rw[cfl_any hL]
  have e1:((nds (ro L i)).any fun z=>hasB (p64 s.po) z.1 != z.2)=(nds (ro L i)).any fun z=>s.po z.1.toNat != z.2:=by
   rw[Bool.eq_iff_iff,List.any_eq_true,List.any_eq_true]
   constructor
   ·rintro⟨z,hz,h⟩;exact⟨z,hz,by rw[has_p64 _ (nd_rng he hi z hz).1 (nd_rng he hi z hz).2]at h;exact h⟩
   ·rintro⟨z,hz,h⟩;exact⟨z,hz,by rw[has_p64 _ (nd_rng he hi z hz).1 (nd_rng he hi z hz).2];exact h⟩
  rw[e1,List.not_any_eq_all_not,List.not_any_eq_all_not]
  cases hlo:s.lo i with
  |false=>simp[nOK,hlo]
  |true=>
   have ek:kOK L s i=fun k=> !((decide (i≠k)&&s.lo k)&&cf L i k):=rfl
   have en:nOK s i=fun z=> !(s.lo i&&(s.po z.1.toNat != z.2)):=rfl
   rw[ek,en]
   simp only[hlo,Bool.not_true,Bool.false_or,Bool.true_and]
 constructor
 ·intro h i hi;rw[←key i (List.mem_range.1 hi)];exact h i hi
 ·intro h i hi;rw[key i (List.mem_range.1 hi)];exact h i hi
set_option maxHeartbeats 2000000 in
theorem t21{H:AHeap}{b:Nat}{L:Ly}(h:MaA H b L)(he:checkE L=0)(s:Sta):∃w H',ARun Tryz.prog 0 21 [ptr b 0,.agg (stl s).toArray] H w H'∧w=.bool (rgtD L s)∧H'=H:=by
 rw[←rga_eq he]
 refine gcb ?_
 refine walk2 f21_ok f21_n ?_
 intro Q hq1 hq2
 have hLm:=may_lim (check_may he)
 have lr:=hLm.r
 obtain⟨K0,hK0⟩:∃X,X=H.alloc (.cells true false 68 (stl s) 37):=⟨_,rfl⟩
 have k0:Keeps H K0:=by rw[hK0];exact(Keeps.refl H).alloc _
 have gs0:K0.get H.n=some (.cells true false 68 (stl s) 37):=by rw[hK0];exact AHeap.get_alloc_new H _
 have tT:=t19 (h.keeps k0) lr s
 obtain⟨vl,vi,ls,own,room,T,gb,sl,ok,si⟩:=h.x
 have gb0:=k0.at_ gb
 have isl:=Sl.is sl
 have lenl:lenS vl=L.r.length:=by have:=Sl.len sl;simpa[arows]using this
 have bl:=AHeap.get_lt gb
 have eqs0:=fun K neg a b=>eq_stl K neg a b
 have l0:=AHeap.get_lt gs0
 unfold amc at gb0
 simp(disch:=first|assumption|omega)only[f21,W_block,P3,seval,initFr,clsA,stl_one,stl_len,rng68]
 rw[←hK0]
 refine callK tT ?_
 rintro _ X ⟨rfl,hX⟩
 rw[hX]
 cases hst:staB (tidyS L s) s with
 |false=>
  have hr:rgtA L s=false:=by unfold rgtA;rw[hst];rfl
  simp(disch:=first|assumption|omega|(simp only[LN]<;>omega)|(simp(disch:=first|assumption|omega|(simp only[LN]<;>omega))only[row_alloc,row_set];assumption))only[W_block,P3,↓reduceIte,reduceAdd,reduceEqDiff,reduceCtorEq,initFr,reduceLT,clsA,reduceLeDiff,reduceMul,reduceSub,reduceIte,gs0,l0,rng68,O68K_r,eqs0,hst]
  exact hq2 _ _ ⟨.bool false,rfl,by rw[hr],k0⟩
 |true=>
 have hr:rgtA L s=(List.range L.r.length).all (rgaI L s):=by unfold rgtA;rw[hst];rfl
 simp(disch:=first|assumption|omega|(simp only[LN]<;>omega)|(simp(disch:=first|assumption|omega|(simp only[LN]<;>omega))only[row_alloc,row_set];assumption))only[P3,↓reduceIte,reduceAdd,reduceEqDiff,reduceCtorEq,initFr,reduceLT,clsA,reduceLeDiff,reduceMul,reduceSub,reduceIte,gs0,l0,rng68,O68K_r,eqs0,hst,gb0,isl,lenl]
 rw[W_block]
 obtain⟨A2,hA2⟩:∃v:Value,v=.agg (stl s).toArray:=⟨_,rfl⟩
 rw[←hA2]
 refine W_loop2 (fun q fr K=>∃i x4 x5 x10 x11 x12,fr=[ptr b 0,A2,ptr H.n 0,.bool false,x4,x5,.bool false,vl,.int .i64 ((L.r.length:Nat):Int),.int .i64 ((i:Nat):Int),x10,x11,x12]∧
  Keeps K0 K∧(List.range i).all (rgaI L s)=true∧i≤L.r.length∧q=L.r.length-i) L.r.length
  ⟨0,_,_,_,_,_,rfl,Keeps.refl _,rfl,by omega,rfl⟩ ?_
 rintro Q' q fr K ⟨i,x4,x5,x10,x11,x12,rfl,kK,hall,hi,rfl⟩ hn' hx' hret
 by_cases hlt:i<L.r.length
 ·have iN:i<64:=by omega
  have e0:(0:Int)≤(i:Int):=by omega
  have e1:(i:Int)<((L.r.length:Nat):Int):=by omega
  have hw:IntKind.i64.wrap ((i:Int)+1)=((i+1:Nat):Int):=by rw[wrap_i64 (by omega) (by omega)];simp
  obtain⟨na,ra⟩:=((sl.keeps k0).keeps kK).at_ (by omega) (i:=i) (by simp[arows];exact hlt)
  have era:(arows L ls L.r.length)[i]'(by simp[arows];exact hlt)=arow L i (ls i):=by simp[arows]
  rw[era]at ra
  have oki:=((ok i hlt).keeps k0).keeps kK
  have w1:=one_isS (Sl.is oki.t.s)
  have w2:=one_isS (Sl.is oki.n.s)
  have w3:=one_isS (Sl.is oki.c.s)
  have w4:∀x:Int,one1 (Value.int .i64 x)=True:=fun x=>by simp[one1,one_int]
  have snoc:=fun e=>all_snoc (p:=rgaI L s) hall e
  have bad:=fun e=>all_at (p:=rgaI L s) hlt e
  have hrg:rgaI L s i=(!s.lo i||(!((cfl L i L.r.length).any fun k=>hasB s.lo k)&& !((nds (ro L i)).any fun z=>hasB (p64 s.po) z.1 != z.2))):=rfl
  have gsK:=kK.at_ gs0
  have tIn:=fun K' n h=>t52 (H:=K') s.lo (n:=n) h
  have lcf:=cfl_len L i L.r.length
  have lnd:(nds (ro L i)).length≤32:=by
   have hgood:=check_good he (List.getElem_mem hlt)
   rw[←ro_eq hlt]at hgood
   have:=hgood.lim.q;have:=hgood.lim.f;simp[nds];omega
  unfold arow at ra
  have kKA:=kK.alloc (.cells true false 5 (arow L i (ls i)) 108)
  have gsA:=kKA.at_ gs0
  have okA:=oki.keeps ((Keeps.refl K).alloc (.cells true false 5 (arow L i (ls i)) 108))
  obtain⟨KA,hKA⟩:∃X,X=K.alloc (.cells true false 5 (arow L i (ls i)) 108):=⟨_,rfl⟩
  have gaA:KA.get K.n=some (.cells true false 5 (arow L i (ls i)) 108):=by rw[hKA];exact AHeap.get_alloc_new K _
  rw[←hKA]at kKA gsA okA
  unfold arow at gaA hKA
  have lA:=AHeap.get_lt gsA
  have lA2:=AHeap.get_lt gaA
  simp(disch:=first|assumption|omega|(simp only[LN]<;>omega)|(simp(disch:=first|assumption|omega|(simp only[LN]<;>omega))only[row_alloc,row_set];assumption))only[W_block,P3,seval,initFr,clsA,e1,lenl,na,ra,a_loadnvf,w1,w2,w3,w4]
  rw[←hKA]
  simp(disch:=first|assumption|omega)only[W_block,P3,seval,initFr,clsA,gsA,stl_0]
  refine callK (t52 _ e0) ?_
  rintro _ X ⟨rfl,hX⟩
  rw[hX,has_nat _ iN]
  cases h1:s.lo i with
  |false=>
   rw[h1]at hrg
   simp(disch:=first|assumption|omega)only[W_block,P3,seval,initFr,clsA,hw]
   exact hn' _ _ _ ⟨i+1,_,_,_,_,_,rfl,kKA,snoc hrg,by omega,rfl⟩ (by omega)
  |true=>
  rw[h1]at hrg
  simp(disch:=first|assumption|omega)only[W_block,P3,seval,initFr,clsA,gsA,gaA]
  refine callQ (t55 okA.c.s (by omega) (p:=fun k=>hasB s.lo k) (fun x hx=>t56 gsA (cfl_0 x hx).1)) ?_
  cases h2:(cfl L i L.r.length).any fun k=>hasB s.lo k with
  |true=>
   rw[h2]at hrg
   simp(disch:=first|assumption|omega)only[W_block,P3,seval,initFr,clsA]
   refine hret _ _ ?_
   exact hq2 _ _ ⟨_,rfl,by rw[hr,bad hrg];rfl,k0.trans kKA⟩
  |false=>
  rw[h2]at hrg
  simp(disch:=first|assumption|omega)only[W_block,P3,seval,initFr,clsA,gsA,gaA]
  refine callQ (t57 okA.n.s (by omega) (p:=fun z=>hasB (p64 s.po) z.1 != z.2) (fun z hz=>t58 gsA (nd_rng he hlt z hz).1)) ?_
  cases h3:(nds (ro L i)).any fun z=>hasB (p64 s.po) z.1 != z.2 with
  |true=>
   rw[h3]at hrg
   simp(disch:=first|assumption|omega)only[W_block,P3,seval,initFr,clsA]
   refine hret _ _ ?_
   exact hq2 _ _ ⟨_,rfl,by rw[hr,bad hrg];rfl,k0.trans kKA⟩
  |false=>
   rw[h3]at hrg
   simp(disch:=first|assumption|omega)only[W_block,P3,seval,initFr,clsA,hw]
   exact hn' _ _ _ ⟨i+1,_,_,_,_,_,rfl,kKA,snoc hrg,by omega,rfl⟩ (by omega)
 ·have e1:¬((i:Nat):Int)<((L.r.length:Nat):Int):=by omega
  have hie:i=L.r.length:=by omega
  subst hie
  simp(disch:=first|assumption|omega)only[W_block,P3,seval,initFr,clsA,e1]
  refine hx' _ _ _ ?_
  simp(disch:=first|assumption|omega)only[W_block,P3,seval,initFr,clsA]
  exact hq2 _ _ ⟨_,rfl,by rw[hr,hall];rfl,k0.trans kK⟩
end Go.AM.Fd

set_option maxRecDepth 8000
namespace Go.AM.Fd
open Nat (reduceAdd reduceEqDiff reduceLT reduceLeDiff reduceMul reduceSub)
open Go.Proofs Go.AM.F
def cyl(b:Nat)(s:Sta)(x:Inp)(cv:Value)(us:Nat→Bool):List Value:=ptr b 0::(stl s++[S64 x.oc,S32 x.nr,S32 x.rv,cv,S64 us])
theorem cyl_len(b:Nat)(s:Sta)(x:Inp)(cv:Value)(us:Nat→Bool):(cyl b s x cv us).length=74:=by simp[cyl,stl_len]
section
variable {b:Nat} {s:Sta} {x:Inp} {cv:Value} {us:Nat→Bool}
theorem cyl_s{i:Nat}(h:i<68):(cyl b s x cv us)[i+1]? =(stl s)[i]? :=by
 show(stl s++_)[i]? =_
 rw[List.getElem?_append_left (by rw[stl_len];exact h)]
theorem cyl_e{i:Nat}:(cyl b s x cv us)[i+69]? =[S64 x.oc,S32 x.nr,S32 x.rv,cv,S64 us][i]? :=by
 show(stl s++_)[i+68]? =_
 rw[List.getElem?_append_right (by rw[stl_len];omega),stl_len];rfl
theorem cyl_0:(cyl b s x cv us)[0]? =some (ptr b 0):=rfl
theorem cyl_1:(cyl b s x cv us)[1]? =some (S64 s.lo):=(cyl_s (by omega)).trans (stl_0 s)
theorem cyl_2:(cyl b s x cv us)[2]? =some (S64 s.us):=(cyl_s (by omega)).trans (stl_1 s)
theorem cyl_3:(cyl b s x cv us)[3]? =some (S64 s.ca):=(cyl_s (by omega)).trans (stl_2 s)
theorem cyl_68:(cyl b s x cv us)[68]? =some (S32 s.po):=(cyl_s (by omega)).trans (stl_67 s)
theorem cyl_69:(cyl b s x cv us)[69]? =some (S64 x.oc):=cyl_e (i:=0)
theorem cyl_73:(cyl b s x cv us)[73]? =some (S64 us):=cyl_e (i:=4)
theorem cyl_t{i:Nat}(h:i<64):(cyl b s x cv us)[4+i]? =some (.int .u8 (s.ti i:Nat)):=by
 have e:4+i=(3+i)+1:=by omega
 rw[e,cyl_s (by omega),stl_t s h]
theorem cyl_set{i:Nat}(h:i<68)(v:Value){s':Sta}(hs:(stl s).set i v=stl s'):(cyl b s x cv us).set (i+1) v=cyl b s' x cv us:=by
 show _::(stl s++_).set i v=_
 rw[List.set_append_left _ _ (by rw[stl_len];exact h),hs];rfl
theorem cys_1(f:Nat→Bool):(cyl b s x cv us).set 1 (S64 f)=cyl b {s with lo:=f} x cv us:=cyl_set (by omega) _ (set_0 s f)
theorem cys_2(f:Nat→Bool):(cyl b s x cv us).set 2 (S64 f)=cyl b {s with us:=f} x cv us:=cyl_set (by omega) _ (set_1 s f)
theorem cys_3(f:Nat→Bool):(cyl b s x cv us).set 3 (S64 f)=cyl b {s with ca:=f} x cv us:=cyl_set (by omega) _ (set_2 s f)
theorem cys_68(f:Nat→Bool):(cyl b s x cv us).set 68 (S32 f)=cyl b {s with po:=f} x cv us:=cyl_set (by omega) _ (set_67 s f)
theorem cys_t{i:Nat}(h:i<64)(n:Nat):(cyl b s x cv us).set (4+i) (.int .u8 (n:Nat))=cyl b {s with ti:=upd s.ti i n} x cv us:=by
 have e:4+i=(3+i)+1:=by omega
 rw[e];exact cyl_set (by omega) _ (set_t s h n)
theorem cys_t0{i:Nat}(h:i<64):(cyl b s x cv us).set (4+i) (.int .u8 0)=cyl b {s with ti:=upd s.ti i 0} x cv us:=cys_t h 0
theorem cys_t20{i:Nat}(h:i<64):(cyl b s x cv us).set (4+i) (.int .u8 20)=cyl b {s with ti:=upd s.ti i 20} x cv us:=cys_t h 20
theorem cys_73(f:Nat→Bool):(cyl b s x cv us).set 73 (S64 f)=cyl b s x cv f:=by
 show _::(stl s++_).set 72 _=_
 rw[List.set_append_right _ _ (by rw[stl_len];omega),stl_len];rfl
theorem cyl_st:((cyl b s x cv us).drop 1).take 68=stl s:=by
 show(stl s++_).take 68=_
 rw[List.take_append_of_le_length (by rw[stl_len];omega),List.take_of_length_le (by rw[stl_len];omega)]
theorem cyl_in:((cyl b s x cv us).drop 69).take 4=inl x cv:=by
 have e:cyl b s x cv us=(ptr b 0::stl s)++[S64 x.oc,S32 x.nr,S32 x.rv,cv,S64 us]:=rfl
 rw[e,List.drop_append,List.drop_of_length_le (by simp[stl_len])]
 simp[stl_len,inl]
theorem rng_cys(o r:Bool)(T:Nat):rangeO (some (.cells o r 74 (cyl b s x cv us) T)) 1 68=some (stl s):=by
 rw[rangeO_c,if_pos (by rw[cyl_len];omega),cyl_st]
theorem rng_cyi(o r:Bool)(T:Nat):rangeO (some (.cells o r 74 (cyl b s x cv us) T)) 69 4=some (inl x cv):=by
 rw[rangeO_c,if_pos (by rw[cyl_len];omega),cyl_in]
end
def CyR(H:AHeap)(c b:Nat)(s:Sta)(x:Inp)(cv:Value)(us:Nat→Bool):Prop:=H.get c=some (.cells true false 74 (cyl b s x cv us) 111)
section
variable {H:AHeap} {c b:Nat} {s:Sta} {x:Inp} {cv:Value} {us:Nat→Bool}
theorem t88(h:CyR H c b s x cv us){n:Int}(hn:0≤n):∃w H',ARun Tryz.prog 0 88 [ptr c 0,.int .i64 n] H w H'∧w=.bool (!hasB x.oc n)∧H'=H:=by
 refine walk2 f88_ok f88_n ?_
 intro Q hq1 hq2
 unfold CyR at h
 simp(disch:=first|assumption|omega)only[f88,W_block,P3,seval,initFr,clsA,h,cyl_69]
 refine callQ (t52 _ hn) ?_
 simp(disch:=first|assumption|omega)only[W_block,P3,seval,initFr,clsA]
 exact hq2 _ _ ⟨_,rfl,rfl,rfl⟩
theorem t49(h:CyR H c b s x cv us){n:Int}(hn:0≤n):∃w H',ARun Tryz.prog 0 49 [ptr c 0,.int .i64 n] H w H'∧w=.bool (hasB s.lo n)∧H'=H:=by
 refine walk2 f49_ok f49_n ?_
 intro Q hq1 hq2
 unfold CyR at h
 simp(disch:=first|assumption|omega)only[f49,W_block,P3,seval,initFr,clsA,h,cyl_1]
 refine callQ (t52 _ hn) ?_
 simp(disch:=first|assumption|omega)only[W_block,P3,seval,initFr,clsA]
 exact hq2 _ _ ⟨_,rfl,rfl,rfl⟩
theorem t126(h:CyR H c b s x cv us){p T:Nat}{o r:Bool}(hp:H.get p=some (.cells o r 1 [ptr c 0] T)){n:Int}(hn:0≤n):∃w H',ARun Tryz.prog 0 126 [.int .i64 n,ptr p 0] H w H'∧w=.bool (hasB x.oc n)∧H'=H:=by
 refine walk2 f126_ok f126_n ?_
 intro Q hq1 hq2
 simp(disch:=first|assumption|omega)only[f126,W_block,P3,seval,initFr,clsA,hp]
 refine callQ (t88 h hn) ?_
 simp(disch:=first|assumption|omega)only[W_block,P3,seval,initFr,clsA]
 exact hq2 _ _ ⟨.bool _,rfl,by simp,rfl⟩
end
theorem tr_rng{L:Ly}(he:checkE L=0){i:Nat}(hi:i<L.r.length):∀z∈trk (ro L i),0≤z:=by
 intro z hz
 exact((check_good he (List.getElem_mem hi)).tr z (by rw[←ro_eq hi];exact hz)).1
theorem tr_len{L:Ly}(he:checkE L=0){i:Nat}(hi:i<L.r.length):(trk (ro L i)).length≤1000000:=by
 have hgood:=check_good he (List.getElem_mem hi)
 rw[←ro_eq hi]at hgood
 have:=hgood.lim.p;have:=hgood.lim.o;simp[trk];omega
theorem nd_len{L:Ly}(he:checkE L=0){i:Nat}(hi:i<L.r.length):(nds (ro L i)).length≤32:=by
 have hgood:=check_good he (List.getElem_mem hi)
 rw[←ro_eq hi]at hgood
 have:=hgood.lim.q;have:=hgood.lim.f;simp[nds];omega
theorem MaA.row{H:AHeap}{L:Ly}{vl:Value}{ls:Nat→V3}(sl:Sl H 5 vl (arows L ls L.r.length)){i:Nat}(hi:i<L.r.length):nnS vl=true∧rowA H 5 vl i=some (arow L i (ls i)):=by
 obtain⟨na,ra⟩:=sl.at_ (by omega) (i:=i) (by simp[arows];exact hi)
 refine⟨na,?_⟩
 rw[ra];simp[arows]
theorem t87{H:AHeap}{c b:Nat}{s:Sta}{x:Inp}{cv:Value}{us:Nat→Bool}{L:Ly}(h:CyR H c b s x cv us)(hm:MaA H b L)(he:checkE L=0){i:Nat}(hi:i<L.r.length):
 ∃w H',ARun Tryz.prog 0 87 [ptr c 0,.int .i64 (i:Nat)] H w H'∧w=.bool (frD x (ro L i))∧H'=H:=by
 refine gcb ?_
 refine walk2 f87_ok f87_n ?_
 intro Q hq1 hq2
 have lr:=(may_lim (check_may he)).r
 obtain⟨vl,vi,ls,own,room,T,gb,sl,ok,si⟩:=hm.x
 have isl:=Sl.is sl
 have lenl:lenS vl=L.r.length:=by have:=Sl.len sl;simpa[arows]using this
 have e0:(0:Int)≤(i:Int):=by omega
 have e1:(i:Int)<((L.r.length:Nat):Int):=by omega
 obtain⟨K0,hK0⟩:∃X,X=H.alloc (.cells true false 1 [ptr c 0] 109):=⟨_,rfl⟩
 have k0:Keeps H K0:=by rw[hK0];exact(Keeps.refl H).alloc _
 have gp0:K0.get H.n=some (.cells true false 1 [ptr c 0] 109):=by rw[hK0];exact AHeap.get_alloc_new H _
 have h0:CyR K0 c b s x cv us:=k0.at_ h
 have gb0:=k0.at_ gb
 obtain⟨na,ra⟩:=MaA.row (sl.keeps k0) hi
 have oki:=(ok i hi).keeps k0
 have gc0:=h0
 unfold CyR at gc0
 unfold amc at gb0
 unfold arow at ra
 have tF:=t55 oki.t.s (tr_len he hi) (p:=fun z=>hasB x.oc z) (g:=126) (fi:= #[]) (ca:= #[ptr H.n 0]) (fun z hz=>t126 h0 gp0 (tr_rng he hi z hz))
 simp(disch:=first|assumption|omega)only[f87,W_block,P3,seval,initFr,clsA]
 rw[←hK0]
 simp(disch:=first|assumption|omega)only[W_block,P3,seval,initFr,clsA,gp0,gc0,cyl_0,gb0,isl,lenl,na,ra,e0,e1,a_load1v]
 refine callK tF ?_
 rintro _ X ⟨rfl,hX⟩
 rw[hX]
 simp(disch:=first|assumption|omega)only[W_block,P3,seval,initFr,clsA]
 refine hq2 _ _ ⟨.bool _,rfl,?_,k0⟩
 unfold frD
 rw[←List.not_any_eq_all_not]
theorem t89{H:AHeap}{x:Inp}{p q T T':Nat}{o r o' r':Bool}(hp:H.get p=some (.cells o r 1 [S32 (sideR x)] T))(hq:H.get q=some (.cells o' r' 1 [S32 (sideN x)] T')){z:Int×Bool}(h:0≤z.1∧z.1<32):
 ∃w H',ARun Tryz.prog 0 89 [.agg (nRow z).toArray,ptr p 0,ptr q 0] H w H'∧w=.bool (!(if z.2 then sideR x z.1.toNat else sideN x z.1.toNat))∧H'=H:=by
 refine gcb ?_
 refine walk2 f89_ok f89_n ?_
 intro Q hq1 hq2
 obtain⟨zp,zb⟩:=z
 simp only at h
 have kA:=(Keeps.refl H).alloc (.cells true false 2 [.int .i64 zp,.bool zb] 55)
 have lp:=AHeap.get_lt hp
 have lq:=AHeap.get_lt hq
 have np:¬p=H.n:=by omega
 have nq:¬q=H.n:=by omega
 have e1:S64 (fun i=>decide (i<32)&&sideR x i)=S64 (p64 (sideR x)):=rfl
 have e2:S64 (fun i=>decide (i<32)&&sideN x i)=S64 (p64 (sideN x)):=rfl
 unfold nRow
 cases zb with
 |true=>
  simp(disch:=first|assumption|omega)only[f89,W_block,P3,seval,initFr,clsA,hp,hq,lp,lq,np,nq,s_up]
  rw[e1]
  refine callK (t52 _ h.1) ?_
  rintro _ X ⟨rfl,hX⟩
  rw[hX,has_p64 _ h.1 h.2]
  simp(disch:=first|assumption|omega)only[W_block,P3,seval,initFr,clsA]
  exact hq2 _ _ ⟨.bool _,rfl,rfl,kA⟩
 |false=>
  simp(disch:=first|assumption|omega)only[f89,W_block,P3,seval,initFr,clsA,hp,hq,lp,lq,np,nq,s_up]
  rw[e2]
  refine callK (t52 _ h.1) ?_
  rintro _ X ⟨rfl,hX⟩
  rw[hX,has_p64 _ h.1 h.2]
  simp(disch:=first|assumption|omega)only[W_block,P3,seval,initFr,clsA]
  exact hq2 _ _ ⟨.bool _,rfl,rfl,kA⟩
set_option maxHeartbeats 1000000 in
theorem t51{H:AHeap}{c b:Nat}{s:Sta}{x:Inp}{cv:Value}{us:Nat→Bool}{L:Ly}(h:CyR H c b s x cv us)(hm:MaA H b L)(he:checkE L=0)(hcv:isS cv=true){i:Nat}(hi:i<L.r.length):
 ∃w H',ARun Tryz.prog 0 51 [ptr c 0,.int .i64 (i:Nat)] H w H'∧w=.bool (proD L x s i)∧H'=H:=by
 refine gcb ?_
 refine walk2 f51_ok f51_n ?_
 intro Q hq1 hq2
 have lr:=(may_lim (check_may he)).r
 obtain⟨vl,vi,ls,own,room,T,gb,sl,ok,si⟩:=hm.x
 have isl:=Sl.is sl
 have lenl:lenS vl=L.r.length:=by have:=Sl.len sl;simpa[arows]using this
 have e0:(0:Int)≤(i:Int):=by omega
 have e1:(i:Int)<((L.r.length:Nat):Int):=by omega
 have iN:i<64:=by omega
 have gc:=h
 unfold CyR at gc
 have hp:proD L x s i=((((s.lo i&& !s.us i)&& !s.ca i)&&frD x (ro L i))&&(nds (ro L i)).all fun z=>if z.2 then sideR x z.1.toNat else sideN x z.1.toNat):=rfl
 simp(disch:=first|assumption|omega)only[f51,W_block,P3,seval,initFr,clsA]
 refine callK (t49 h e0) ?_
 rintro _ X ⟨rfl,hX⟩
 rw[hX,has_nat _ iN]
 cases h1:s.lo i with
 |false=>
  rw[h1]at hp
  simp(disch:=first|assumption|omega)only[W_block,P3,seval,initFr,clsA]
  exact hq2 _ _ ⟨.bool _,rfl,by rw[hp];rfl,Keeps.refl _⟩
 |true=>
 rw[h1]at hp
 simp(disch:=first|assumption|omega)only[W_block,P3,seval,initFr,clsA,gc,cyl_2]
 refine callK (t52 _ e0) ?_
 rintro _ X ⟨rfl,hX⟩
 rw[hX,has_nat _ iN]
 cases h2:s.us i with
 |true=>
  rw[h2]at hp
  simp(disch:=first|assumption|omega)only[W_block,P3,seval,initFr,clsA]
  exact hq2 _ _ ⟨.bool _,rfl,by rw[hp];rfl,Keeps.refl _⟩
 |false=>
 rw[h2]at hp
 simp(disch:=first|assumption|omega)only[W_block,P3,seval,initFr,clsA,gc,cyl_3]
 refine callK (t52 _ e0) ?_
 rintro _ X ⟨rfl,hX⟩
 rw[hX,has_nat _ iN]
 cases h3:s.ca i with
 |true=>
  rw[h3]at hp
  simp(disch:=first|assumption|omega)only[W_block,P3,seval,initFr,clsA]
  exact hq2 _ _ ⟨.bool _,rfl,by rw[hp];rfl,Keeps.refl _⟩
 |false=>
 rw[h3]at hp
 simp(disch:=first|assumption|omega)only[W_block,P3,seval,initFr,clsA]
 refine callQ (t87 h hm he hi) ?_
 cases h4:frD x (ro L i)with
 |false=>
  rw[h4]at hp
  simp(disch:=first|assumption|omega)only[W_block,P3,seval,initFr,clsA]
  exact hq2 _ _ ⟨.bool _,rfl,by rw[hp];rfl,Keeps.refl _⟩
 |true=>
 rw[h4]at hp
 have hinl:inl x cv=[S64 x.oc,S32 x.nr,S32 x.rv,cv]:=rfl
 have tS:=fun K=>t40 (H:=K) (x:=x) (cv:=cv) hcv
 simp(disch:=first|assumption|omega)only[W_block,P3,seval,initFr,clsA,gc,rng_cyi]
 refine callQ (tS _) ?_
 obtain⟨K0,hK0⟩:∃X,X=(H.alloc (.cells true false 1 [S32 (sideN x)] 35)).alloc (.cells true false 1 [S32 (sideR x)] 35):=⟨_,rfl⟩
 have k0:Keeps H K0:=by rw[hK0];exact((Keeps.refl H).alloc _).alloc _
 have gp0:K0.get H.n=some (.cells true false 1 [S32 (sideN x)] 35):=by rw[hK0];exact((Keeps.refl _).alloc _).at_ (AHeap.get_alloc_new H _)
 have gq0:K0.get (H.n+1)=some (.cells true false 1 [S32 (sideR x)] 35):=by rw[hK0];exact AHeap.get_alloc_new (H.alloc _) _
 have gc0:=k0.at_ gc
 have gb0:=k0.at_ gb
 obtain⟨na,ra⟩:=MaA.row (sl.keeps k0) hi
 have oki:=(ok i hi).keeps k0
 unfold amc at gb0
 unfold arow at ra
 have tF:=t57 oki.n.s (Nat.le_trans (nd_len he hi) (by omega)) (p:=fun z=> !(if z.2 then sideR x z.1.toNat else sideN x z.1.toNat)) (g:=89) (fi:= #[]) (ca:= #[ptr (H.n+1) 0,ptr H.n 0]) (fun z hz=>t89 gq0 gp0 (nd_rng he hi z hz))
 simp(disch:=first|assumption|omega|(simp only[LN]<;>omega)|(simp(disch:=first|assumption|omega|(simp only[LN]<;>omega))only[row_alloc,row_set];assumption))only[W_block,P3,seval,initFr,clsA,o_s32,one_s32]
 rw[←hK0]
 simp(disch:=first|assumption|omega)only[W_block,P3,seval,initFr,clsA,gc0,cyl_0,gb0,isl,lenl,na,ra,e0,e1,a_load1v]
 refine callK tF ?_
 rintro _ X ⟨rfl,hX⟩
 rw[hX]
 simp(disch:=first|assumption|omega)only[W_block,P3,seval,initFr,clsA]
 refine hq2 _ _ ⟨.bool _,rfl,?_,k0⟩
 rw[hp]
 have en:∀l:List (Int×Bool),(!(l.any fun z=> !(if z.2 then sideR x z.1.toNat else sideN x z.1.toNat)))=l.all fun z=>if z.2 then sideR x z.1.toNat else sideN x z.1.toNat:=fun l=>by
  rw[List.not_any_eq_all_not];congr 1;funext z;simp
 rw[←en];rfl
end Go.AM.Fd

set_option maxRecDepth 8000
namespace Go.AM.Fd
open Nat (reduceAdd reduceEqDiff reduceLT reduceLeDiff reduceMul reduceSub)
open Go.Proofs Go.AM.F
theorem pa_rng{L:Ly}(he:checkE L=0){i:Nat}(hi:i<L.r.length):0≤(ro L i).path.getD 0 0:=by
 have hg:=check_good he (List.getElem_mem hi)
 rw[←ro_eq hi]at hg
 have hne:=hg.ne
 refine(hg.tr _ ?_).1
 refine List.mem_append_left _ ?_
 rw[List.getD_eq_getElem?_getD,List.getElem?_eq_getElem hne]
 exact List.getElem_mem hne
set_option maxHeartbeats 4000000 in
theorem t50{H:AHeap}{c b:Nat}{s:Sta}{x:Inp}{cv:Value}{us:Nat→Bool}{L:Ly}(h:CyR H c b s x cv us)(hm:MaA H b L)(he:checkE L=0)(hti:∀j,s.ti j<256){i:Nat}(hi:i<L.r.length):
 ∃w H',ARun Tryz.prog 0 50 [ptr c 0,.int .i64 (i:Nat)] H w H'∧Chg [c] H H'∧CyR H' c b (roD L x us s i) x cv us:=by
 refine walk2 f50_ok f50_n ?_
 intro Q hq1 hq2
 have lr:=(may_lim (check_may he)).r
 obtain⟨vl,vi,ls,own,room,T,gb,sl,ok,si⟩:=hm.x
 have isl:=Sl.is sl
 have lenl:lenS vl=L.r.length:=by have:=Sl.len sl;simpa[arows]using this
 have e0:(0:Int)≤(i:Int):=by omega
 have e1:(i:Int)<((L.r.length:Nat):Int):=by omega
 have e64:(i:Int)<64:=by omega
 have iN:i<64:=by omega
 have gc:=h
 unfold CyR at gc
 have cl:=AHeap.get_lt gc
 obtain⟨na,ra⟩:=MaA.row sl hi
 have oki:=ok i hi
 have w1:=one_isS (Sl.is oki.t.s)
 have w2:=one_isS (Sl.is oki.n.s)
 have w3:=one_isS (Sl.is oki.c.s)
 have w4:∀x:Int,one1 (Value.int .i64 x)=True:=fun x=>by simp[one1,one_int]
 obtain⟨K0,hK0⟩:∃X,X=H.alloc (.cells true false 5 (arow L i (ls i)) 108):=⟨_,rfl⟩
 have k0:Keeps H K0:=by rw[hK0];exact(Keeps.refl H).alloc _
 have gr0:K0.get H.n=some (.cells true false 5 (arow L i (ls i)) 108):=by rw[hK0];exact AHeap.get_alloc_new H _
 have gc0:=k0.at_ gc
 have h0:CyR K0 c b s x cv us:=gc0
 have hm0:=hm.keeps k0
 have gcx:∀o,(K0.set c o).get c=some o:=fun o=>AHeap.get_set_same gc0 o
 have cl0:=AHeap.get_lt gc0
 have rl0:=AHeap.get_lt gr0
 have hro:roD L x us s i=(if us i then(if frD x (ro L i)then relS s i else s)
  else if hasB x.oc ((ro L i).path.getD 0 0)then{s with us:=fun j=>s.us j||decide (j=i)}
  else if s.ca i&&decide (0<s.ti i)then{s with ti:=upd s.ti i (s.ti i-1)}
  else if s.ca i&&frD x (ro L i)then relS s i
  else s):=rfl
 have hrel:relS s i=⟨fun j=>s.lo j&& !decide (j=i),fun j=>s.us j&& !decide (j=i),fun j=>s.ca j&& !decide (j=i),upd s.ti i 0,s.po⟩:=rfl
 have fin:∀{fr:List Value} (t:Sta),roD L x us s i=t→resO f50.res fr (K0.set c (.cells true false 74 (cyl b t x cv us) 111))=some (.tuple #[])→Q .normal fr (K0.set c (.cells true false 74 (cyl b t x cv us) 111)):=fun t e hr=>
  hq1 _ _ ⟨_,hr,(k0.chg [c]).trans (Chg.set K0 cl0 _) (by simp),by unfold CyR;rw[e];exact gcx _⟩
 have fin0:∀{fr:List Value},roD L x us s i=s→resO f50.res fr K0=some (.tuple #[])→Q .normal fr K0:=fun e hr=>
  hq1 _ _ ⟨_,hr,k0.chg [c],by rw[e];exact h0⟩
 unfold amc at gb
 unfold arow at ra gr0 hK0
 have sh:=s_shl1 iN
 have hp0:=pa_rng he hi
 have z0:=fun t:Sta=>cys_t0 (b:=b) (s:=t) (x:=x) (cv:=cv) (us:=us) iN
 have z1:=cys_t (b:=b) (s:=s) (x:=x) (cv:=cv) (us:=us) iN (s.ti i-1)
 have ct:=cyl_t (b:=b) (s:=s) (x:=x) (cv:=cv) (us:=us) iN
 have hll:4+i<74:=by omega
 have rel:∀{fr:List Value},roD L x us s i=relS s i→resO f50.res fr (K0.set c (.cells true false 74 (cyl b ⟨fun j=>s.lo j&& !decide (j=i),fun j=>s.us j&& !decide (j=i),fun j=>s.ca j&& !decide (j=i),upd s.ti i 0,s.po⟩ x cv us) 111))=some (.tuple #[])→Q .normal fr (K0.set c (.cells true false 74 (cyl b ⟨fun j=>s.lo j&& !decide (j=i),fun j=>s.us j&& !decide (j=i),fun j=>s.ca j&& !decide (j=i),upd s.ti i 0,s.po⟩ x cv us) 111)):=fun e hr=>fin _ (e.trans hrel) hr
 simp(disch:=first|assumption|omega|(simp only[LN]<;>omega)|(simp(disch:=first|assumption|omega|(simp only[LN]<;>omega))only[row_alloc,row_set];assumption))only[f50,P3,seval,initFr,clsA,gc,cyl_0,gb,isl,lenl,na,ra,e0,e1,a_loadnvf,w1,w2,w3,w4]
 rw[←hK0]
 simp(disch:=first|assumption|omega)only[W_block,P3,seval,initFr,clsA,gc0,cyl_73]
 refine callK (t52 _ e0) ?_
 rintro _ X ⟨rfl,hX⟩
 rw[hX,has_nat _ iN]
 cases h1:us i with
 |true=>
  rw[h1]at hro
  simp(disch:=first|assumption|omega)only[W_block,P3,seval,initFr,clsA]
  refine callQ (t87 h0 hm0 he hi) ?_
  cases h2:frD x (ro L i)with
  |true=>
   rw[h2]at hro
   simp(disch:=first|assumption|omega)only[W_block,P3,seval,initFr,clsA,gc0,gcx,cl0,cyl_len,cyl_1,cyl_2,cyl_3,cys_1,cys_2,cys_3,z0,hll,sh,s_andn,o_s64,one_s64,e0,e64,a_iaddrp,Int.toNat_natCast,Nat.mul_one]
   exact rel hro rfl
  |false=>
   rw[h2]at hro
   simp(disch:=first|assumption|omega)only[W_block,P3,seval,initFr,clsA]
   exact fin0 hro rfl
 |false=>
 rw[h1]at hro
 simp(disch:=first|assumption|omega)only[W_block,P3,seval,initFr,clsA,gr0,rl0]
 refine callQ (t88 h0 hp0) ?_
 cases h2:hasB x.oc ((ro L i).path.getD 0 0)with
 |true=>
  rw[h2]at hro
  simp(disch:=first|assumption|omega)only[W_block,P3,seval,initFr,clsA,gc0,gcx,cl0,cyl_len,cyl_1,cyl_2,cyl_3,cys_1,cys_2,cys_3,sh,s_or,o_s64,one_s64,e0,e64,a_iaddrp,Int.toNat_natCast,Nat.mul_one]
  exact fin _ hro rfl
 |false=>
 rw[h2]at hro
 simp(disch:=first|assumption|omega)only[W_block,P3,seval,initFr,clsA,gc0,cyl_3]
 refine callK (t52 _ e0) ?_
 rintro _ X ⟨rfl,hX⟩
 rw[hX,has_nat _ iN]
 cases h3:s.ca i with
 |false=>
  rw[h3]at hro
  simp(disch:=first|assumption|omega)only[W_block,P3,seval,initFr,clsA]
  exact fin0 hro rfl
 |true=>
 rw[h3]at hro
 by_cases hp:0<s.ti i
 ·have hp':(0:Int)<((s.ti i:Nat):Int):=by omega
  have hsub:IntKind.u8.wrap (((s.ti i:Nat):Int)-1)=((s.ti i-1:Nat):Int):=by have:=hti i;rw[wrap_u8];omega
  simp(disch:=first|assumption|omega)only[W_block,P3,seval,initFr,clsA,gc0,gcx,cl0,cyl_len,ct,hp',hsub,z1,hll,e0,e64,a_iaddrp,Int.toNat_natCast,Nat.mul_one]
  exact fin _ (by rw[hro];simp[hp]) rfl
 ·have hp':¬(0:Int)<((s.ti i:Nat):Int):=by omega
  simp(disch:=first|assumption|omega)only[W_block,P3,seval,initFr,clsA,gc0,gcx,cl0,cyl_len,ct,hp',hll,e0,e64,a_iaddrp,Int.toNat_natCast,Nat.mul_one]
  refine callQ (t87 h0 hm0 he hi) ?_
  cases h4:frD x (ro L i)with
  |true=>
   rw[h4]at hro
   simp(disch:=first|assumption|omega)only[W_block,P3,seval,initFr,clsA,gc0,gcx,cl0,cyl_len,cyl_1,cyl_2,cyl_3,cys_1,cys_2,cys_3,z0,hll,sh,s_andn,o_s64,one_s64,e0,e64,a_iaddrp,Int.toNat_natCast,Nat.mul_one]
   exact rel (by rw[hro];simp[hp]) rfl
  |false=>
   rw[h4]at hro
   simp(disch:=first|assumption|omega)only[W_block,P3,seval,initFr,clsA]
   exact fin0 (by rw[hro];simp[hp]) rfl
end Go.AM.Fd

set_option maxRecDepth 8000
namespace Go.AM.Fd
open Nat (reduceAdd reduceEqDiff reduceLT reduceLeDiff reduceMul reduceSub)
open Go.Proofs Go.AM.F
theorem lie_rng{L:Ly}(he:checkE L=0){m:Nat}(hm:m<L.p.length):0≤(L.p.getD m ([],0)).2 :=by
 have:=check_may he
 simp only[mayB,inB,Bool.and_eq_true,Bool.not_eq_true',List.all_eq_true,decide_eq_true_eq]at this
 exact(this.2.2.1.1 _ (getD_mem hm)).1
theorem sig_rng{L:Ly}(he:checkE L=0){m:Nat}(hm:m<L.g.length):0≤(L.g.getD m ([],0)).2 :=by
 have:=check_may he
 simp only[mayB,inB,Bool.and_eq_true,Bool.not_eq_true',List.all_eq_true,decide_eq_true_eq]at this
 exact(this.2.2.1.2 _ (getD_mem hm)).1
def setA(L:Ly)(x:Inp)(s:Sta)(i:Nat):Sta:=if setD L x s i then{s with lo:=fun j=>s.lo j||decide (j=i),po:=poD (nds (ro L i)) s.po}else s
theorem po_or(f:Nat→Bool)(m:Nat):(fun p=>f p||decide (p=m))=fun p=>if p=m then true else f p:=by
 funext p;by_cases e:p=m<;>simp[e]
theorem po_an(f:Nat→Bool)(m:Nat):(fun p=>f p&& !decide (p=m))=fun p=>if p=m then false else f p:=by
 funext p;by_cases e:p=m<;>simp[e]
theorem set_cf{L:Ly}{s:Sta}{i:Nat}(hL:L.r.length≤64)(h:s.lo i=false):(List.range L.r.length).all (fun k=> !(s.lo k&&cf L i k))= !((cfl L i L.r.length).any fun k=>hasB s.lo k):=by
 rw[cfl_any hL,List.not_any_eq_all_not,Bool.eq_iff_iff,List.all_eq_true,List.all_eq_true]
 constructor
 ·intro h2 k hk
  have:=h2 k hk
  cases h3:s.lo k<;>simp_all
 ·intro h2 k hk
  have:=h2 k hk
  by_cases e:i=k
  ·subst e;simp[h]
  ·simp[e]at this;cases h3:s.lo k<;>simp_all
set_option maxHeartbeats 4000000 in
theorem t84{H:AHeap}{c b:Nat}{s:Sta}{x:Inp}{cv:Value}{us:Nat→Bool}{L:Ly}(h:CyR H c b s x cv us)(hm:MaA H b L)(he:checkE L=0){i:Nat}(hi:i<L.r.length):
 ∃w H',ARun Tryz.prog 0 84 [ptr c 0,.int .i64 (i:Nat)] H w H'∧Chg [c] H H'∧CyR H' c b (setA L x s i) x cv us:=by
 refine walk2 f84_ok f84_n ?_
 intro Q hq1 hq2
 have lr:=(may_lim (check_may he)).r
 have lpp:=(may_lim (check_may he)).p
 obtain⟨vl,vi,ls,own,room,T,gb,sl,ok,si⟩:=hm.x
 have isl:=Sl.is sl
 have lenl:lenS vl=L.r.length:=by have:=Sl.len sl;simpa[arows]using this
 have e0:(0:Int)≤(i:Int):=by omega
 have e1:(i:Int)<((L.r.length:Nat):Int):=by omega
 have iN:i<64:=by omega
 have gc:=h
 unfold CyR at gc
 have cl:=AHeap.get_lt gc
 obtain⟨na,ra⟩:=MaA.row sl hi
 have oki:=ok i hi
 have w1:=one_isS (Sl.is oki.t.s)
 have w2:=one_isS (Sl.is oki.n.s)
 have w3:=one_isS (Sl.is oki.c.s)
 have w4:∀x:Int,one1 (Value.int .i64 x)=True:=fun x=>by simp[one1,one_int]
 obtain⟨K0,hK0⟩:∃X,X=H.alloc (.cells true false 5 (arow L i (ls i)) 108):=⟨_,rfl⟩
 have k0:Keeps H K0:=by rw[hK0];exact(Keeps.refl H).alloc _
 have gr0:K0.get H.n=some (.cells true false 5 (arow L i (ls i)) 108):=by rw[hK0];exact AHeap.get_alloc_new H _
 have gc0:=k0.at_ gc
 have h0:CyR K0 c b s x cv us:=gc0
 have hm0:=hm.keeps k0
 have gb0:=k0.at_ gb
 have oki0:=oki.keeps k0
 have si0:=si.keeps k0
 have cl0:=AHeap.get_lt gc0
 have rl0:=AHeap.get_lt gr0
 have hset:setD L x s i=((!s.lo i&&frD x (ro L i))&&((List.range L.r.length).all (fun k=> !(s.lo k&&cf L i k))&&(nds (ro L i)).all fun z=> !((s.po z.1.toNat != z.2)&&hasB x.oc (L.p.getD z.1.toNat ([],0)).2))):=rfl
 have hsA:setA L x s i=if setD L x s i then{s with lo:=fun j=>s.lo j||decide (j=i),po:=poD (nds (ro L i)) s.po}else s:=rfl
 have no:∀{fr:List Value} {K:AHeap},Keeps H K→setD L x s i=false→resO f84.res fr K=some (.tuple #[])→Q .ret fr K:=fun k e hr=>
  hq2 _ _ ⟨_,hr,k.chg [c],by rw[hsA,e];exact k.at_ h⟩
 have lcf:=cfl_len L i L.r.length
 have lnd:=nd_len he hi
 have hrng:=nd_rng he hi
 have hndp:∀z∈nds (ro L i),0≤z.1∧z.1<L.p.length:=by
  have hg:=check_good he (List.getElem_mem hi)
  rw[←ro_eq hi]at hg;exact hg.nd
 unfold amc at gb gb0
 unfold arow at ra gr0 hK0
 have sh:=s_shl1 iN
 simp(disch:=first|assumption|omega|(simp only[LN]<;>omega)|(simp(disch:=first|assumption|omega|(simp only[LN]<;>omega))only[row_alloc,row_set];assumption))only[f84,P3,seval,initFr,clsA,gc,cyl_0,gb,isl,lenl,na,ra,e0,e1,a_loadnvf,w1,w2,w3,w4]
 rw[←hK0]
 refine callK (t49 h0 e0) ?_
 rintro _ X ⟨rfl,hX⟩
 rw[hX,has_nat _ iN]
 cases h1:s.lo i with
 |true=>
  rw[h1]at hset
  simp(disch:=first|assumption|omega)only[W_block,P3,seval,initFr,clsA]
  exact no k0 hset rfl
 |false=>
 have hcf:=set_cf (L:=L) (i:=i) lr h1
 rw[h1,hcf]at hset
 simp(disch:=first|assumption|omega)only[W_block,P3,seval,initFr,clsA]
 refine callQ (t87 h0 hm0 he hi) ?_
 cases h2:frD x (ro L i)with
 |false=>
  rw[h2]at hset
  simp(disch:=first|assumption|omega)only[W_block,P3,seval,initFr,clsA]
  exact no k0 (by rw[hset];rfl) rfl
 |true=>
 rw[h2]at hset
 simp(disch:=first|assumption|omega)only[W_block,P3,seval,initFr,clsA,gr0,rl0]
 refine callQ (t55 oki0.c.s (by omega) (p:=fun k=>hasB s.lo k) (g:=49) (fi:= #[ptr c 0]) (ca:= #[]) (fun z hz=>t49 h0 (cfl_0 z hz).1)) ?_
 cases h3:(cfl L i L.r.length).any fun k=>hasB s.lo k with
 |true=>
  rw[h3]at hset
  simp(disch:=first|assumption|omega)only[W_block,P3,seval,initFr,clsA]
  exact no k0 (by rw[hset];rfl) rfl
 |false=>
 rw[h3]at hset
 have isn:=Sl.is oki0.n.s
 have lenn:lenS (ls i).n=(nds (ro L i)).length:=NL.len oki0.n.s
 simp(disch:=first|assumption|omega)only[P3,seval,initFr,clsA,gr0,rl0,isn,lenn]
 rw[W_block]
 have isi:=Sl.is si0
 have leni:lenS vi=L.p.length:=by have:=IL.len si0;simpa using this
 obtain⟨l,hl⟩:∃l,l=nds (ro L i):=⟨_,rfl⟩
 have oln:NL K0 (ls i).n l:=by rw[hl];exact oki0.n.s
 rw[←hl]at hset hsA lnd hrng hndp lenn ⊢
 refine W_loop2 (fun q fr K=>∃j x3 x9 x10,fr=[ptr c 0,.int .i64 ((i:Nat):Int),ptr H.n 0,x3,undef,.bool false,(ls i).n,.int .i64 ((l.length:Nat):Int),.int .i64 ((j:Nat):Int),x9,x10,undef,undef,undef,undef,undef]∧
  Keeps K0 K∧((l.take j).all fun z=> !((s.po z.1.toNat != z.2)&&hasB x.oc (L.p.getD z.1.toNat ([],0)).2))=true∧j≤l.length∧q=l.length-j) l.length
  ⟨0,_,_,_,rfl,Keeps.refl _,by simp,by omega,rfl⟩ ?_
 rintro Q3 q fr K ⟨j,x3,x9,x10,rfl,kK,hj,hjl,rfl⟩ hn3 hx3 hret3
 have gcK:=kK.at_ gc0
 have gbK:=kK.at_ gb0
 by_cases hjlt:j<l.length
 ·obtain⟨nj,rj⟩:=(oln.keeps kK).at_ hjlt
  have j0:(0:Int)≤(j:Int):=by omega
  have j1:(j:Int)<((l.length:Nat):Int):=by omega
  have hw3:IntKind.i64.wrap ((j:Int)+1)=((j+1:Nat):Int):=by rw[wrap_i64 (by omega) (by omega)];simp
  have hgd:l.getD j (0,false)=l[j]:=by rw[List.getD_eq_getElem?_getD,List.getElem?_eq_getElem hjlt];rfl
  have hmem:=List.getElem_mem hjlt
  have hrg:=hrng _ hmem
  have hpp:=hndp _ hmem
  have ok1:(!((s.po l[j].1.toNat != l[j].2)&&hasB x.oc (L.p.getD l[j].1.toNat ([],0)).2))=true→((l.take (j+1)).all fun z=> !((s.po z.1.toNat != z.2)&&hasB x.oc (L.p.getD z.1.toNat ([],0)).2))=true:=fun e=>take_all hjlt hj e
  have bad1:(!((s.po l[j].1.toNat != l[j].2)&&hasB x.oc (L.p.getD l[j].1.toNat ([],0)).2))=false→setD L x s i=false:=fun e=>by
   have:(l.all fun z=> !((s.po z.1.toNat != z.2)&&hasB x.oc (L.p.getD z.1.toNat ([],0)).2))=false:=List.all_eq_false.2 ⟨_,hmem,by rw[e];simp⟩
   rw[hset,this];rfl
  rw[hgd]at rj
  generalize l[j]=z at*
  obtain⟨zp,zb⟩:=z
  obtain⟨m,rfl⟩:∃m:Nat,zp=(m:Int):=⟨zp.toNat,by have:=hrg.1;simp only at this;omega⟩
  have hmp:m<L.p.length:=by have:=hpp.2;simp only at*;omega
  have hm32:m<32:=by omega
  have hmt:(Int.toNat (m:Int))=m:=by omega
  simp only[hmt]at ok1 bad1
  have hlie:=lie_rng he hmp
  have hli:(L.p.map (·.2)).getD m 0=(L.p.getD m ([],0)).2 :=by
   rw[List.getD_eq_getElem?_getD,List.getD_eq_getElem?_getD,List.getElem?_map,List.getElem?_eq_getElem hmp];rfl
  obtain⟨np,rp⟩:=(si0.keeps kK).at_ (i:=m) (by simpa using hmp)
  rw[hli]at rp
  have m0:(0:Int)≤(m:Int):=by omega
  have m1:(m:Int)<((L.p.length:Nat):Int):=by omega
  generalize L.p.getD m ([],0)=w at*
  obtain⟨KA,hKA⟩:∃X,X=K.alloc (.cells true false 2 [.int .i64 (m:Int),.bool zb] 55):=⟨_,rfl⟩
  have kA:Keeps K KA:=by rw[hKA];exact(Keeps.refl K).alloc _
  have gzA:KA.get K.n=some (.cells true false 2 [.int .i64 (m:Int),.bool zb] 55):=by rw[hKA];exact AHeap.get_alloc_new K _
  have gcA:=kA.at_ gcK
  have gbA:=kA.at_ gbK
  have hA:CyR KA c b s x cv us:=gcA
  obtain⟨npA,rpA⟩:nnS vi=true∧rowA KA 1 vi m=some [.int .i64 w.2]:=by
   obtain⟨q1,q2⟩:=((si0.keeps kK).keeps kA).at_ (i:=m) (by simpa using hmp)
   rw[hli]at q2;exact⟨q1,q2⟩
  have lzA:=AHeap.get_lt gzA
  have lcA:=AHeap.get_lt gcA
  have lbA:=AHeap.get_lt gbA
  have es:S64 (fun i=>decide (i<32)&&s.po i)=S64 (p64 s.po):=rfl
  have hin:=has_p64 s.po (n:=(m:Int)) (by omega) (by omega)
  rw[hmt]at hin
  have kHA:=(k0.trans kK).trans kA
  simp(disch:=first|assumption|omega|(simp only[LN]<;>omega)|(simp(disch:=first|assumption|omega|(simp only[LN]<;>omega))only[row_alloc,row_set];assumption))only[W_block,P3,seval,initFr,clsA,j1,lenn,nj,rj,a_loadnvf]
  rw[←hKA]
  simp(disch:=first|assumption|omega)only[W_block,P3,seval,initFr,clsA,gcA,gzA,cyl_68,s_up,lzA,lcA,lbA]
  rw[es]
  refine callK (t52 _ m0) ?_
  rintro _ X ⟨rfl,hX⟩
  rw[hX,hin]
  cases hpo:s.po m<;>cases zb<;>rw[hpo]at ok1 bad1
  ·simp(disch:=first|assumption|omega)only[W_block,P3,seval,initFr,clsA,gzA,lzA,lcA,lbA,hw3]
   exact hn3 _ _ _ ⟨j+1,_,_,_,rfl,kK.trans kA,ok1 rfl,by omega,rfl⟩ (by omega)
  ·simp(disch:=first|assumption|omega)only[W_block,P3,seval,initFr,clsA,gzA,gcA,gbA,lzA,lcA,lbA,cyl_0,isi,leni,npA,rpA,m0,m1,a_load1v]
   refine callQ (t88 hA hlie) ?_
   cases hb:hasB x.oc w.2 with
   |true=>
    simp(disch:=first|assumption|omega)only[W_block,P3,seval,initFr,clsA]
    refine hret3 _ _ ?_
    exact no kHA (bad1 (by rw[hb];rfl)) rfl
   |false=>
    simp(disch:=first|assumption|omega)only[W_block,P3,seval,initFr,clsA,hw3]
    exact hn3 _ _ _ ⟨j+1,_,_,_,rfl,kK.trans kA,ok1 (by rw[hb];rfl),by omega,rfl⟩ (by omega)
  ·simp(disch:=first|assumption|omega)only[W_block,P3,seval,initFr,clsA,gzA,gcA,gbA,lzA,lcA,lbA,cyl_0,isi,leni,npA,rpA,m0,m1,a_load1v]
   refine callQ (t88 hA hlie) ?_
   cases hb:hasB x.oc w.2 with
   |true=>
    simp(disch:=first|assumption|omega)only[W_block,P3,seval,initFr,clsA]
    refine hret3 _ _ ?_
    exact no kHA (bad1 (by rw[hb];rfl)) rfl
   |false=>
    simp(disch:=first|assumption|omega)only[W_block,P3,seval,initFr,clsA,hw3]
    exact hn3 _ _ _ ⟨j+1,_,_,_,rfl,kK.trans kA,ok1 (by rw[hb];rfl),by omega,rfl⟩ (by omega)
  ·simp(disch:=first|assumption|omega)only[W_block,P3,seval,initFr,clsA,gzA,lzA,lcA,lbA,hw3]
   exact hn3 _ _ _ ⟨j+1,_,_,_,rfl,kK.trans kA,ok1 rfl,by omega,rfl⟩ (by omega)
 ·have j1:¬((j:Nat):Int)<((l.length:Nat):Int):=by omega
  have hje:j=l.length:=by omega
  subst hje
  rw[List.take_length]at hj
  rw[hj]at hset
  have hyes:setA L x s i={s with lo:=fun j=>s.lo j||decide (j=i),po:=poD l s.po}:=by rw[hsA,hset];rfl
  have grK:=kK.at_ gr0
  have lcK:=AHeap.get_lt gcK
  have lrK:=AHeap.get_lt grK
  have olnK:=oln.keeps kK
  obtain⟨K1,hK1⟩:∃X,X=K.set c (.cells true false 74 (cyl b {s with lo:=fun j=>s.lo j||decide (j=i)} x cv us) 111):=⟨_,rfl⟩
  have c1:Chg [c] K K1:=by rw[hK1];exact Chg.set K lcK _
  have gc1:K1.get c=some (.cells true false 74 (cyl b {s with lo:=fun j=>s.lo j||decide (j=i),po:=poD (l.take 0) s.po} x cv us) 111):=by rw[hK1];exact AHeap.get_set_same gcK _
  have c01:Chg [c] H K1:=((k0.trans kK).chg [c]).trans c1 (by simp)
  have gr1:K1.get H.n=some (.cells true false 5 [.int .i64 ((ro L i).path.getD 0 0),.int .i64 (L.g.getD (ro L i).g.toNat ([],0)).2,(ls i).t,(ls i).n,(ls i).c] 108):=c1.at_ grK (by simp;omega)
  simp(disch:=first|assumption|omega)only[W_block,P3,seval,initFr,clsA,j1]
  refine hx3 _ _ _ ?_
  simp(disch:=first|assumption|omega)only[P3,seval,initFr,clsA,gcK,lcK,cyl_len,cyl_1,cys_1,sh,s_or,o_s64,one_s64]
  rw[←hK1]
  simp(disch:=first|assumption|omega)only[P3,seval,initFr,clsA,grK,isn,lenn]
  rw[W_block]
  refine W_loop2 (fun q fr N=>∃j x4 x14 x15,fr=[ptr c 0,.int .i64 ((i:Nat):Int),ptr H.n 0,x3,x4,.bool false,(ls i).n,.int .i64 ((l.length:Nat):Int),.int .i64 ((l.length:Nat):Int),.bool false,x10,(ls i).n,.int .i64 ((l.length:Nat):Int),.int .i64 ((j:Nat):Int),x14,x15]∧
   Chg [c] K1 N∧N.get c=some (.cells true false 74 (cyl b {s with lo:=fun j=>s.lo j||decide (j=i),po:=poD (l.take j) s.po} x cv us) 111)∧j≤l.length∧q=l.length-j) l.length
   ⟨0,_,_,_,rfl,Chg.refl _ _,gc1,by omega,rfl⟩ ?_
  rintro Q4 q fr N ⟨j,x4,x14,x15,rfl,cN,gcN,hj4,rfl⟩ hn4 hx4 hret4
  have c0N:=c01.trans cN (by simp)
  have lcN:=AHeap.get_lt gcN
  by_cases hjlt4:j<l.length
  ·have olN:NL N (ls i).n l:=Sl.chg olnK (c1.trans cN (by simp)) (fun b' hb' hm'=>by
    simp only[List.mem_cons,List.not_mem_nil,or_false]at hm'
    subst hm'
    obtain⟨o,r,cc,T',g⟩:=oki0.n.b _ hb'
    rw[gc0]at g;injection g with g;injection g with _ _ e;omega)
   obtain⟨nj,rj⟩:=olN.at_ hjlt4
   have j0:(0:Int)≤(j:Int):=by omega
   have j2:(j:Int)<((l.length:Nat):Int):=by omega
   have hw3:IntKind.i64.wrap ((j:Int)+1)=((j+1:Nat):Int):=by rw[wrap_i64 (by omega) (by omega)];simp
   have hgd:l.getD j (0,false)=l[j]:=by rw[List.getD_eq_getElem?_getD,List.getElem?_eq_getElem hjlt4];rfl
   have hmem:=List.getElem_mem hjlt4
   have hrg:=hrng _ hmem
   have htk:poD (l.take (j+1)) s.po=fun p=>if p=l[j].1.toNat then l[j].2 else poD (l.take j) s.po p:=by
    rw[List.take_add_one,List.getElem?_eq_getElem hjlt4];exact poD_s _ _ _
   rw[hgd]at rj
   generalize l[j]=z at*
   obtain⟨zp,zb⟩:=z
   obtain⟨m,rfl⟩:∃m:Nat,zp=(m:Int):=⟨zp.toNat,by have:=hrg.1;simp only at this;omega⟩
   have hm32:m<32:=by have:=hrg.2;simp only at this;omega
   have hmt:(Int.toNat (m:Int))=m:=by omega
   simp only[hmt]at htk
   have s2:=p_shl1 hm32
   obtain⟨NA,hNA⟩:∃X,X=N.alloc (.cells true false 2 [.int .i64 (m:Int),.bool zb] 55):=⟨_,rfl⟩
   have kA:Keeps N NA:=by rw[hNA];exact(Keeps.refl N).alloc _
   have gzA:NA.get N.n=some (.cells true false 2 [.int .i64 (m:Int),.bool zb] 55):=by rw[hNA];exact AHeap.get_alloc_new N _
   have gcA:=kA.at_ gcN
   have lzA:=AHeap.get_lt gzA
   have lcA:=AHeap.get_lt gcA
   generalize poD (l.take j) s.po=f at*
   simp(disch:=first|assumption|omega|(simp only[LN]<;>omega)|(simp(disch:=first|assumption|omega|(simp only[LN]<;>omega))only[row_alloc,row_set];assumption))only[W_block,P3,seval,initFr,clsA,j2,nj,rj,lenn,a_loadnvf]
   rw[←hNA]
   cases zb with
   |true=>
    simp(disch:=first|assumption|omega)only[W_block,P3,seval,initFr,clsA,gzA,gcA,lzA,lcA,cyl_len,cyl_68,cys_68,s2,p_or,o_s32,one_s32,hw3]
    exact hn4 _ _ _ ⟨j+1,_,_,_,rfl,(cN.trans (kA.chg [c]) (by simp)).trans (Chg.set NA lcA _) (by simp),by rw[htk,←po_or];exact AHeap.get_set_same gcA _,by omega,rfl⟩ (by omega)
   |false=>
    simp(disch:=first|assumption|omega)only[W_block,P3,seval,initFr,clsA,gzA,gcA,lzA,lcA,cyl_len,cyl_68,cys_68,s2,p_andn,o_s32,one_s32,hw3]
    exact hn4 _ _ _ ⟨j+1,_,_,_,rfl,(cN.trans (kA.chg [c]) (by simp)).trans (Chg.set NA lcA _) (by simp),by rw[htk,←po_an];exact AHeap.get_set_same gcA _,by omega,rfl⟩ (by omega)
  ·have j2:¬((j:Nat):Int)<((l.length:Nat):Int):=by omega
   have hje:j=l.length:=by omega
   subst hje
   rw[List.take_length]at gcN
   simp(disch:=first|assumption|omega)only[W_block,P3,seval,initFr,clsA,j2]
   refine hx4 _ _ _ ?_
   simp(disch:=first|assumption|omega)only[W_block,P3,seval,initFr,clsA]
   exact hq1 _ _ ⟨_,rfl,c0N,by rw[hyes];exact gcN⟩
end Go.AM.Fd

set_option maxRecDepth 8000
namespace Go.AM.Fd
open Nat (reduceAdd reduceEqDiff reduceLT reduceLeDiff reduceMul reduceSub)
open Go.Proofs Go.AM.F
def TZ(s:Sta):Prop:=∀j,s.ca j=false→s.ti j=0
def canA(L:Ly)(x:Inp)(s:Sta)(i:Nat):Sta:=if((s.lo i&& !s.us i)&& !s.ca i)=true then
 {s with ca:=fun j=>s.ca j||decide (j=i),ti:=upd s.ti i (if hasB x.oc (L.g.getD (ro L i).g.toNat ([],0)).2 then 20 else 0)}else s
theorem upd_0{t:Nat→Nat}{i:Nat}(h:t i=0):upd t i 0=t:=by
 funext j;unfold upd
 by_cases e:j=i
 ·subst e;simp[h]
 ·simp[e]
set_option maxHeartbeats 2000000 in
theorem t85{K H:AHeap}{c b:Nat}{s:Sta}{x:Inp}{cv:Value}{us:Nat→Bool}{L:Ly}(h:CyR H c b s x cv us)(hK:MaA K b L)(kK:Keeps K H)(hc:K.n≤c)(he:checkE L=0)(hz:TZ s){i:Nat}(hi:i<L.r.length):
 ∃w H',ARun Tryz.prog 0 85 [ptr c 0,.int .i64 (i:Nat)] H w H'∧Chg [c] H H'∧CyR H' c b (canA L x s i) x cv us:=by
 refine walk2 f85_ok f85_n ?_
 intro Q hq1 hq2
 have lr:=(may_lim (check_may he)).r
 obtain⟨vl,vi,ls,own,room,T,gbK,slK,okK,siK⟩:=hK.x
 have gb:=kK.at_ gbK
 have sl:=slK.keeps kK
 have isl:=Sl.is sl
 have lenl:lenS vl=L.r.length:=by have:=Sl.len sl;simpa[arows]using this
 have e0:(0:Int)≤(i:Int):=by omega
 have e1:(i:Int)<((L.r.length:Nat):Int):=by omega
 have e64:(i:Int)<64:=by omega
 have iN:i<64:=by omega
 have gc:=h
 unfold CyR at gc
 have cl:=AHeap.get_lt gc
 have hgood:=check_good he (List.getElem_mem hi)
 rw[←ro_eq hi]at hgood
 have hsig:0≤(L.g.getD (ro L i).g.toNat ([],0)).2 :=sig_rng he (by have:=hgood.lim.g;omega)
 have hcn:canA L x s i=if((s.lo i&& !s.us i)&& !s.ca i)=true then
  {s with ca:=fun j=>s.ca j||decide (j=i),ti:=upd s.ti i (if hasB x.oc (L.g.getD (ro L i).g.toNat ([],0)).2 then 20 else 0)}else s:=rfl
 have hzi:=hz i
 have fin0:∀{fr:List Value},canA L x s i=s→resO f85.res fr H=some (.tuple #[])→Q .ret fr H:=fun e hr=>
  hq2 _ _ ⟨_,hr,Chg.refl _ _,by rw[e];exact h⟩
 have fin:∀{fr:List Value} (t:Sta),canA L x s i=t→resO f85.res fr (H.set c (.cells true false 74 (cyl b t x cv us) 111))=some (.tuple #[])→Q .normal fr (H.set c (.cells true false 74 (cyl b t x cv us) 111)):=fun t e hr=>
  hq1 _ _ ⟨_,hr,Chg.set H cl _,by unfold CyR;rw[e];exact AHeap.get_set_same gc _⟩
 unfold amc at gb gbK
 have sh:=s_shl1 iN
 have z20:=fun t:Sta=>cys_t20 (b:=b) (s:=t) (x:=x) (cv:=cv) (us:=us) iN
 have hll:4+i<74:=by omega
 simp(disch:=first|assumption|omega)only[f85,W_block,P3,seval,initFr,clsA]
 refine callK (t49 h e0) ?_
 rintro _ X ⟨rfl,hX⟩
 rw[hX,has_nat _ iN]
 cases h1:s.lo i with
 |false=>
  rw[h1]at hcn
  simp(disch:=first|assumption|omega)only[W_block,P3,seval,initFr,clsA]
  exact fin0 hcn rfl
 |true=>
 rw[h1]at hcn
 simp(disch:=first|assumption|omega)only[W_block,P3,seval,initFr,clsA,gc,cyl_2]
 refine callK (t52 _ e0) ?_
 rintro _ X ⟨rfl,hX⟩
 rw[hX,has_nat _ iN]
 cases h2:s.us i with
 |true=>
  rw[h2]at hcn
  simp(disch:=first|assumption|omega)only[W_block,P3,seval,initFr,clsA]
  exact fin0 hcn rfl
 |false=>
 rw[h2]at hcn
 simp(disch:=first|assumption|omega)only[W_block,P3,seval,initFr,clsA,gc,cyl_3]
 refine callK (t52 _ e0) ?_
 rintro _ X ⟨rfl,hX⟩
 rw[hX,has_nat _ iN]
 cases h3:s.ca i with
 |true=>
  rw[h3]at hcn
  simp(disch:=first|assumption|omega)only[W_block,P3,seval,initFr,clsA]
  exact fin0 hcn rfl
 |false=>
 rw[h3]at hcn
 obtain⟨K0,hK0⟩:∃X,X=H.set c (.cells true false 74 (cyl b {s with ca:=fun j=>s.ca j||decide (j=i)} x cv us) 111):=⟨_,rfl⟩
 have c0:Chg [c] H K0:=by rw[hK0];exact Chg.set H cl _
 have h0:CyR K0 c b {s with ca:=fun j=>s.ca j||decide (j=i)} x cv us:=by rw[hK0];exact AHeap.get_set_same gc _
 have kK0:Keeps K K0:=kK.chg_trans c0 (by simp;omega)
 have gb0:=kK0.at_ gbK
 obtain⟨na0,ra0⟩:=MaA.row (slK.keeps kK0) hi
 unfold arow at ra0
 have cl0:=AHeap.get_lt h0
 have gc0:=h0
 unfold CyR at gc0
 simp(disch:=first|assumption|omega)only[W_block,P3,seval,initFr,clsA,gc,cl,cyl_3,cys_3,cyl_len,sh,s_or,o_s64,one_s64]
 rw[←hK0]
 simp(disch:=first|assumption|omega)only[W_block,P3,seval,initFr,clsA,gc0,cyl_0,gb0,isl,lenl,na0,ra0,e0,e1,a_load1v]
 refine callQ (t88 h0 hsig) ?_
 cases h4:hasB x.oc (L.g.getD (ro L i).g.toNat ([],0)).2 with
 |false=>
  rw[h4]at hcn
  have hu:upd s.ti i 0=s.ti:=upd_0 (hzi h3)
  simp(disch:=first|assumption|omega)only[W_block,P3,seval,initFr,clsA]
  rw[hK0]
  exact fin _ (by rw[hcn];simp only[Bool.false_eq_true,if_false,hu];rfl) rfl
 |true=>
  rw[h4]at hcn
  simp(disch:=first|assumption|omega)only[W_block,P3,seval,initFr,clsA,gc0,cl0,cyl_len,z20,hll,e0,e64,a_iaddrp,Int.toNat_natCast,Nat.mul_one]
  rw[hK0,set_set]
  exact fin _ (by rw[hcn];rfl) rfl
theorem t125{H:AHeap}{p T:Nat}{o r:Bool}{n:Int}(hp:H.get p=some (.cells o r 1 [.int .i64 n] T))(z:Int×Bool):
 ∃w H',ARun Tryz.prog 0 125 [.agg (nRow z).toArray,ptr p 0] H w H'∧w=.bool (z.1==n)∧H'=H:=by
 refine gcb ?_
 refine walk2 f125_ok f125_n ?_
 intro Q hq1 hq2
 obtain⟨zp,zb⟩:=z
 have kA:=(Keeps.refl H).alloc (.cells true false 2 [.int .i64 zp,.bool zb] 55)
 have lp:=AHeap.get_lt hp
 have np:¬p=H.n:=by omega
 unfold nRow
 simp(disch:=first|assumption|omega)only[f125,W_block,P3,seval,initFr,clsA,hp,lp,np]
 exact hq2 _ _ ⟨.bool _,rfl,rfl,kA⟩
def movA(L:Ly)(x:Inp)(s:Sta)(m:Nat):Sta:=if(!hasB x.oc (L.p.getD m ([],0)).2 && !needD L s m)=true then{s with po:=fun j=>s.po j ^^ decide (j=m)}else s
set_option maxHeartbeats 2000000 in
theorem t86{H:AHeap}{c b:Nat}{s:Sta}{x:Inp}{cv:Value}{us:Nat→Bool}{L:Ly}(h:CyR H c b s x cv us)(hm:MaA H b L)(he:checkE L=0){m:Nat}(hmp:m<L.p.length):
 ∃w H',ARun Tryz.prog 0 86 [ptr c 0,.int .i64 (m:Nat)] H w H'∧Chg [c] H H'∧CyR H' c b (movA L x s m) x cv us:=by
 refine walk2 f86_ok f86_n ?_
 intro Q hq1 hq2
 have lr:=(may_lim (check_may he)).r
 have lpp:=(may_lim (check_may he)).p
 obtain⟨vl,vi,ls,own,room,T,gb,sl,ok,si⟩:=hm.x
 have isl:=Sl.is sl
 have lenl:lenS vl=L.r.length:=by have:=Sl.len sl;simpa[arows]using this
 have isi:=Sl.is si
 have leni:lenS vi=L.p.length:=by have:=IL.len si;simpa using this
 have hli:(L.p.map (·.2)).getD m 0=(L.p.getD m ([],0)).2 :=by
  rw[List.getD_eq_getElem?_getD,List.getD_eq_getElem?_getD,List.getElem?_map,List.getElem?_eq_getElem hmp];rfl
 have hlie:=lie_rng he hmp
 have m0:(0:Int)≤(m:Int):=by omega
 have m1:(m:Int)<((L.p.length:Nat):Int):=by omega
 have gc:=h
 unfold CyR at gc
 obtain⟨K0,hK0⟩:∃X,X=H.alloc (.cells true false 1 [.int .i64 (m:Int)] 3):=⟨_,rfl⟩
 have k0:Keeps H K0:=by rw[hK0];exact(Keeps.refl H).alloc _
 have gp0:K0.get H.n=some (.cells true false 1 [.int .i64 (m:Int)] 3):=by rw[hK0];exact AHeap.get_alloc_new H _
 have gc0:=k0.at_ gc
 have gb0:=k0.at_ gb
 have h0:CyR K0 c b s x cv us:=gc0
 obtain⟨np,rp⟩:=(si.keeps k0).at_ (i:=m) (by simpa using hmp)
 rw[hli]at rp
 have l0:=AHeap.get_lt gp0
 have l1:=AHeap.get_lt gc0
 have l2:=AHeap.get_lt gb0
 have hmv:movA L x s m=if(!hasB x.oc (L.p.getD m ([],0)).2 && !needD L s m)=true then{s with po:=fun j=>s.po j ^^ decide (j=m)}else s:=rfl
 have no:∀{fr:List Value} {K:AHeap},Keeps H K→movA L x s m=s→resO f86.res fr K=some (.tuple #[])→Q .ret fr K:=fun k e hr=>
  hq2 _ _ ⟨_,hr,k.chg [c],by rw[e];exact k.at_ h⟩
 unfold amc at gb0
 simp(disch:=first|assumption|omega)only[f86,W_block,P3,seval,initFr,clsA]
 rw[←hK0]
 simp(disch:=first|assumption|omega)only[W_block,P3,seval,initFr,clsA,gp0,gc0,cyl_0,gb0,isi,leni,np,rp,m0,m1,a_load1v,l0,l1,l2]
 refine callQ (t88 h0 hlie) ?_
 cases h1:hasB x.oc (L.p.getD m ([],0)).2 with
 |true=>
  rw[h1]at hmv
  simp(disch:=first|assumption|omega)only[W_block,P3,seval,initFr,clsA]
  exact no k0 hmv rfl
 |false=>
 rw[h1]at hmv
 simp(disch:=first|assumption|omega)only[P3,seval,initFr,clsA,gc0,cyl_0,gb0,isl,lenl]
 rw[W_block]
 refine W_loop2 (fun q fr K=>∃i x3 x4 x9 x10,fr=[ptr c 0,.int .i64 (m:Int),ptr H.n 0,x3,x4,.bool false,vl,.int .i64 ((L.r.length:Nat):Int),.int .i64 ((i:Nat):Int),x9,x10]∧
  Keeps K0 K∧((List.range i).any fun i=>(nds (ro L i)).any fun z=>s.lo i&&(z.1==(m:Int)))=false∧i≤L.r.length∧q=L.r.length-i) L.r.length
  ⟨0,_,_,_,_,rfl,Keeps.refl _,rfl,by omega,rfl⟩ ?_
 rintro Q' q fr K ⟨i,x3,x4,x9,x10,rfl,kK,hall,hi,rfl⟩ hn' hx' hret
 by_cases hlt:i<L.r.length
 ·have iN:i<64:=by omega
  have e0:(0:Int)≤(i:Int):=by omega
  have e1:(i:Int)<((L.r.length:Nat):Int):=by omega
  have hw:IntKind.i64.wrap ((i:Int)+1)=((i+1:Nat):Int):=by rw[wrap_i64 (by omega) (by omega)];simp
  have yes:((nds (ro L i)).any fun z=>s.lo i&&(z.1==(m:Int)))=true→needD L s m=true:=fun e=>any_at (p:=fun i=>(nds (ro L i)).any fun z=>s.lo i&&(z.1==(m:Int))) hlt e
  have nope:((nds (ro L i)).any fun z=>s.lo i&&(z.1==(m:Int)))=false→((List.range (i+1)).any fun i=>(nds (ro L i)).any fun z=>s.lo i&&(z.1==(m:Int)))=false:=fun e=>any_snoc hall e
  obtain⟨na,ra⟩:=MaA.row ((sl.keeps k0).keeps kK) hlt
  have oki:=ok i hlt
  have w1:=one_isS (Sl.is oki.t.s)
  have w2:=one_isS (Sl.is oki.n.s)
  have w3:=one_isS (Sl.is oki.c.s)
  have w4:∀x:Int,one1 (Value.int .i64 x)=True:=fun x=>by simp[one1,one_int]
  obtain⟨KA,hKA⟩:∃X,X=K.alloc (.cells true false 5 (arow L i (ls i)) 108):=⟨_,rfl⟩
  have kA:Keeps K KA:=by rw[hKA];exact(Keeps.refl K).alloc _
  have grA:KA.get K.n=some (.cells true false 5 (arow L i (ls i)) 108):=by rw[hKA];exact AHeap.get_alloc_new K _
  have gpA:=kA.at_ (kK.at_ gp0)
  have hA:CyR KA c b s x cv us:=kA.at_ (kK.at_ gc0)
  have okA:=((oki.keeps k0).keeps kK).keeps kA
  have kHA:=(k0.trans kK).trans kA
  have lrA:=AHeap.get_lt grA
  unfold arow at ra grA hKA
  simp(disch:=first|assumption|omega|(simp only[LN]<;>omega)|(simp(disch:=first|assumption|omega|(simp only[LN]<;>omega))only[row_alloc,row_set];assumption))only[W_block,P3,seval,initFr,clsA,e1,lenl,na,ra,a_loadnvf,w1,w2,w3,w4]
  rw[←hKA]
  refine callK (t49 hA e0) ?_
  rintro _ X ⟨rfl,hX⟩
  rw[hX,has_nat _ iN]
  cases h2:s.lo i with
  |false=>
   rw[h2]at nope
   simp(disch:=first|assumption|omega)only[W_block,P3,seval,initFr,clsA,hw]
   exact hn' _ _ _ ⟨i+1,_,_,_,_,rfl,kK.trans kA,nope (by simp),by omega,rfl⟩ (by omega)
  |true=>
   rw[h2]at nope yes
   simp(disch:=first|assumption|omega)only[W_block,P3,seval,initFr,clsA,grA,lrA]
   refine callQ (t57 okA.n.s (Nat.le_trans (nd_len he hlt) (by omega)) (p:=fun z=>z.1==(m:Int)) (g:=125) (fi:= #[]) (ca:= #[ptr H.n 0]) (fun z _=>t125 gpA z)) ?_
   cases h3:(nds (ro L i)).any fun z=>z.1==(m:Int)with
   |true=>
    simp(disch:=first|assumption|omega)only[W_block,P3,seval,initFr,clsA]
    refine hret _ _ ?_
    exact no kHA (by rw[hmv,yes (by simpa using h3)];rfl) rfl
   |false=>
    simp(disch:=first|assumption|omega)only[W_block,P3,seval,initFr,clsA,hw]
    exact hn' _ _ _ ⟨i+1,_,_,_,_,rfl,kK.trans kA,nope (by simpa using h3),by omega,rfl⟩ (by omega)
 ·have e1:¬((i:Nat):Int)<((L.r.length:Nat):Int):=by omega
  have hie:i=L.r.length:=by omega
  subst hie
  have hnd:needD L s m=false:=hall
  rw[hnd]at hmv
  have gpK:=kK.at_ gp0
  have gcK:=kK.at_ gc0
  have lpK:=AHeap.get_lt gpK
  have lcK:=AHeap.get_lt gcK
  have s2:=p_shl1 (show m<32 by omega)
  simp(disch:=first|assumption|omega)only[W_block,P3,seval,initFr,clsA,e1]
  refine hx' _ _ _ ?_
  simp(disch:=first|assumption|omega)only[W_block,P3,seval,initFr,clsA,gpK,gcK,lpK,lcK,cyl_len,cyl_68,cys_68,s2,p_xor,o_s32,one_s32]
  exact hq1 _ _ ⟨_,rfl,((k0.trans kK).chg [c]).trans (Chg.set K lcK _) (by simp),by rw[hmv];exact AHeap.get_set_same gcK _⟩
end Go.AM.Fd
