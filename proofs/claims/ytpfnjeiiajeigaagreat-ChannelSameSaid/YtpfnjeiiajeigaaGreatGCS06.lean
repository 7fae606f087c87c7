/- Part of the proof. -/
import Derived.Test.YtpfnjeiiajeigaaGreatGCS05
set_option linter.unusedSimpArgs false
set_option linter.unusedVariables false
set_option maxRecDepth 8000
namespace Go.AM.Fd
open Nat (reduceAdd reduceEqDiff reduceLT reduceLeDiff reduceMul reduceSub)
open Go.Proofs Go.AM.F
theorem Z68N_z:Z68N=stl Sta0:=stl_zero
def hhS(L:Ly)(C:Ch)(r:Rd):Ch:=if inR L.s.length L.p.length L.r.length r.x r.c then{C with sd:=heaS C.sd r}else C
def hhE(L:Ly)(C:Ch)(r:Rd):Int:=if inR L.s.length L.p.length L.r.length r.x r.c then heaE C.sd r else 2
theorem heaS_ch(s:Sd)(r:Rd):(heaS s r).ch=s.ch:=by
 unfold heaS
 repeat' split
 all_goals rfl
set_option maxHeartbeats 1000000 in
theorem t14{W:Wd}{H:AHeap}{c sb:Nat}{wh:Int}{L:Ly}{C:Ch}{r:Rd}{z:Value}(h:ChR W H c sb wh L C)(hr:ROk r)(hz:SlC H 2 z (r.c.map cRow)):
 ∃w K,ARun Tryz.prog 0 14 [ptr c 0,.iface 49 (.agg (rdl r z).toArray)] H w K∧w=.int .i64 (hhE L C r)∧Chg [c,sb] H K∧ChR W K c sb wh L (hhS L C r):=by
 refine walk2 f14_ok f14_n ?_
 intro Q hq1 hq2
 obtain⟨v,hv⟩:=h
 have gc:=hv.g
 have lc:=AHeap.get_lt gc
 have oz:=Sl.one hz.s
 have er:rdl r z=[.int .i64 r.ch,.int .i64 r.cy,S64 r.x.oc,S32 r.x.nr,S32 r.x.rv,z]:=rfl
 have m76:=chl_76 v C.s
 have ml:=chl_l v C.s
 have len:=chl_len v C.s
 obtain⟨v1,v2,v3,v4,v5⟩:=hv.e
 rw[v2]at m76
 obtain⟨K0,hK0⟩:∃X,X=H.alloc (.cells true false 6 (rdl r z) 49):=⟨_,rfl⟩
 have k0:Keeps H K0:=by rw[hK0];exact(Keeps.refl H).alloc _
 have g0:K0.get H.n=some (.cells true false 6 (rdl r z) 49):=by rw[hK0];exact AHeap.get_alloc_new H _
 have gc0:=k0.at_ gc
 have tR:=t36 (x:=r.x) (cv:=z) (cs:=r.c) hv.l (hz.keeps k0).s (by have:=hr.1;omega)
 have tH:=t38 (hv.sd.keeps k0) hv.ok hr (hz.keeps k0)
 have ei:inl r.x z=[S64 r.x.oc,S32 r.x.nr,S32 r.x.rv,z]:=rfl
 simp only[V4.l,ei]at tR
 rw[er]at hK0 tH g0 ⊢
 simp(disch:=first|assumption|omega|(simp only[LN]<;>omega)|(simp(disch:=first|assumption|omega|(simp only[LN]<;>omega))only[row_alloc,row_set];assumption))only[f14,W_block,P3,seval,initFr,clsA,oz,o_s64,o_s32,one_s64,one_s32,gc,ml,len]
 rw[←hK0]
 refine callK tR ?_
 rintro _ X ⟨rfl,hX⟩
 rw[hX]
 cases hB:inR L.s.length L.p.length L.r.length r.x r.c with
 |false=>
  have r1:hhS L C r=C:=by unfold hhS;rw[hB];rfl
  have r2:hhE L C r=2:=by unfold hhE;rw[hB];rfl
  simp(disch:=first|assumption|omega)only[W_block,P3,seval,initFr,clsA]
  exact hq2 _ _ ⟨.int .i64 2,rfl,by rw[r2],k0.chg _,by rw[r1];exact⟨v,hv.keeps k0⟩⟩
 |true=>
  have r1:hhS L C r={C with sd:=heaS C.sd r}:=by unfold hhS;rw[hB];rfl
  have r2:hhE L C r=heaE C.sd r:=by unfold hhE;rw[hB];rfl
  simp(disch:=first|assumption|omega)only[W_block,P3,seval,initFr,clsA,gc0,m76]
  refine callK tH ?_
  rintro _ K ⟨rfl,cK,aK⟩
  simp(disch:=first|assumption|omega)only[W_block,P3,seval,initFr,clsA]
  have cF:=((k0.chg [sb]).trans cK (by simp)).mono (T:=[c,sb]) (by simp)
  have hne:=hv.ne
  exact hq2 _ _ ⟨.int .i64 (heaE C.sd r),rfl,by rw[r2],cF,by
   rw[r1]
   exact⟨v,⟨v1,v2,v3,v4,v5⟩,cK.at_ gc0 (by simpa using hne),hv.l,hv.n.oth cF (fun b hb o r z C T e=>(hv.o68 b hb o r z C T e).1),hv.m,aK,heaS_ok hv.ok hr,(heaS_ch _ _).trans hv.ch,hv.up cF,hv.wc,hv.ws⟩⟩
def tkE(C:Ch):Int:=if C.nx.isSome then 0 else 4
def tkS(C:Ch):Ch:=match C.nx with
 |none=>C
 |some t=>{C with s:=t,nx:=none,tk:=true}
theorem t17{W:Wd}{H:AHeap}{c sb:Nat}{wh:Int}{L:Ly}{C:Ch}(h:ChR W H c sb wh L C):
 ∃w K,ARun Tryz.prog 0 17 [ptr c 0] H w K∧w=.int .i64 (tkE C)∧Chg [c,sb] H K∧ChR W K c sb wh L (tkS C):=by
 refine walk2 f17_ok f17_n ?_
 intro Q hq1 hq2
 obtain⟨v,hv⟩:=h
 have gc:=hv.g
 have lc:=AHeap.get_lt gc
 have m78:=chl_78 v C.s
 have hn:=hv.n
 cases hx:C.nx with
 |none=>
  rw[hx]at hn
  rw[show v.nx=_ from hn]at m78
  have r1:tkS C=C:=by unfold tkS;rw[hx]
  have r2:tkE C=4:=by unfold tkE;rw[hx];rfl
  simp(disch:=first|assumption|omega)only[f17,W_block,P3,seval,initFr,clsA,gc,m78]
  exact hq2 _ _ ⟨.int .i64 4,rfl,by rw[r2],Chg.refl _ _,by rw[r1];exact⟨v,hv⟩⟩
 |some t=>
  rw[hx]at hn
  obtain⟨b,ow,rm,e,gb⟩:=hn
  rw[e]at m78
  have r1:tkS C={C with s:=t,nx:=none,tk:=true}:=by unfold tkS;rw[hx]
  have r2:tkE C=0:=by unfold tkE;rw[hx];rfl
  have hcb:c≠b:=fun e=>by subst e;rw[gc]at gb;cases gb
  have len:=chl_len v C.s
  have len2:=chl_len v t
  have len3:=chl_len {v with nx:=.pointer none} t
  have sS:=chl_sS v C.s t
  have s78:=chl_s78 v t (.pointer none)
  have s77:=chl_s77 {v with nx:=.pointer none} t true
  simp(disch:=first|assumption|omega)only[f17,W_block,P3,seval,initFr,clsA,gc,m78,gb,rng68,stl_one,stl_len,len,len2,len3,sS,s78,s77]
  have cS:=Chg.set H lc (.cells true false 79 (chl {v with nx:=.pointer none,tk:=true} t) 99)
  have cF:=cS.mono (T:=[c,sb]) (by simp)
  have hne:=hv.ne
  have o1:∀b∈[c],∀o r z C T,H.get b=some (.cells o r z C T)→z≠2∧T≠49:=fun b hb o r z D T e=>(hv.o68 b (by simp at hb ⊢;exact .inl hb) o r z D T e).2
  exact hq2 _ _ ⟨.int .i64 0,rfl,by rw[r2],cF,by
   rw[r1]
   exact⟨{v with nx:=.pointer none,tk:=true},⟨hv.e.1,hv.e.2.1,hv.e.2.2.1,hv.e.2.2.2.1,rfl⟩,AHeap.get_set_same gc _,hv.l,rfl,hv.m,hv.sd.oth cS (by simp;omega) o1,hv.ok,hv.ch,hv.up cF,hv.wc,hv.ws⟩⟩
theorem t18{W:Wd}{H:AHeap}{c sb:Nat}{wh:Int}{L:Ly}{C:Ch}(h:ChR W H c sb wh L C):
 ∃w K,ARun Tryz.prog 0 18 [ptr c 0] H w K∧w=.agg (stl C.s).toArray∧K=H:=by
 refine gcst ?_
 refine walk2 f18_ok f18_n ?_
 intro Q hq1 hq2
 obtain⟨v,hv⟩:=h
 have gc:=hv.g
 have lc:=AHeap.get_lt gc
 have m6:=chl_s v C.s
 have len:=chl_len v C.s
 simp(disch:=first|assumption|omega)only[f18,W_block,P3,seval,initFr,clsA,gc,m6,len,rng68,stl_one,stl_len,Z68N_z,stn68s]
 exact hq2 _ _ ⟨_,by show resO [.cn 68 1] _ _=_;rw[resC];show celln 68 (ptr H.n 0) _=_;rw[cellnp,rangeA_e,AHeap.get_alloc_new,rng68];rfl,rfl,(Keeps.refl H).alloc _⟩
def thB(C:Ch):Bool:=merB C.sd&& !C.tk
def thS(L:Ly)(C:Ch):Sta:=stepD L C.s (merX C.sd) (merC C.sd)
def frl(a b:Int)(o:List Value):List Value:=.int .i64 a:: .int .i64 b::o
def thW(L:Ly)(C:Ch):Value:=if thB C then .tuple #[.agg (stl (thS L C)).toArray,.agg (frl C.sd.cy C.ep (otl L (merX C.sd) (thS L C))).toArray,.int .i64 0]else .tuple #[.agg (stl Sta0).toArray,.agg (frl 0 0 [.int .u64 0,.int .u32 0]).toArray,.int .i64 4]
def thC(L:Ly)(C:Ch):Ch:=if thB C then{C with nx:=some (thS L C)}else C
theorem res_cct{K:AHeap}{fr:List Value}{n m i i2 j p q T T2:Nat}{o r o2 r2:Bool}{c d:List Value}{w:Value}(g:K.get p=some (.cells o r n c T))(hl:c.length=n)(g2:K.get q=some (.cells o2 r2 m d T2))(hl2:d.length=m)(h1:fr.getD i undef=ptr p 0)(h3:fr.getD i2 undef=ptr q 0)(h2:fr.getD j undef=w):
 resO [.cn n i,.cn m i2,.t j] fr K=some (.tuple #[.agg c.toArray,.agg d.toArray,w]):=by
 simp only[resO,resVs,RX.get,h1,h2,h3]
 rw[cellnp,rangeA_e,g,rng_full hl,cellnp,rangeA_e,g2,rng_full hl2]
 rfl
theorem fillF0:fillA [.int .i64 0,.int .i64 0,.int .u64 0,.int .u32 0] []=some [.int .i64 0,.int .i64 0,.int .u64 0,.int .u32 0]:=rfl
theorem fillFr(a b:Int)(f g:Nat→Bool):fillA [.int .i64 0,.int .i64 0,.int .u64 0,.int .u32 0] [(0,1,.int .i64 a),(1,1,.int .i64 b),(2,2,.agg #[S64 f,S32 g])]=some [.int .i64 a,.int .i64 b,S64 f,S32 g]:=rfl
theorem merC_ok{s:Sd}(h:SOk s):(merC s).length≤1000∧∀c∈merC s,0≤c.1∧c.1<256:=by
 unfold merC
 split
 ·rename_i a c e1 e2 e3
  unfold mrgC
  split
  ·exact h.own a e1
  ·simp
 ·simp
set_option maxHeartbeats 2000000 in
theorem t15{W:Wd}{H:AHeap}{c sb:Nat}{wh:Int}{L:Ly}{C:Ch}(h:ChR W H c sb wh L C)(he:checkE L=0):
 ∃w K,ARun Tryz.prog 0 15 [ptr c 0] H w K∧w=thW L C∧Chg [c,sb] H K∧ChR W K c sb wh L (thC L C):=by
 refine walk2 f15_ok f15_n ?_
 intro Q hq1 hq2
 obtain⟨v,hv⟩:=h
 have gc:=hv.g
 have lc:=AHeap.get_lt gc
 have m76:=chl_76 v C.s
 have m77:=chl_77 v C.s
 have m74:=chl_74 v C.s
 have m5:=chl_5 v C.s
 have ms:=chl_s v C.s
 have len:=chl_len v C.s
 obtain⟨v1,v2,v3,v4,v5⟩:=hv.e
 rw[v2]at m76
 rw[v5]at m77
 rw[v3]at m74
 obtain⟨K0,hK0⟩:∃X,X=(H.alloc (.cells true false 68 (stl Sta0) 43)).alloc (.cells true false 4 [.int .i64 0,.int .i64 0,.int .u64 0,.int .u32 0] 56):=⟨_,rfl⟩
 have k0:Keeps H K0:=by rw[hK0];exact((Keeps.refl H).alloc _).alloc _
 have n0:K0.n=H.n+2:=by rw[hK0];rfl
 have g0:K0.get H.n=some (.cells true false 68 (stl Sta0) 43):=by rw[hK0];exact((Keeps.refl _).alloc _).at_ (AHeap.get_alloc_new H _)
 have g1:K0.get (H.n+1)=some (.cells true false 4 [.int .i64 0,.int .i64 0,.int .u64 0,.int .u32 0] 56):=by rw[hK0];exact AHeap.get_alloc_new (H.alloc _) _
 have tM:=t39 (hv.sd.keeps k0) hv.ok
 have em:∀z,inl (merX C.sd) z=[S64 (merX C.sd).oc,S32 (merX C.sd).nr,S32 (merX C.sd).rv,z]:=fun _=>rfl
 simp only[em]at tM
 simp(disch:=first|assumption|omega|(simp only[LN]<;>omega)|(simp(disch:=first|assumption|omega|(simp only[LN]<;>omega))only[row_alloc,row_set];assumption))only[f15,W_block,P3,seval,initFr,clsA,gc,m76,Z68N_z,stl_one]
 rw[←hK0]
 refine callK tM ?_
 rintro _ K ⟨z,rfl,nc⟩
 have oz:=Sl.one nc.c.s
 have g0K:=nc.k.at_ g0
 have g1K:=nc.k.at_ g1
 have gcK:=(k0.trans nc.k).at_ gc
 have nK:=nc.k.n
 have l0K:=AHeap.get_lt g0K
 have l1K:=AHeap.get_lt g1K
 have lcK:=AHeap.get_lt gcK
 have kI:=(k0.trans nc.k).alloc (.cells true false 4 [S64 (merX C.sd).oc,S32 (merX C.sd).nr,S32 (merX C.sd).rv,z] 46)
 have hno:thB C=false→thW L C=.tuple #[.agg (stl Sta0).toArray,.agg (frl 0 0 [.int .u64 0,.int .u32 0]).toArray,.int .i64 4]∧thC L C=C:=fun e=>by unfold thW thC;rw[e];exact⟨rfl,rfl⟩
 have no:thB C=false→∀{fr:List Value} {Z:AHeap},Keeps H Z→Z.get H.n=some (.cells true false 68 (stl Sta0) 43)→Z.get (H.n+1)=some (.cells true false 4 [.int .i64 0,.int .i64 0,.int .u64 0,.int .u32 0] 56)→fr.getD 1 undef=ptr H.n 0→fr.getD 2 undef=ptr (H.n+1) 0→fr.getD 3 undef=.int .i64 4→Q .ret fr Z:=fun e fr Z kZ a b h1 h2 h3=>by
  rw[(hno e).1,(hno e).2]at hq2
  exact hq2 _ _ ⟨_,res_cct a (stl_len _) b rfl h1 h2 h3,rfl,kZ.chg _,⟨v,hv.keeps kZ⟩⟩
 have hB:thB C=(merB C.sd&& !C.tk):=rfl
 have nop:thB C=false→∀{fr:List Value} (o:AO),fr.getD 1 undef=ptr H.n 0→fr.getD 2 undef=ptr (H.n+1) 0→fr.getD 3 undef=.int .i64 4→Q .ret fr (((K.set H.n (.cells true false 68 (stl Sta0) 43)).set (H.n+1) (.cells true false 4 [.int .i64 0,.int .i64 0,.int .u64 0,.int .u32 0] 56)).alloc o):=fun e fr o h1 h2 h3=>by
  have l1':H.n+1<(K.set H.n (.cells true false 68 (stl Sta0) 43)).n:=by rw[set_n];exact l1K
  have g1':=(AHeap.get_set_other K (show H.n+1≠H.n by omega) l0K (.cells true false 68 (stl Sta0) 43)).trans g1K
  have kZ:=((((k0.trans nc.k).set (Nat.le_refl _) l0K (.cells true false 68 (stl Sta0) 43)).set (by omega) l1' (.cells true false 4 [.int .i64 0,.int .i64 0,.int .u64 0,.int .u32 0] 56))).alloc o
  have ka:=(Keeps.refl ((K.set H.n (.cells true false 68 (stl Sta0) 43)).set (H.n+1) (.cells true false 4 [.int .i64 0,.int .i64 0,.int .u64 0,.int .u32 0] 56))).alloc o
  exact no e kZ (ka.at_ ((AHeap.get_set_other _ (by omega) l1' _).trans (AHeap.get_set_same g0K _))) (ka.at_ (AHeap.get_set_same g1' _)) h1 h2 h3
 cases hb:merB C.sd with
 |false=>
  simp(disch:=first|assumption|omega|(simp only[LN]<;>omega)|(simp(disch:=first|assumption|omega|(simp only[LN]<;>omega))only[row_alloc,row_set];assumption))only[W_block,P3,seval,initFr,clsA,oz,o_s64,o_s32,one_s64,one_s32,Z68N_z,stl_one,stl_len,fillF0,fill0,g0K,g1K,stn68s]
  exact nop (by rw[hB,hb];rfl) _ rfl rfl rfl
 |true=>
 cases ht:C.tk with
 |true=>
  rw[ht]at m77
  simp(disch:=first|assumption|omega|(simp only[LN]<;>omega)|(simp(disch:=first|assumption|omega|(simp only[LN]<;>omega))only[row_alloc,row_set];assumption))only[W_block,P3,seval,initFr,clsA,oz,o_s64,o_s32,one_s64,one_s32,Z68N_z,stl_one,stl_len,fillF0,fill0,g0K,g1K,stn68s,gcK,m77]
  exact nop (by rw[hB,hb,ht];rfl) _ rfl rfl rfl
 |false=>
 rw[ht]at m77
 have hBt:thB C=true:=by rw[hB,hb,ht];rfl
 have e1:thW L C=.tuple #[.agg (stl (thS L C)).toArray,.agg (frl C.sd.cy C.ep (otl L (merX C.sd) (thS L C))).toArray,.int .i64 0]:=by unfold thW;rw[hBt];rfl
 have e2:thC L C={C with nx:=some (thS L C)}:=by unfold thC;rw[hBt];rfl
 rw[e1,e2]at hq1 hq2
 obtain⟨t,mv,g,eiv,hme,hrun⟩:=m_Step hv.ms he
 rw[eiv]at m5
 have mo:=merC_ok hv.ok
 have tS:=hrun _ kI C.s (merX C.sd) z (merC C.sd) (nc.c.keeps ((Keeps.refl K).alloc _)) (by omega) mo.2
 simp only[em]at tS
 have nk:∀Z,asem (.nilck (.iface t mv)) Z=some (.iface t mv,Z):=fun _=>rfl
 simp(disch:=first|assumption|omega|(simp only[LN]<;>omega)|(simp(disch:=first|assumption|omega|(simp only[LN]<;>omega))only[row_alloc,row_set];assumption))only[W_block,P3,seval,initFr,clsA,oz,o_s64,o_s32,one_s64,one_s32,gcK,m77,m5,ms,len,sd_inv (h:=hme),nk]
 refine callK tS ?_
 rintro _ X ⟨rfl,hX⟩
 rw[hX]
 obtain⟨T,hT⟩:∃T,T=thS L C:=⟨_,rfl⟩
 rw[show stepD L C.s (merX C.sd) (merC C.sd)=T from hT.symm]
 rw[←hT]at hq1 hq2
 have eo:otl L (merX C.sd) T=[S64 fun i=>decide (i<L.r.length)&&proD L (merX C.sd) T i,S32 T.po]:=rfl
 have ef:∀a b,frl a b (otl L (merX C.sd) T)=[.int .i64 a,.int .i64 b,S64 fun i=>decide (i<L.r.length)&&proD L (merX C.sd) T i,S32 T.po]:=fun _ _=>rfl
 rw[ef]at hq1 hq2
 rw[eo]
 obtain⟨v',hv'⟩:∃v':Chv,v'={v with nx:=ptr (K.n+1) 0}:=⟨_,rfl⟩
 have s78:(chl v C.s).set 78 (ptr (K.n+1) 0)=chl v' C.s:=by rw[hv'];exact chl_s78 v C.s (ptr (K.n+1) 0)
 have p76:(chl v' C.s)[76]? =some (ptr sb 0):=by rw[chl_76,hv'];exact congrArg (fun n=>some (ptr n 0)) v2
 have p74:(chl v' C.s)[74]? =some (.int .i64 C.ep):=by rw[chl_74,hv'];exact congrArg (fun n=>some (Value.int .i64 n)) v3
 have hne:=hv.ne
 have lsb:sb<H.n:=by obtain⟨_,_,_,g,_⟩:=hv.sd;exact AHeap.get_lt g
 have cS:=Chg.set K lcK (.cells true false 79 (chl v' C.s) 99)
 have o1:OtR K [c]:=fun b hb o r z D T e=>by
  simp only[List.mem_cons,List.not_mem_nil,or_false]at hb
  subst hb;rw[gcK]at e;cases e;decide
 obtain⟨K4,hK4⟩:∃X,X=(((K.set c (.cells true false 79 (chl v' C.s) 99)).alloc (.cells true false 4 [S64 (merX C.sd).oc,S32 (merX C.sd).nr,S32 (merX C.sd).rv,z] 46)).alloc (.cells true false 68 (stl T) 43)).alloc (.cells true false 2 [S64 fun i=>decide (i<L.r.length)&&proD L (merX C.sd) T i,S32 T.po] 54):=⟨_,rfl⟩
 have k4:Keeps (K.set c (.cells true false 79 (chl v' C.s) 99)) K4:=by rw[hK4];exact(((Keeps.refl _).alloc _).alloc _).alloc _
 have a4:=(((hv.sd.keeps (k0.trans nc.k)).oth cS (by simpa using fun e=>hne e.symm) o1)).keeps k4
 have gc4:=k4.at_ (AHeap.get_set_same gcK (.cells true false 79 (chl v' C.s) 99))
 have g04:=k4.at_ ((AHeap.get_set_other K (show H.n≠c by omega) lcK (.cells true false 79 (chl v' C.s) 99)).trans g0K)
 have g14:=k4.at_ ((AHeap.get_set_other K (show H.n+1≠c by omega) lcK (.cells true false 79 (chl v' C.s) 99)).trans g1K)
 have gs4:K4.get (K.n+1)=some (.cells true false 68 (stl T) 43):=by
  rw[hK4]
  exact((Keeps.refl _).alloc _).at_ (AHeap.get_alloc_new ((K.set c _).alloc _) _)
 have go4:K4.get (K.n+1+1)=some (.cells true false 2 [S64 fun i=>decide (i<L.r.length)&&proD L (merX C.sd) T i,S32 T.po] 54):=by
  rw[hK4]
  exact AHeap.get_alloc_new (((K.set c _).alloc _).alloc _) _
 have l04:=AHeap.get_lt g04
 have l14:=AHeap.get_lt g14
 simp(disch:=first|assumption|omega|(simp only[LN]<;>omega)|(simp(disch:=first|assumption|omega|(simp only[LN]<;>omega))only[row_alloc,row_set];assumption))only[W_block,P3,seval,initFr,clsA,Z68N_z,stl_one,stl_len,rng68,stn68s,gcK,o_s64,o_s32,one_s64,one_s32,s78,len,p76]
 rw[←hK4]
 refine callQ (t40 a4) ?_
 simp(disch:=first|assumption|omega|(simp only[LN]<;>omega)|(simp(disch:=first|assumption|omega|(simp only[LN]<;>omega))only[row_alloc,row_set];assumption))only[W_block,P3,seval,initFr,clsA,gc4,p74,go4,gs4,fillFr,g04,g14,stn68s,stl_one,stl_len,o_s64,o_s32,one_s64,one_s32]
 obtain⟨F,hF⟩:∃F:AO,F=.cells true false 4 [.int .i64 C.sd.cy,.int .i64 C.ep,S64 fun i=>decide (i<L.r.length)&&proD L (merX C.sd) T i,S32 T.po] 56:=⟨_,rfl⟩
 rw[←hF]
 have c1:=(Chg.set K4 l04 (.cells true false 68 (stl T) 43)).mono (T:=[H.n,H.n+1]) (by simp)
 have l14':H.n+1<(K4.set H.n (.cells true false 68 (stl T) 43)).n:=by rw[set_n];exact l14
 have c2:=c1.trans ((Chg.set _ l14' F).mono (T:=[H.n,H.n+1]) (by simp)) (by simp)
 have o2:OtR K4 [H.n,H.n+1]:=fun b hb o r z D T' e=>by
  simp only[List.mem_cons,List.not_mem_nil,or_false]at hb
  rcases hb with rfl|rfl
  ·rw[g04]at e;cases e;decide
  ·rw[g14]at e;cases e;decide
 have n4:=k4.n
 rw[set_n]at n4
 have cF:=((((((k0.trans nc.k).chg [c,sb]).trans (cS.mono (T:=[c,sb]) (by simp)) (by simp)).trans (k4.chg []) (by simp))).trans c2 (fun x hx=>by simp only[List.mem_cons,List.not_mem_nil,or_false]at hx;right;omega))
 have gS:=(AHeap.get_set_other _ (show H.n≠H.n+1 by omega) l14' F).trans (AHeap.get_set_same g04 (.cells true false 68 (stl T) 43))
 have gF:((K4.set H.n (.cells true false 68 (stl T) 43)).set (H.n+1) F).get (H.n+1)=some F:=AHeap.get_set_same ((AHeap.get_set_other K4 (show H.n+1≠H.n by omega) l04 _).trans g14) F
 have gg:∀b o,b≠H.n→b≠H.n+1→K4.get b=some o→((K4.set H.n (.cells true false 68 (stl T) 43)).set (H.n+1) F).get b=some o:=fun b o h1 h2 g=>(AHeap.get_set_other _ h2 l14' F).trans ((AHeap.get_set_other K4 h1 l04 _).trans g)
 refine⟨by simp,AHeap.get_lt go4,by simp,hq2 _ _ ⟨_,res_cct gS (stl_len _) (gF.trans (by rw[hF])) rfl rfl rfl rfl,rfl,cF,⟨v',⟨by rw[hv'];exact v1,by rw[hv'];exact v2,by rw[hv'];exact v3,by rw[hv'];exact v4,by rw[hv'];exact v5⟩,gg _ _ (by omega) (by omega) gc4,by rw[hv'];exact hv.l,by rw[hv'];exact⟨K.n+1,true,false,rfl,gg _ _ (by omega) (by omega) gs4⟩,by rw[hv'];exact hv.m,a4.oth c2 (by simp;omega) o2,hv.ok,hv.ch,hv.up cF,hv.wc,hv.ws⟩⟩⟩
end Go.AM.Fd

set_option maxRecDepth 8000
namespace Go.AM.Fd
open Nat (reduceAdd reduceEqDiff reduceLT reduceLeDiff reduceMul reduceSub)
open Go.Proofs Go.AM.F
structure Dhv where
 u:V4
 ep:Int
 sb:Nat
 fl:Int
 tk:Bool
 th:Bool
section
variable (d:Dhv) (s n:Sta)
end
def ch0(wh:Int):Ch:=⟨Sta0,0,0,sd0 wh,false,none⟩
end Go.AM.Fd

set_option maxRecDepth 20000
namespace Go.AM.Fd
open Go.Proofs Go.AM.F
theorem ar_slc{P:Program}{H:AHeap}{v:Value}{t e esz:Nat}(hu:P.underlying t=some (.slice e))(hz:P.cellsOf e=esz)(h:AR P H.get t [v]):∃rows,(SlC H esz v rows∧rows.length≤9223372036854775807)∧∀r∈rows,AR P H.get e r:=by
 obtain⟨rows,⟨hs,hl⟩,hr⟩:=ar_rows hu hz h
 refine⟨rows,⟨⟨hs,?_⟩,hl⟩,hr⟩
 rcases h.slice_inv hu with h2|⟨x,hx,h2⟩|⟨b,n,k,c,u,h2,h3,h4,_,h6,_⟩
 ·cases h2;exact .inl rfl
 ·cases h2
  obtain⟨b,o,q⟩:=x
  cases q with
  |none=>cases hx
  |some q=>exact .inr (.inl ⟨b,o,q,rfl⟩)
 ·cases h2
  rw[hz]at h6
  exact .inr (.inr ⟨b,n,k,_,_,c,u,rfl,h4,h6⟩)
theorem inp_of{H:AHeap}{cells:List Value}(h:AR Tryz.prog H.get 46 cells):∃(x:Inp) (cv:Value) (cs:List (Int×Int)),cells=inl x cv∧SlC H 2 cv (cs.map cRow)∧cs.length≤9223372036854775807∧∀c∈cs,0≤c.1∧c.1<256:=by
 have h1:=h.flat (d:=6) (ks:=[.int .u64,.int .u32,.int .u32,.sl 44]) (by kernel_rfl)
 obtain⟨a,as1,e1,ha,h2⟩:=h1.inv
 obtain⟨b,bs,rfl,hb,h3⟩:=h2.inv
 obtain⟨c,cs,rfl,hc,h4⟩:=h3.inv
 obtain⟨d,ds,rfl,hd,h5⟩:=h4.inv
 have:=h5.end_;subst this
 obtain⟨n1,rfl,g1⟩:=fits_u64 ha
 obtain⟨n2,rfl,g2⟩:=fits_u32 hb
 obtain⟨n3,rfl,g3⟩:=fits_u32 hc
 obtain⟨f1,q1⟩:=s64_of (x:=(n1:Int)) (by omega) (by omega)
 obtain⟨f2,q2⟩:=s32_of (x:=(n2:Int)) (by omega) (by omega)
 obtain⟨f3,q3⟩:=s32_of (x:=(n3:Int)) (by omega) (by omega)
 obtain⟨rows,⟨hr,lr⟩,hrow⟩:=ar_slc (e:=83) (esz:=2) (by kernel_rfl) (by kernel_rfl) hd
 obtain⟨l,rfl,hl⟩:=list_choose (f:=cRow) (Q:=fun c:Int×Int=>0≤c.1∧c.1<256) (l:=rows) (fun r hm=>by
  have h1:=(hrow r hm).flat (d:=5) (ks:=[.int .u8,.int .i64]) (by kernel_rfl)
  obtain⟨a,as1,rfl,ha,h2⟩:=h1.inv
  obtain⟨b,bs,rfl,hb,h3⟩:=h2.inv
  have:=h3.end_;subst this
  obtain⟨n,rfl,g⟩:=fits_u8 ha
  obtain⟨m,rfl,_⟩:=hb
  exact⟨((n:Int),m),rfl,by simp only;omega,by simp only;omega⟩)
 exact⟨⟨f1,f2,f3⟩,d,l,by rw[e1,q1,q2,q3];rfl,hr,by simpa using lr,hl⟩
theorem staB_rfl(s:Sta):staB s s=true:=by unfold staB;simp
end Go.AM.Fd

set_option maxRecDepth 100000
set_option maxHeartbeats 0
namespace Go.AM.F
def Z30L:List Value:=[(.string ByteArray.empty),(.int .i64 0),(.slice none 0 0),(.slice none 0 0),(.slice none 0 0),(.slice none 0 0),(.string ByteArray.empty),(.int .i64 0),(.slice none 0 0),(.slice none 0 0),(.slice none 0 0),(.slice none 0 0),(.string ByteArray.empty),(.int .i64 0),(.slice none 0 0),(.slice none 0 0),(.slice none 0 0),(.slice none 0 0),(.string ByteArray.empty),(.int .i64 0),(.slice none 0 0),(.slice none 0 0),(.slice none 0 0),(.slice none 0 0),(.string ByteArray.empty),(.int .i64 0),(.slice none 0 0),(.slice none 0 0),(.slice none 0 0),(.slice none 0 0)]
def zclL:TypeId→List Value
 |27=>[(.slice none 0 0),(.slice none 0 0),(.slice none 0 0),(.slice none 0 0)]
 |89=>[(.string ByteArray.empty),(.int .i64 0)]
 |90=>[(.string ByteArray.empty),(.int .i64 0)]
 |120=>[(.int .i64 0),(.bool false)]
 |87=>[(.string ByteArray.empty),(.int .i64 0),(.slice none 0 0),(.slice none 0 0),(.slice none 0 0),(.slice none 0 0)]
 |_=>[]
def zvlL:TypeId→Value
 |_=>undef
def zklL:TypeId→List Nat
 |_=>[]
def zrlL:Nat→TypeId→List Value
 |1,3=>[(.int .i64 0)]
 |6,9=>[(.string ByteArray.empty),(.string ByteArray.empty),(.string ByteArray.empty),(.string ByteArray.empty),(.string ByteArray.empty),(.string ByteArray.empty)]
 |2,89=>[(.string ByteArray.empty),(.int .i64 0),(.string ByteArray.empty),(.int .i64 0)]
 |3,90=>[(.string ByteArray.empty),(.int .i64 0),(.string ByteArray.empty),(.int .i64 0),(.string ByteArray.empty),(.int .i64 0)]
 |2,3=>[(.int .i64 0),(.int .i64 0)]
 |2,120=>[(.int .i64 0),(.bool false),(.int .i64 0),(.bool false)]
 |1,120=>[(.int .i64 0),(.bool false)]
 |5,87=>Z30L
 |_,_=>[]
noncomputable def f27:AFunc:=by
 refine(fun(_:Cz zclL zvlL zklL zrlL Go.Proofs.Tryz.prog 0 [0] 27 ?a)=>?a) ?h
 case h=>
 intro zc zv zk zr hc hv hk hr
 conv=>lhs;cbv;try simp only[hc,hv,hk,hr,zclL,zvlL,zklL,zrlL]
theorem f27_ok:compF Go.Proofs.Tryz.prog 0 [0] 27=some f27:=by kernel_rfl
theorem f27_n:argsOK Go.Proofs.Tryz.prog 27 0=true:=by kernel_rfl
end Go.AM.F

set_option maxRecDepth 20000
namespace Go.AM.Fd
open Nat (reduceAdd reduceEqDiff reduceLT reduceLeDiff reduceMul reduceSub)
open Go.Proofs Go.AM.F
def yL:Ly:=⟨[[97],[98],[99],[100],[101],[102]],[([80],1),([81],3)],[([71],0),([72],4),([75],5)],[⟨[82,49],0,[1,2],[(0,false),(1,false)],[3],[]⟩,⟨[82,50],0,[1,5],[(0,true)],[],[]⟩,⟨[82,51],1,[3,2],[(1,false)],[],[]⟩,⟨[82,52],2,[4],[],[],[(1,true)]⟩,⟨[82,53],1,[3],[(1,true)],[5],[]⟩]⟩
def yX(H:AHeap):List RV:=[⟨⟨[82,49],0,[1,2],[(0,false),(1,false)],[3],[]⟩,slc (H.n+4) 0 2 2,slc (H.n+5) 0 2 2,slc (H.n+6) 0 1 1,.slice none 0 0⟩,⟨⟨[82,50],0,[1,5],[(0,true)],[],[]⟩,slc (H.n+7) 0 2 2,slc (H.n+8) 0 1 1,.slice none 0 0,.slice none 0 0⟩,⟨⟨[82,51],1,[3,2],[(1,false)],[],[]⟩,slc (H.n+9) 0 2 2,slc (H.n+10) 0 1 1,.slice none 0 0,.slice none 0 0⟩,⟨⟨[82,52],2,[4],[],[],[(1,true)]⟩,slc (H.n+11) 0 1 1,.slice none 0 0,.slice none 0 0,slc (H.n+12) 0 1 1⟩,⟨⟨[82,53],1,[3],[(1,true)],[5],[]⟩,slc (H.n+13) 0 1 1,slc (H.n+14) 0 1 1,slc (H.n+15) 0 1 1,.slice none 0 0⟩]
def yR(H:AHeap):List Value:=((yX H).map RV.row).flatten
def yU(H:AHeap):V4:=⟨slc (H.n+1) 0 6 6,slc (H.n+2) 0 2 2,slc (H.n+3) 0 3 3,slc (H.n+16) 0 5 5⟩
def yK(H:AHeap):AHeap:=(((((((((((((((((H).alloc (.cells true false 4 [slc (H.n+1) 0 6 6,slc (H.n+2) 0 2 2,slc (H.n+3) 0 3 3,slc (H.n+16) 0 5 5] 27)).alloc (.cells true false 1 [.string ⟨#[97]⟩,.string ⟨#[98]⟩,.string ⟨#[99]⟩,.string ⟨#[100]⟩,.string ⟨#[101]⟩,.string ⟨#[102]⟩] 9)).alloc (.cells true false 2 [.string ⟨#[80]⟩,.int .i64 1,.string ⟨#[81]⟩,.int .i64 3] 89)).alloc (.cells true false 2 [.string ⟨#[71]⟩,.int .i64 0,.string ⟨#[72]⟩,.int .i64 4,.string ⟨#[75]⟩,.int .i64 5] 90)).alloc (.cells true false 1 [.int .i64 1,.int .i64 2] 3)).alloc (.cells true false 2 [.int .i64 0,.bool false,.int .i64 1,.bool false] 120)).alloc (.cells true false 1 [.int .i64 3] 3)).alloc (.cells true false 1 [.int .i64 1,.int .i64 5] 3)).alloc (.cells true false 2 [.int .i64 0,.bool true] 120)).alloc (.cells true false 1 [.int .i64 3,.int .i64 2] 3)).alloc (.cells true false 2 [.int .i64 1,.bool false] 120)).alloc (.cells true false 1 [.int .i64 4] 3)).alloc (.cells true false 2 [.int .i64 1,.bool true] 120)).alloc (.cells true false 1 [.int .i64 3] 3)).alloc (.cells true false 2 [.int .i64 1,.bool true] 120)).alloc (.cells true false 1 [.int .i64 5] 3)).alloc (.cells true false 6 (yR H) 87)
theorem yK_k(H:AHeap):Keeps H (yK H):=((((((((((((((((((Keeps.refl H).alloc _).alloc _).alloc _).alloc _).alloc _).alloc _).alloc _).alloc _).alloc _).alloc _).alloc _).alloc _).alloc _).alloc _).alloc _).alloc _).alloc _)
theorem yK_ly(H:AHeap):LyR (yK H) (yU H) (yX H) yL:=by
 refine⟨?_,?_,?_,?_,rfl,?_⟩
 ·exact Sl.keeps (newSl (rows:=[[.string ⟨#[97]⟩],[.string ⟨#[98]⟩],[.string ⟨#[99]⟩],[.string ⟨#[100]⟩],[.string ⟨#[101]⟩],[.string ⟨#[102]⟩]]) (by simp) rfl rfl) ((((((((((((((((Keeps.refl _).alloc _).alloc _).alloc _).alloc _).alloc _).alloc _).alloc _).alloc _).alloc _).alloc _).alloc _).alloc _).alloc _).alloc _).alloc _)
 ·exact Sl.keeps (newSl (rows:=[[.string ⟨#[80]⟩,.int .i64 1],[.string ⟨#[81]⟩,.int .i64 3]]) (by simp) rfl rfl) (((((((((((((((Keeps.refl _).alloc _).alloc _).alloc _).alloc _).alloc _).alloc _).alloc _).alloc _).alloc _).alloc _).alloc _).alloc _).alloc _).alloc _)
 ·exact Sl.keeps (newSl (rows:=[[.string ⟨#[71]⟩,.int .i64 0],[.string ⟨#[72]⟩,.int .i64 4],[.string ⟨#[75]⟩,.int .i64 5]]) (by simp) rfl rfl) ((((((((((((((Keeps.refl _).alloc _).alloc _).alloc _).alloc _).alloc _).alloc _).alloc _).alloc _).alloc _).alloc _).alloc _).alloc _).alloc _)
 ·exact newSl (rows:=(yX H).map RV.row) (by intro r hr;obtain⟨y,_,rfl⟩:=List.mem_map.1 hr;rfl) rfl rfl
 ·intro x hx
  have b4:IL (yK H) (slc (H.n+4) 0 2 2) [1,2]:=Sl.keeps (newSl (rows:=[[.int .i64 1],[.int .i64 2]]) (by simp) rfl rfl) (((((((((((((Keeps.refl _).alloc _).alloc _).alloc _).alloc _).alloc _).alloc _).alloc _).alloc _).alloc _).alloc _).alloc _).alloc _)
  have b5:NL (yK H) (slc (H.n+5) 0 2 2) [(0,false),(1,false)]:=Sl.keeps (newSl (rows:=[[.int .i64 0,.bool false],[.int .i64 1,.bool false]]) (by simp) rfl rfl) ((((((((((((Keeps.refl _).alloc _).alloc _).alloc _).alloc _).alloc _).alloc _).alloc _).alloc _).alloc _).alloc _).alloc _)
  have b6:IL (yK H) (slc (H.n+6) 0 1 1) [3]:=Sl.keeps (newSl (rows:=[[.int .i64 3]]) (by simp) rfl rfl) (((((((((((Keeps.refl _).alloc _).alloc _).alloc _).alloc _).alloc _).alloc _).alloc _).alloc _).alloc _).alloc _)
  have b7:IL (yK H) (slc (H.n+7) 0 2 2) [1,5]:=Sl.keeps (newSl (rows:=[[.int .i64 1],[.int .i64 5]]) (by simp) rfl rfl) ((((((((((Keeps.refl _).alloc _).alloc _).alloc _).alloc _).alloc _).alloc _).alloc _).alloc _).alloc _)
  have b8:NL (yK H) (slc (H.n+8) 0 1 1) [(0,true)]:=Sl.keeps (newSl (rows:=[[.int .i64 0,.bool true]]) (by simp) rfl rfl) (((((((((Keeps.refl _).alloc _).alloc _).alloc _).alloc _).alloc _).alloc _).alloc _).alloc _)
  have b9:IL (yK H) (slc (H.n+9) 0 2 2) [3,2]:=Sl.keeps (newSl (rows:=[[.int .i64 3],[.int .i64 2]]) (by simp) rfl rfl) ((((((((Keeps.refl _).alloc _).alloc _).alloc _).alloc _).alloc _).alloc _).alloc _)
  have b10:NL (yK H) (slc (H.n+10) 0 1 1) [(1,false)]:=Sl.keeps (newSl (rows:=[[.int .i64 1,.bool false]]) (by simp) rfl rfl) (((((((Keeps.refl _).alloc _).alloc _).alloc _).alloc _).alloc _).alloc _)
  have b11:IL (yK H) (slc (H.n+11) 0 1 1) [4]:=Sl.keeps (newSl (rows:=[[.int .i64 4]]) (by simp) rfl rfl) ((((((Keeps.refl _).alloc _).alloc _).alloc _).alloc _).alloc _)
  have b12:NL (yK H) (slc (H.n+12) 0 1 1) [(1,true)]:=Sl.keeps (newSl (rows:=[[.int .i64 1,.bool true]]) (by simp) rfl rfl) (((((Keeps.refl _).alloc _).alloc _).alloc _).alloc _)
  have b13:IL (yK H) (slc (H.n+13) 0 1 1) [3]:=Sl.keeps (newSl (rows:=[[.int .i64 3]]) (by simp) rfl rfl) ((((Keeps.refl _).alloc _).alloc _).alloc _)
  have b14:NL (yK H) (slc (H.n+14) 0 1 1) [(1,true)]:=Sl.keeps (newSl (rows:=[[.int .i64 1,.bool true]]) (by simp) rfl rfl) (((Keeps.refl _).alloc _).alloc _)
  have b15:IL (yK H) (slc (H.n+15) 0 1 1) [5]:=Sl.keeps (newSl (rows:=[[.int .i64 5]]) (by simp) rfl rfl) ((Keeps.refl _).alloc _)
  have iz:IL (yK H) (.slice none 0 0) []:=Sl.nil _ _
  have nz:NL (yK H) (.slice none 0 0) []:=Sl.nil _ _
  simp only[yX,List.mem_cons,List.not_mem_nil,or_false]at hx
  rcases hx with rfl|rfl|rfl|rfl|rfl
  ·exact⟨b4,b5,b6,nz⟩
  ·exact⟨b7,b8,iz,nz⟩
  ·exact⟨b9,b10,iz,nz⟩
  ·exact⟨b11,nz,iz,b12⟩
  ·exact⟨b13,b14,b15,nz⟩
theorem yL_ok:checkE yL=0:=by decide+kernel
theorem yL_in:LyIn 9223372036854775807 yL:=by
 refine⟨?_,?_,?_,?_⟩<;>decide
theorem G1(x a b c d e f:ByteArray):fillA [.string x,.string x,.string x,.string x,.string x,.string x] [(0,1,.string a),(1,1,.string b),(2,1,.string c),(3,1,.string d),(4,1,.string e),(5,1,.string f)]=some [.string a,.string b,.string c,.string d,.string e,.string f]:=rfl
theorem G2(a b c d e f g h:Value):fillA [e,f,g,h] [(0,2,.agg #[a,b]),(2,2,.agg #[c,d])]=some [a,b,c,d]:=rfl
theorem G3(a b c d e f g h i j k l:Value):fillA [g,h,i,j,k,l] [(0,2,.agg #[a,b]),(2,2,.agg #[c,d]),(4,2,.agg #[e,f])]=some [a,b,c,d,e,f]:=rfl
theorem G4(k:IntKind)(n m:Int)(b c:Bool):fillA [.int k n,.bool b] [(0,1,.int k m),(1,1,.bool c)]=some [.int k m,.bool c]:=rfl
theorem G5(k:IntKind)(n m:Int)(b:Bool):fillA [.int k n,.bool b] [(0,1,.int k m)]=some [.int k m,.bool b]:=rfl
theorem G6(k:IntKind)(n m:Int):fillA [.int k n] [(0,1,.int k m)]=some [.int k m]:=rfl
theorem H1(x a:ByteArray)(k:IntKind)(m n:Int)(b c d e f g h i j l o p:Nat):fillA [.string x,.int k m,.slice none 0 0,.slice none 0 0,.slice none 0 0,.slice none 0 0] [(0,1,.string a),(1,1,.int k n),(2,1,slc b c d e),(3,1,slc f g h i),(4,1,slc j l o p)]=some [.string a,.int k n,slc b c d e,slc f g h i,slc j l o p,.slice none 0 0]:=rfl
theorem H2(x a:ByteArray)(k:IntKind)(m n:Int)(b c d e f g h i:Nat):fillA [.string x,.int k m,.slice none 0 0,.slice none 0 0,.slice none 0 0,.slice none 0 0] [(0,1,.string a),(1,1,.int k n),(2,1,slc b c d e),(3,1,slc f g h i)]=some [.string a,.int k n,slc b c d e,slc f g h i,.slice none 0 0,.slice none 0 0]:=rfl
theorem H3(x a:ByteArray)(k:IntKind)(m n:Int)(b c d e f g h i:Nat):fillA [.string x,.int k m,.slice none 0 0,.slice none 0 0,.slice none 0 0,.slice none 0 0] [(0,1,.string a),(1,1,.int k n),(2,1,slc b c d e),(5,1,slc f g h i)]=some [.string a,.int k n,slc b c d e,.slice none 0 0,.slice none 0 0,slc f g h i]:=rfl
theorem H4(a0 b0 c0 d0 e0 f0 a1 b1 c1 d1 e1 f1 a2 b2 c2 d2 e2 f2 a3 b3 c3 d3 e3 f3 a4 b4 c4 d4 e4 f4:Value):fillA Z30L [(0,6,.agg #[a0,b0,c0,d0,e0,f0]),(6,6,.agg #[a1,b1,c1,d1,e1,f1]),(12,6,.agg #[a2,b2,c2,d2,e2,f2]),(18,6,.agg #[a3,b3,c3,d3,e3,f3]),(24,6,.agg #[a4,b4,c4,d4,e4,f4])]=some [a0,b0,c0,d0,e0,f0,a1,b1,c1,d1,e1,f1,a2,b2,c2,d2,e2,f2,a3,b3,c3,d3,e3,f3,a4,b4,c4,d4,e4,f4]:=rfl
set_option maxHeartbeats 4000000 in
theorem t27(H:AHeap):∃w H',ARun Tryz.prog 0 27 [] H w H'∧w=.agg (yU H).l.toArray∧H'=yK H:=by
 refine walk2 f27_ok f27_n ?_
 intro Q hq1 hq2
 simp(disch:=first|assumption|omega|(simp only[LN]<;>omega)|(simp(disch:=first|assumption|omega|(simp only[LN]<;>omega))only[row_alloc,row_set];assumption))only[f27,W_block,P3,seval,initFr,clsA,G1,F2,F3,F4,F8,G2,G3,G4,G5,G6,H1,H2,H3,H4,F5]
 have gg:(yK H).get H.n=some (.cells true false 4 (yU H).l 27):=Keeps.at_ (((((((((((((((((Keeps.refl _).alloc _).alloc _).alloc _).alloc _).alloc _).alloc _).alloc _).alloc _).alloc _).alloc _).alloc _).alloc _).alloc _).alloc _).alloc _).alloc _) (AHeap.get_alloc_new H _)
 refine hq2 _ _ ⟨.agg (yU H).l.toArray,?_,rfl,rfl⟩
 show resO [.cn 4 0] _ (yK H)=_
 rw[resC]
 show celln 4 (ptr H.n 0) (yK H)=_
 rw[cellnp,rangeA_e,gg];rfl
end Go.AM.Fd

set_option maxRecDepth 20000
namespace Go.AM.Fd
open Go.Proofs Go.AM.F
structure NwC (H K:AHeap) (c sb:Nat) (wh:Int) (L:Ly) (v:Chv):Prop where
 k:Keeps H K
 e:v.wh=wh∧v.sb=sb∧v.ep=0∧v.fl=0∧v.tk=false∧v.nx=.pointer none
 g:K.get c=some (.cells true false 79 (chl v Sta0) 99)
 l:LLen ⟨v.ls,v.lp,.slice none 0 0,v.lr⟩ L.s.length L.p.length L.r.length
 a:AgR K sb (sd0 wh)
 lc:H.n≤c
 ls:H.n≤sb
 m:∀S K',Chg S K K'→(∀b∈S,(b<H.n∨b=c∨b=sb∨K.n≤b)∧∀o r z c T,K.get b=some (.cells o r z c T)→¬(z=1∨z=2∨z=4∨z=5))→MaM K' v.iv L
theorem u9{H:AHeap}{u:V4}{xs:List RV}{L:Ly}{wh:Int}(h:LyR H u xs L)(hf:LyIn 9223372036854775807 L)(hw:wh=0∨wh=1)(he:checkE L=0):
 ∃w K,ARun Tryz.prog 0 9 [.int .i64 wh,.agg u.l.toArray] H w K∧∃c sb v,w=.tuple #[ptr c 0,.int .i64 0]∧NwC H K c sb wh L v:=by
 obtain⟨w,K,a,k,_,b⟩:=t9 (wh:=wh) h hf
 obtain⟨c,sb,v,e,h1,h2,h3,h4,h5,h6,h7⟩:=(b hw).2 he
 exact⟨w,K,a,c,sb,v,e,k,h1,h2,h3,h4,h5,h6,h7⟩
theorem NwC.lt{H K:AHeap}{c sb:Nat}{wh:Int}{L:Ly}{v:Chv}(h:NwC H K c sb wh L v):c<K.n∧sb<K.n∧c≠sb:=by
 obtain⟨_,_,_,g,_⟩:=h.a
 refine⟨AHeap.get_lt h.g,AHeap.get_lt g,fun e=>?_⟩
 subst e;rw[h.g]at g;cases g
theorem NwC.ty{H K:AHeap}{c sb:Nat}{wh:Int}{L:Ly}{v:Chv}(h:NwC H K c sb wh L v){Z:AHeap}(k:Keeps K Z):∀b,b=c∨b=sb→∀o r z c T,Z.get b=some (.cells o r z c T)→¬(z=1∨z=2∨z=4∨z=5):=by
 obtain⟨_,_,_,g,_⟩:=h.a
 rintro b (rfl|rfl) o r z D T e
 ·rw[k.at_ h.g]at e;cases e;decide
 ·rw[k.at_ g]at e;cases e;decide
theorem NwC.ch{H K Z:AHeap}{c sb:Nat}{wh:Int}{L:Ly}{v:Chv}{S:List Nat}(h:NwC H K c sb wh L v)(k:Keeps K Z)(hc:c∈S)(hs:sb∈S)(hS:∀b∈S,(b<H.n∨b=c∨b=sb∨K.n≤b)∧∀o r z c T,K.get b=some (.cells o r z c T)→¬(z=1∨z=2∨z=4∨z=5)):ChR ⟨Z,S⟩ Z c sb wh L (ch0 wh):=by
 obtain⟨e1,e2,e3,e4,e5,e6⟩:=h.e
 refine⟨v,⟨e1,e2,e3,e4,e5⟩,k.at_ h.g,h.l,e6,fun K' c'=>h.m S K' ((k.chg S).trans c' (fun x hx=>.inl hx)) hS,h.a.keeps k,sd0_ok wh,rfl,Chg.refl _ _,.inl hc,.inl hs⟩
structure TwoR (W:Wd) (H:AHeap) (a sa b sb:Nat) (p q:Int) (L:Ly) (A B:Ch):Prop where
 ca:ChR W H a sa p L A
 cb:ChR W H b sb q L B
 n:a≠b∧sa≠sb
theorem TwoR.swap{W:Wd}{H:AHeap}{a sa b sb:Nat}{p q:Int}{L:Ly}{A B:Ch}(h:TwoR W H a sa b sb p q L A B):TwoR W H b sb a sa q p L B A:=⟨h.cb,h.ca,fun e=>h.n.1 e.symm,fun e=>h.n.2 e.symm⟩
theorem TwoR.keeps{W:Wd}{H K:AHeap}{a sa b sb:Nat}{p q:Int}{L:Ly}{A B:Ch}(h:TwoR W H a sa b sb p q L A B)(k:Keeps H K):TwoR W K a sa b sb p q L A B:=⟨h.ca.keeps k,h.cb.keeps k,h.n⟩
theorem ChR.lt{W:Wd}{H:AHeap}{a sa:Nat}{p:Int}{L:Ly}{A:Ch}(h:ChR W H a sa p L A):a<H.n∧sa<H.n∧a≠sa:=by
 obtain⟨v,hv⟩:=h
 obtain⟨_,_,_,ga,_⟩:=hv.sd
 exact⟨AHeap.get_lt hv.g,AHeap.get_lt ga,hv.ne⟩
theorem ChR.o2{W:Wd}{H:AHeap}{a sa:Nat}{p:Int}{L:Ly}{A:Ch}(h:ChR W H a sa p L A):∀b∈[a,sa],∀o r z C T,H.get b=some (.cells o r z C T)→z≠2:=by
 obtain⟨v,hv⟩:=h
 exact fun b hb o r z C T e=>(hv.o68 b hb o r z C T e).2.1
theorem TwoR.step{W:Wd}{H K:AHeap}{a sa b sb:Nat}{p q:Int}{L:Ly}{A B A':Ch}(h:TwoR W H a sa b sb p q L A B)(c:Chg [a,sa] H K){sa':Nat}(hs:sa'=sa∨H.n≤sa')(hA:ChR W K a sa' p L A'):TwoR W K a sa' b sb p q L A' B:=by
 obtain⟨v,hv⟩:=h.ca
 obtain⟨w,hw⟩:=h.cb
 obtain⟨_,_,_,ga,_⟩:=hv.sd
 obtain⟨_,_,_,gb,_⟩:=hw.sd
 have n1:b≠sa:=fun e=>by subst e;rw[hw.g]at ga;cases ga
 have n2:sb≠a:=fun e=>by subst e;rw[hv.g]at gb;cases gb
 have lb:=AHeap.get_lt gb
 refine⟨hA,⟨w,hw.oth c (by simp;exact⟨fun e=>h.n.1 e.symm,n1⟩) (by simp;exact⟨n2,fun e=>h.n.2 e.symm⟩) (fun x hx=>?_) hv.o68⟩,h.n.1,?_⟩
 ·simp only[List.mem_cons,List.not_mem_nil,or_false]at hx
  rcases hx with rfl|rfl
  ·exact hv.wc
  ·exact hv.ws
 ·rcases hs with rfl|hs
  ·exact h.n.2
  ·omega
theorem NwC.two{H1 K1 H2 K2:AHeap}{a sa b sb:Nat}{p q:Int}{L:Ly}{v w:Chv}(h:NwC H1 K1 a sa p L v)(k:Keeps K1 H2)(h2:NwC H2 K2 b sb q L w):TwoR ⟨K2,[a,sa,b,sb]⟩ K2 a sa b sb p q L (ch0 p) (ch0 q):=by
 have l1:=h.lt
 have l2:=h2.lt
 have nk:=k.n
 have c2:=h2.lc
 have s2:=h2.ls
 refine⟨h.ch (k.trans h2.k) (by simp) (by simp) fun x hx=>?_,h2.ch (Keeps.refl _) (by simp) (by simp) fun x hx=>?_,by omega,by omega⟩
 ·simp only[List.mem_cons,List.not_mem_nil,or_false]at hx
  refine⟨by omega,fun o r z D T e=>?_⟩
  have lx:=AHeap.get_lt e
  exact h.ty (Keeps.refl _) x (by omega) o r z D T e
 ·simp only[List.mem_cons,List.not_mem_nil,or_false]at hx
  refine⟨by omega,fun o r z D T e=>?_⟩
  rcases hx with rfl|rfl|rfl|rfl
  ·exact h.ty (k.trans h2.k) _ (.inl rfl) o r z D T e
  ·exact h.ty (k.trans h2.k) _ (.inr rfl) o r z D T e
  ·exact h2.ty (Keeps.refl _) _ (.inl rfl) o r z D T e
  ·exact h2.ty (Keeps.refl _) _ (.inr rfl) o r z D T e
end Go.AM.Fd

set_option maxRecDepth 20000
namespace Go.AM.Fd
open Nat (reduceAdd reduceEqDiff reduceLT reduceLeDiff reduceMul reduceSub)
open Go.Proofs Go.AM.F
def cwx:Inp:=⟨fun _=>false,fun i=>(3:Nat).testBit i,fun _=>false⟩
def cwc:List (Int×Int):=[(1,0)]
theorem cwx_l(z:Value):inl cwx z=[.int .u64 0,.int .u32 3,.int .u32 0,z]:=by
 have h:Value.int .u32 3=S32 fun i=>(3:Nat).testBit i:=by
  show Value.int .u32 ((3:Nat):Int)=_
  unfold S32
  rw[bits_of (by decide)]
 show[S64 _,S32 _,S32 _,z]=_
 rw[s_zero,p_zero,h];rfl
theorem cwx_in:inR 6 2 5 cwx cwc=true:=by decide+kernel
theorem cw_rst:rstB yL Sta0 1 0=true:=by decide+kernel
def cwC(wh:Int):Ch:=⟨Sta0,1,0,sd0 wh,false,none⟩
theorem cw_rstS(C:Ch)(wh:Int):rstS yL C wh Sta0 1 0=cwC wh:=by unfold rstS;rw[cw_rst];rfl
theorem cw_rstE:rstE yL Sta0 1 0=0:=by unfold rstE;rw[cw_rst];rfl
def cwR(wh:Int):Rd:=⟨wh,1,cwx,cwc⟩
def cwD(wh:Int):Ch:={cwC wh with sd:=⟨wh,1,some (cwR wh),none,none,false⟩,tk:=false,nx:=none}
theorem cw_bgB(wh:Int):bgB yL (cwC wh) 1 cwx cwc=true:=by
 have:=cwx_in
 unfold bgB
 rw[show yL.s.length=6 from rfl,show yL.p.length=2 from rfl,show yL.r.length=5 from rfl,this];rfl
theorem cw_bgS(wh:Int):bgS yL (cwC wh) 1 cwx cwc=cwD wh:=by unfold bgS;rw[cw_bgB];rfl
theorem cw_bgR(wh:Int):bgR yL (cwC wh) 1 cwx cwc=cwR wh:=by unfold bgR;rw[cw_bgB];rfl
theorem cw_bgE(wh:Int):bgE yL (cwC wh) 1 cwx cwc=0:=by unfold bgE;rw[cw_bgB];rfl
def cwE(wh oth:Int):Ch:={cwD wh with sd:=⟨wh,1,some (cwR wh),some (cwR oth),none,false⟩}
theorem cw_hin(wh:Int):inR yL.s.length yL.p.length yL.r.length (cwR wh).x (cwR wh).c=true:=cwx_in
theorem cw_heaS:hhS yL (cwD 0) (cwR 1)=cwE 0 1∧hhS yL (cwD 1) (cwR 0)=cwE 1 0∧hhE yL (cwD 0) (cwR 1)=0∧hhE yL (cwD 1) (cwR 0)=0:=by
 unfold hhS hhE
 rw[cw_hin,cw_hin]
 exact⟨rfl,rfl,rfl,rfl⟩
def cwT:Sta:=stepD yL Sta0 (mrgX cwx cwx) (mrgC cwc cwc)
theorem cw_pr:(((bitsN (fun i=>decide (i<yL.r.length)&&proD yL (mrgX cwx cwx) cwT i) 64:Nat):Int)==1)=true:=by decide+kernel
theorem cw_lo:(((bitsN cwT.lo 64:Nat):Int)==1)=true:=by decide+kernel
theorem cwR_ok(wh:Int):ROk (cwR wh):=⟨by show cwc.length≤1000;decide,by show∀c∈cwc,_;decide⟩
theorem cs_eq1(f:Nat→Bool):binA .eql (S64 f) (.int .u64 1)=some (.bool (((bitsN f 64:Nat):Int)==1)):=by unfold S64;rw[b_eql]
theorem ceq_fr(a b c d:Int)(f:Nat→Bool)(g:Nat→Bool)(H:AHeap):asem (.eqs [1,1,1,1] false (.agg #[.int .i64 a,.int .i64 b,S64 f,S32 g]) (.agg #[.int .i64 a,.int .i64 b,S64 f,S32 g])) H=some (.bool true,H):=by
 simp[asem,eqCs,eqC,S64,S32]
theorem fillCw:fillA [.int .u8 0,.int .i64 0] [(0,1,.int .u8 1)]=some [.int .u8 1,.int .i64 0]:=rfl
theorem fillCw2:fillA [.int .u8 0,.int .i64 0] [(0,2,.agg #[.int .u8 1,.int .i64 0])]=some [.int .u8 1,.int .i64 0]:=rfl
theorem fillCi(z:Value)(h:isS z=true):fillA [.int .u64 0,.int .u32 0,.int .u32 0,.slice none 0 0] [(1,1,.int .u32 3),(3,1,z)]=some [.int .u64 0,.int .u32 3,.int .u32 0,z]:=by
 obtain⟨_,_,_,rfl⟩:=isS_inv h;rfl
set_option maxHeartbeats 8000000 in
theorem t8(H:AHeap):∃w K,ARun Tryz.prog 0 8 [] H w K∧w=.bool true∧K=H:=by
 refine gcb ?_
 refine walk2 f8_ok f8_n ?_
 intro Q hq1 hq2
 simp(disch:=first|assumption|omega)only[f8,W_block,P3,seval,initFr,clsA]
 refine callQ (t27 H) ?_
 have hul:(yU H).l=[(yU H).s,(yU H).p,(yU H).g,(yU H).r]:=rfl
 have ho:=ly_ones (yK_ly H)
 have ll:(yU H).l.length=4:=rfl
 obtain⟨K0,hK0⟩:∃X,X=(yK H).alloc (.cells true false 4 (yU H).l 27):=⟨_,rfl⟩
 have k0:Keeps (yK H) K0:=by rw[hK0];exact(Keeps.refl _).alloc _
 have gl0:K0.get (yK H).n=some (.cells true false 4 (yU H).l 27):=by rw[hK0];exact AHeap.get_alloc_new (yK H) _
 have hl0:=(yK_ly H).keeps k0
 have hs4:∀(h:AHeap) (b:Nat) (c:List Value),c.length=4→∀(r:Bool) (T:Nat),stnO h b 0 4 (yU H).l (some (.cells true r 4 c T))=some (undef,h.set b (.cells true r 4 (yU H).l T)):=fun h b c hc r T=>by
  rw[stn_full hc,if_pos ⟨ll,ho⟩]
 simp(disch:=first|assumption|omega|(simp only[LN]<;>omega)|(simp(disch:=first|assumption|omega|(simp only[LN]<;>omega))only[row_alloc,row_set];assumption))only[W_block,P3,seval,initFr,clsA,ho,ll,hs4]
 rw[←hK0]
 refine callK (u9 (wh:=0) hl0 yL_in (.inl rfl) yL_ok) ?_
 rintro _ K1 ⟨a,sa,va,rfl,na⟩
 have gl1:=na.k.at_ gl0
 have hl1:=hl0.keeps na.k
 simp(disch:=first|assumption|omega)only[W_block,P3,seval,initFr,clsA,gl1,rng_full,ll]
 refine callK (u9 (wh:=1) hl1 yL_in (.inr rfl) yL_ok) ?_
 rintro _ K2 ⟨b,sb,vb,rfl,nb⟩
 have tw:=na.two (Keeps.refl K1) nb
 obtain⟨W,hW⟩:∃W:Wd,W=⟨K2,[a,sa,b,sb]⟩:=⟨_,rfl⟩
 rw[←hW]at tw
 have kH:Keeps H K2:=((yK_k H).trans k0).trans (na.k.trans nb.k)
 simp(disch:=first|assumption|omega)only[W_block,P3,seval,initFr,clsA,Z68N_z]
 refine callK (t11 tw.ca (.inl rfl) yL_ok Sta0 1 0) ?_
 rintro _ K3 ⟨rfl,c3,sa',hs3,hA⟩
 rw[cw_rstE]
 rw[cw_rstS]at hA
 have tw:=tw.step c3 hs3 hA
 simp(disch:=first|assumption|omega)only[W_block,P3,seval,initFr,clsA,Z68N_z]
 refine callK (t11 tw.cb (.inr rfl) yL_ok Sta0 1 0) ?_
 rintro _ K4 ⟨rfl,c4,sb',hs4',hB⟩
 rw[cw_rstE]
 rw[cw_rstS]at hB
 have tw:=(tw.swap.step c4 hs4' hB).swap
 simp(disch:=first|assumption|omega)only[W_block,P3,seval,initFr,clsA,Z68N_z]
 refine callK (t15 tw.ca yL_ok) ?_
 rintro _ K5 ⟨rfl,c5,hA⟩
 have e5:thW yL (cwC 0)=.tuple #[.agg (stl Sta0).toArray,.agg (frl 0 0 [.int .u64 0,.int .u32 0]).toArray,.int .i64 4]:=rfl
 have e5':thC yL (cwC 0)=cwC 0:=rfl
 rw[e5]
 rw[e5']at hA
 have tw:=tw.step c5 (.inl rfl) hA
 have ef0:frl 0 0 [.int .u64 0,.int .u32 0]=[.int .i64 0,.int .i64 0,.int .u64 0,.int .u32 0]:=rfl
 rw[ef0]
 have fi:=fillCi (slc (K5.n+1+1) 0 1 1) rfl
 obtain⟨K6,hK6⟩:∃X,X=(((K5.alloc (.cells true false 68 (stl Sta0) 43)).alloc (.cells true false 4 [.int .i64 0,.int .i64 0,.int .u64 0,.int .u32 0] 56)).alloc (.cells true false 2 [.int .u8 1,.int .i64 0] 83)).alloc (.cells true false 4 (inl cwx (slc (K5.n+1+1) 0 1 1)) 46):=⟨_,rfl⟩
 have k6:Keeps K5 K6:=by rw[hK6];exact((((Keeps.refl _).alloc _).alloc _).alloc _).alloc _
 have n6:K6.n=K5.n+4:=by rw[hK6];rfl
 have gi6:K6.get (K5.n+1+1+1)=some (.cells true false 4 (inl cwx (slc (K5.n+1+1) 0 1 1)) 46):=by rw[hK6];exact AHeap.get_alloc_new (((K5.alloc _).alloc _).alloc _) _
 have sc6:SlC K6 2 (slc (K5.n+1+1) 0 1 1) (cwc.map cRow):=by
  rw[hK6]
  have h1:SlC (((K5.alloc (.cells true false 68 (stl Sta0) 43)).alloc (.cells true false 4 [.int .i64 0,.int .i64 0,.int .u64 0,.int .u32 0] 56)).alloc (.cells true false 2 [.int .u8 1,.int .i64 0] 83)) 2 (slc (K5.n+1+1) 0 1 1) (cwc.map cRow):=
   ⟨newSl (H:=(K5.alloc _).alloc _) (rows:=[[.int .u8 1,.int .i64 0]]) (by simp) rfl rfl,.inr (.inr ⟨_,1,1,_,_,_,_,rfl,Nat.le_refl _,AHeap.get_alloc_new ((K5.alloc _).alloc _) _⟩)⟩
  exact h1.keeps ((Keeps.refl _).alloc _)
 rw[cwx_l]at hK6 gi6
 have tw5:=tw
 have tw:=tw.keeps k6
 simp(disch:=first|assumption|omega|(simp only[LN]<;>omega)|(simp(disch:=first|assumption|omega|(simp only[LN]<;>omega))only[row_alloc,row_set];assumption))only[W_block,P3,seval,initFr,clsA,Z68N_z,stl_one,stl_len,stn68s,fillCw,fillCw2,fi]
 rw[←hK6]
 have tB:=t13 tw.ca 1 (x:=cwx) sc6 (by decide) (by decide)
 rw[cwx_l,cw_bgS,cw_bgR,cw_bgE]at tB
 refine callK tB ?_
 rintro _ K7 ⟨c7,hA,y7,rfl,hy7⟩
 have er:∀wh y,rdl (cwR wh) y=[.int .i64 wh,.int .i64 1,S64 cwx.oc,S32 cwx.nr,S32 cwx.rv,y]:=fun _ _=>rfl
 have oy7:=Sl.one hy7.s
 obtain⟨la,lsa,_⟩:=tw.ca.lt
 obtain⟨lb,lsb,_⟩:=tw.cb.lt
 obtain⟨l5a,l5sa,_⟩:=tw5.ca.lt
 obtain⟨l5b,l5sb,_⟩:=tw5.cb.lt
 have gi7:=c7.at_ gi6 (by simp;omega)
 have sc7:=sc6.oth c7 tw.ca.o2
 have tw:=tw.step c7 (.inl rfl) hA
 have n7:=c7.n
 obtain⟨K8,hK8⟩:∃X,X=K7.alloc (.cells true false 6 (rdl (cwR 0) y7) 49):=⟨_,rfl⟩
 have k8:Keeps K7 K8:=by rw[hK8];exact(Keeps.refl _).alloc _
 have g8:K8.get K7.n=some (.cells true false 6 (rdl (cwR 0) y7) 49):=by rw[hK8];exact AHeap.get_alloc_new K7 _
 have gi8:=k8.at_ gi7
 have tw:=tw.keeps k8
 have tB:=t13 tw.cb 1 (x:=cwx) (sc7.keeps k8) (by decide) (by decide)
 rw[cwx_l,cw_bgS,cw_bgR,cw_bgE]at tB
 rw[er]at hK8 g8 ⊢
 simp(disch:=first|assumption|omega|(simp only[LN]<;>omega)|(simp(disch:=first|assumption|omega|(simp only[LN]<;>omega))only[row_alloc,row_set];assumption))only[W_block,P3,seval,initFr,clsA,oy7,gi7,o_s64,o_s32,one_s64,one_s32]
 rw[←hK8]
 refine callK tB ?_
 rintro _ K9 ⟨c9,hB,y9,rfl,hy9⟩
 have oy9:=Sl.one hy9.s
 have n8:=k8.n
 have n9:=c9.n
 have g9:=c9.at_ g8 (by simp;omega)
 have h7:=(hy7.keeps k8).oth c9 tw.cb.o2
 have tw:=(tw.swap.step c9 (.inl rfl) hB).swap
 obtain⟨K10,hK10⟩:∃X,X=K9.alloc (.cells true false 6 (rdl (cwR 1) y9) 49):=⟨_,rfl⟩
 have k10:Keeps K9 K10:=by rw[hK10];exact(Keeps.refl _).alloc _
 have g10:K10.get K9.n=some (.cells true false 6 (rdl (cwR 1) y9) 49):=by rw[hK10];exact AHeap.get_alloc_new K9 _
 have g10':=k10.at_ g9
 have tw:=tw.keeps k10
 have tH:=t14 tw.ca (cwR_ok 1) (hy9.keeps k10)
 obtain⟨w1,w2,w3,w4⟩:=cw_heaS
 rw[w1,w3]at tH
 rw[er]at hK10 g10 tH ⊢
 simp(disch:=first|assumption|omega|(simp only[LN]<;>omega)|(simp(disch:=first|assumption|omega|(simp only[LN]<;>omega))only[row_alloc,row_set];assumption))only[W_block,P3,seval,initFr,clsA,oy9,o_s64,o_s32,one_s64,one_s32]
 rw[←hK10]
 refine callK tH ?_
 rintro _ K11 ⟨rfl,c11,hA⟩
 have g11:=c11.at_ g10' (by simp;omega)
 have n10:=k10.n
 have l7:K7.n<K10.n:=AHeap.get_lt g10'
 have h8:=(h7.keeps k10).oth c11 tw.ca.o2
 have tw:=tw.step c11 (.inl rfl) hA
 have tH:=t14 tw.cb (cwR_ok 0) h8
 rw[w2,w4,er]at tH
 simp(disch:=first|assumption|omega|(simp only[LN]<;>omega)|(simp(disch:=first|assumption|omega|(simp only[LN]<;>omega))only[row_alloc,row_set];assumption))only[W_block,P3,seval,initFr,clsA,g11,l7]
 refine⟨g10'.symm,callK tH ?_⟩
 rintro _ K12 ⟨rfl,c12,hB⟩
 have tw:=(tw.swap.step c12 (.inl rfl) hB).swap
 have n11:=c11.n
 have n12:=c12.n
 simp(disch:=first|assumption|omega)only[W_block,P3,seval,initFr,clsA]
 refine callK (t15 tw.ca yL_ok) ?_
 rintro _ K13 ⟨rfl,c13,hA⟩
 have n13:=c13.n
 have tw:=tw.step c13 (.inl rfl) hA
 have ew:∀p q,thW yL (cwE p q)=.tuple #[.agg (stl cwT).toArray,.agg #[.int .i64 1,.int .i64 1,S64 fun i=>decide (i<yL.r.length)&&proD yL (mrgX cwx cwx) cwT i,S32 cwT.po],.int .i64 0]:=fun _ _=>rfl
 rw[ew]
 obtain⟨f,hf⟩:∃f:Nat→Bool,f=fun i=>decide (i<yL.r.length)&&proD yL (mrgX cwx cwx) cwT i:=⟨_,rfl⟩
 rw[←hf]
 obtain⟨K14,hK14⟩:∃X,X=(K13.alloc (.cells true false 68 (stl cwT) 43)).alloc (.cells true false 4 [.int .i64 1,.int .i64 1,S64 f,S32 cwT.po] 56):=⟨_,rfl⟩
 have k14:Keeps K13 K14:=by rw[hK14];exact((Keeps.refl _).alloc _).alloc _
 have gs14:K14.get K13.n=some (.cells true false 68 (stl cwT) 43):=by rw[hK14];exact((Keeps.refl _).alloc _).at_ (AHeap.get_alloc_new K13 _)
 have gf14:K14.get (K13.n+1)=some (.cells true false 4 [.int .i64 1,.int .i64 1,S64 f,S32 cwT.po] 56):=by rw[hK14];exact AHeap.get_alloc_new (K13.alloc _) _
 have tw:=tw.keeps k14
 simp(disch:=first|assumption|omega|(simp only[LN]<;>omega)|(simp(disch:=first|assumption|omega|(simp only[LN]<;>omega))only[row_alloc,row_set];assumption))only[W_block,P3,seval,initFr,clsA,Z68N_z,stl_one,stl_len,stn68s,o_s64,o_s32,one_s64,one_s32]
 rw[←hK14]
 refine callK (t15 tw.cb yL_ok) ?_
 rintro _ K15 ⟨rfl,c15,hB⟩
 have n14:=k14.n
 have n15:=c15.n
 have gs15:=c15.at_ gs14 (by simp;omega)
 have gf15:=c15.at_ gf14 (by simp;omega)
 have tw:=(tw.swap.step c15 (.inl rfl) hB).swap
 rw[ew,←hf]
 obtain⟨K16,hK16⟩:∃X,X=(K15.alloc (.cells true false 68 (stl cwT) 43)).alloc (.cells true false 4 [.int .i64 1,.int .i64 1,S64 f,S32 cwT.po] 56):=⟨_,rfl⟩
 have k16:Keeps K15 K16:=by rw[hK16];exact((Keeps.refl _).alloc _).alloc _
 have tw:=tw.keeps k16
 have ls15:=AHeap.get_lt gs15
 have lf15:=AHeap.get_lt gf15
 have eqs:∀K,asem (.eqs O68N false (.agg (stl cwT).toArray) (.agg (stl cwT).toArray)) K=some (.bool true,K):=fun K=>(eq_stl K false cwT cwT).trans (by rw[staB_rfl];rfl)
 have eqf:=fun K=>ceq_fr 1 1 0 0 f cwT.po K
 have pr:=cw_pr
 rw[←hf]at pr
 simp(disch:=first|assumption|omega|(simp only[LN]<;>omega)|(simp(disch:=first|assumption|omega|(simp only[LN]<;>omega))only[row_alloc,row_set];assumption))only[W_block,P3,seval,initFr,clsA,Z68N_z,stl_one,stl_len,stn68s,o_s64,o_s32,one_s64,one_s32,gs15,gf15,rng68,eqs,eqf,cs_eq1,pr]
 rw[←hK16]
 refine callK (t17 tw.ca) ?_
 rintro _ K17 ⟨rfl,c17,hA⟩
 have et:tkE (thC yL (cwE 0 1))=0:=rfl
 have es:tkS (thC yL (cwE 0 1))={cwE 0 1 with s:=cwT,nx:=none,tk:=true}:=rfl
 rw[es]at hA
 rw[et]
 simp(disch:=first|assumption|omega)only[W_block,P3,seval,initFr,clsA]
 refine callQ (t18 hA) ?_
 have lo:=cw_lo
 have a0:=na.lc
 have s0:=na.ls
 have b0:=nb.lc
 have t0:=nb.ls
 have nk0:=(yK_k H).n
 have nk1:=k0.n
 have nk2:=na.k.n
 have nk3:=nb.k.n
 have nk4:=c3.n
 have j3:=kH.chg_trans c3 (by simp;omega)
 have j4:=j3.chg_trans c4 (by simp;omega)
 have j5:=j4.chg_trans c5 (by simp;omega)
 have j7:=(j5.trans k6).chg_trans c7 (by simp;omega)
 have j9:=(j7.trans k8).chg_trans c9 (by simp;omega)
 have j11:=(j9.trans k10).chg_trans c11 (by simp;omega)
 have j12:=j11.chg_trans c12 (by simp;omega)
 have j13:=j12.chg_trans c13 (by simp;omega)
 have j15:=(j13.trans k14).chg_trans c15 (by simp;omega)
 have j17:=(j15.trans k16).chg_trans c17 (by simp;omega)
 simp(disch:=first|assumption|omega)only[W_block,P3,seval,initFr,clsA,stl_0,cs_eq1,lo]
 exact hq2 _ _ ⟨.bool true,rfl,rfl,j17⟩
end Go.AM.Fd

set_option maxRecDepth 100000
namespace Go.AM.F
def Z68O:List Value:=[(.int .u64 0),(.int .u64 0),(.int .u64 0)]++List.replicate 64 (.int .u8 0)++[(.int .u32 0)]
def O68O:List Nat:=List.replicate 68 1
def f3:AFunc:=⟨[0,1,2,3,4,8,9,10,11,12,13,14,15,16,17,18,19,20,21,22,23,24,25,33,73,84,120,163,210,235],
 .seq (.reg [
 ⟨.box 27 4 (.fr 0),.fr 4,none⟩,
 ⟨.mov (.c (.bool false)),.fr 5,none⟩]) <|
 .seq (.seq (.reg [
 ⟨.loadn 4 (.fr 4),.tm,none⟩,
 ⟨.callf 7 [(.tm 0),(.c (.int .i64 300))],.tm,none⟩,
 ⟨.bin .gtr (.tm 0) (.c (.int .i64 300)),.tm,none⟩,
 ⟨.mov (.tm 0),.tm,none⟩,
 ⟨.mov (.fr 1),.tm,some ((.tm 0),false)⟩,
 ⟨.len false (.tm 0),.tm,some ((.tm 1),false)⟩,
 ⟨.bin .gtr (.tm 0) (.c (.int .i64 40)),.tm,some ((.tm 2),false)⟩,
 ⟨.pick (.tm 3) (.c (.bool true)) (.tm 0),.fr 23,none⟩]) <|
 .cond (.fr 23)
 (.seq (.reg [
 ⟨.callf 8 [],.tm,none⟩,
 ⟨.mov (.tm 0),.fr 5,none⟩]) <|
 .ret)
 (.skip)) <|
 .seq (.reg [
 ⟨.loadn 4 (.fr 4),.tm,none⟩,
 ⟨.callf 9 [(.c (.int .i64 0)),(.tm 0)],.tm,none⟩,
 ⟨.mov (.tm 0),.tm,none⟩,
 ⟨.extract (.tm 0) 0,.tm,none⟩,
 ⟨.extract (.tm 1) 1,.tm,none⟩,
 ⟨.mov (.tm 1),.fr 6,none⟩,
 ⟨.mov (.tm 0),.fr 7,none⟩]) <|
 .seq (.reg [
 ⟨.loadn 4 (.fr 4),.tm,none⟩,
 ⟨.callf 9 [(.c (.int .i64 1)),(.tm 0)],.tm,none⟩,
 ⟨.mov (.tm 0),.tm,none⟩,
 ⟨.extract (.tm 0) 0,.tm,none⟩,
 ⟨.extract (.tm 1) 1,.tm,none⟩,
 ⟨.mov (.tm 1),.fr 8,none⟩,
 ⟨.mov (.tm 0),.fr 9,none⟩]) <|
 .seq (.reg [
 ⟨.loadn 4 (.fr 4),.tm,none⟩,
 ⟨.callf 10 [(.tm 0)],.tm,none⟩,
 ⟨.mov (.tm 0),.tm,none⟩,
 ⟨.extract (.tm 0) 0,.tm,none⟩,
 ⟨.extract (.tm 1) 1,.tm,none⟩,
 ⟨.mov (.tm 1),.fr 10,none⟩,
 ⟨.mov (.tm 0),.fr 11,none⟩]) <|
 .seq (.seq (.reg [
 ⟨.mov (.fr 7),.tm,none⟩,
 ⟨.bin .neq (.tm 0) (.c (.int .i64 0)),.tm,none⟩,
 ⟨.mov (.tm 0),.tm,none⟩,
 ⟨.mov (.fr 9),.tm,some ((.tm 0),false)⟩,
 ⟨.bin .neq (.tm 0) (.c (.int .i64 0)),.tm,some ((.tm 1),false)⟩,
 ⟨.pick (.tm 2) (.c (.bool true)) (.tm 0),.tm,none⟩,
 ⟨.mov (.tm 0),.tm,none⟩,
 ⟨.mov (.fr 11),.tm,some ((.tm 0),false)⟩,
 ⟨.bin .neq (.tm 0) (.c (.int .i64 0)),.tm,some ((.tm 1),false)⟩,
 ⟨.pick (.tm 2) (.c (.bool true)) (.tm 0),.tm,none⟩,
 ⟨.mov (.tm 0),.tm,none⟩,
 ⟨.mov (.fr 6),.tm,some ((.tm 0),false)⟩,
 ⟨.build Z68O [],.tm,some ((.tm 1),false)⟩,
 ⟨.mov (.fr 3),.tm,some ((.tm 2),false)⟩,
 ⟨.callf 11 [(.tm 2),(.tm 1),(.tm 0),(.c (.int .i64 0))],.tm,some ((.tm 3),false)⟩,
 ⟨.bin .neq (.tm 0) (.c (.int .i64 0)),.tm,some ((.tm 4),false)⟩,
 ⟨.pick (.tm 5) (.c (.bool true)) (.tm 0),.tm,none⟩,
 ⟨.mov (.tm 0),.tm,none⟩,
 ⟨.mov (.fr 8),.tm,some ((.tm 0),false)⟩,
 ⟨.build Z68O [],.tm,some ((.tm 1),false)⟩,
 ⟨.mov (.fr 3),.tm,some ((.tm 2),false)⟩,
 ⟨.callf 11 [(.tm 2),(.tm 1),(.tm 0),(.c (.int .i64 0))],.tm,some ((.tm 3),false)⟩,
 ⟨.bin .neq (.tm 0) (.c (.int .i64 0)),.tm,some ((.tm 4),false)⟩,
 ⟨.pick (.tm 5) (.c (.bool true)) (.tm 0),.fr 24,none⟩]) <|
 .cond (.fr 24)
 (.seq (.reg [
 ⟨.callf 8 [],.tm,none⟩,
 ⟨.mov (.tm 0),.fr 5,none⟩]) <|
 .ret)
 (.skip)) <|
 .seq (.seq (.reg [
 ⟨.mov (.c (.int .i64 0)),.fr 12,none⟩]) <|
 .block 0 (.loop (.seq (.seq (.reg [
 ⟨.mov (.fr 12),.tm,none⟩,
 ⟨.mov (.fr 1),.tm,none⟩,
 ⟨.len false (.tm 0),.tm,none⟩,
 ⟨.bin .lss (.tm 2) (.tm 0),.tm,none⟩,
 ⟨.mov (.tm 0),.tm,none⟩,
 ⟨.mov (.fr 12),.tm,some ((.tm 0),true)⟩,
 ⟨.mov (.fr 2),.tm,some ((.tm 1),true)⟩,
 ⟨.len false (.tm 0),.tm,some ((.tm 2),true)⟩,
 ⟨.bin .lss (.tm 2) (.tm 0),.tm,some ((.tm 3),true)⟩,
 ⟨.pick (.tm 4) (.tm 0) (.c (.bool false)),.fr 25,none⟩]) <|
 .cond (.fr 25)
 (.skip)
 (.exit 0)) <|
 .seq (.block 1 (.seq (.seq (.dreg [
 (⟨.mov (.fr 1),.tm,none⟩,[]),
 (⟨.mov (.fr 12),.tm,none⟩,[]),
 (⟨.iaddr 4 (.tm 1) (.tm 0),.tm,none⟩,[]),
 (⟨.faddr 3 (.tm 0),.tm,none⟩,[]),
 (⟨.load1 (.tm 0),.tm,none⟩,[]),
 (⟨.len false (.tm 0),.tm,none⟩,[]),
 (⟨.bin .gtr (.tm 0) (.c (.int .i64 20)),.tm,none⟩,[]),
 (⟨.mov (.tm 0),.tm,none⟩,[]),
 (⟨.mov (.fr 2),.tm,some ((.tm 0),false)⟩,[]),
 (⟨.mov (.fr 12),.tm,some ((.tm 1),false)⟩,[]),
 (⟨.iaddr 4 (.tm 1) (.tm 0),.tm,some ((.tm 2),false)⟩,[]),
 (⟨.faddr 3 (.tm 0),.tm,some ((.tm 3),false)⟩,[]),
 (⟨.load1 (.tm 0),.tm,some ((.tm 4),false)⟩,[]),
 (⟨.len false (.tm 0),.tm,some ((.tm 5),false)⟩,[]),
 (⟨.bin .gtr (.tm 0) (.c (.int .i64 20)),.tm,some ((.tm 6),false)⟩,[]),
 (⟨.pick (.tm 7) (.c (.bool true)) (.tm 0),.tm,none⟩,[]),
 (⟨.mov (.tm 0),.tm,none⟩,[]),
 (⟨.loadn 4 (.fr 4),.tm,some ((.tm 0),false)⟩,[]),
 (⟨.mov (.fr 1),.tm,some ((.tm 1),false)⟩,[]),
 (⟨.mov (.fr 12),.tm,some ((.tm 2),false)⟩,[]),
 (⟨.iaddr 4 (.tm 1) (.tm 0),.tm,some ((.tm 3),false)⟩,[]),
 (⟨.loadn 4 (.tm 0),.tm,some ((.tm 4),false)⟩,[]),
 (⟨.callf 12 [(.tm 4),(.tm 0)],.tm,some ((.tm 5),false)⟩,[]),
 (⟨.un .not (.tm 0),.tm,some ((.tm 6),false)⟩,[]),
 (⟨.pick (.tm 7) (.c (.bool true)) (.tm 0),.tm,none⟩,[]),
 (⟨.mov (.tm 0),.tm,none⟩,[]),
 (⟨.loadn 4 (.fr 4),.tm,some ((.tm 0),false)⟩,[]),
 (⟨.mov (.fr 2),.tm,some ((.tm 1),false)⟩,[]),
 (⟨.mov (.fr 12),.tm,some ((.tm 2),false)⟩,[]),
 (⟨.iaddr 4 (.tm 1) (.tm 0),.tm,some ((.tm 3),false)⟩,[]),
 (⟨.loadn 4 (.tm 0),.tm,some ((.tm 4),false)⟩,[]),
 (⟨.callf 12 [(.tm 4),(.tm 0)],.tm,some ((.tm 5),false)⟩,[]),
 (⟨.un .not (.tm 0),.tm,some ((.tm 6),false)⟩,[]),
 (⟨.pick (.tm 7) (.c (.bool true)) (.tm 0),.fr 26,none⟩,[])]) <|
 .cond (.fr 26)
 (.seq (.reg [
 ⟨.callf 8 [],.tm,none⟩,
 ⟨.mov (.tm 0),.fr 5,none⟩]) <|
 .ret)
 (.skip)) <|
 .seq (.reg [
 ⟨.mov (.fr 6),.tm,none⟩,
 ⟨.mov (.fr 12),.tm,none⟩,
 ⟨.bin .add (.tm 0) (.c (.int .i64 1)),.tm,none⟩,
 ⟨.mov (.fr 1),.tm,none⟩,
 ⟨.mov (.fr 12),.tm,none⟩,
 ⟨.iaddr 4 (.tm 1) (.tm 0),.tm,none⟩,
 ⟨.loadn 4 (.tm 0),.tm,none⟩,
 ⟨.callf 13 [(.tm 6),(.tm 4),(.tm 0)],.tm,none⟩,
 ⟨.mov (.tm 0),.tm,none⟩,
 ⟨.extract (.tm 0) 0,.tm,none⟩,
 ⟨.extract (.tm 1) 1,.tm,none⟩,
 ⟨.new 49 6 [(.int .i64 0),(.int .i64 0),(.int .u64 0),(.int .u32 0),(.int .u32 0),(.slice none 0 0)],.fr 13,none⟩,
 ⟨.storen 6 (.fr 13) (.tm 1),.no,none⟩,
 ⟨.mov (.tm 0),.fr 14,none⟩]) <|
 .seq (.reg [
 ⟨.mov (.fr 8),.tm,none⟩,
 ⟨.mov (.fr 12),.tm,none⟩,
 ⟨.bin .add (.tm 0) (.c (.int .i64 1)),.tm,none⟩,
 ⟨.mov (.fr 2),.tm,none⟩,
 ⟨.mov (.fr 12),.tm,none⟩,
 ⟨.iaddr 4 (.tm 1) (.tm 0),.tm,none⟩,
 ⟨.loadn 4 (.tm 0),.tm,none⟩,
 ⟨.callf 13 [(.tm 6),(.tm 4),(.tm 0)],.tm,none⟩,
 ⟨.mov (.tm 0),.tm,none⟩,
 ⟨.extract (.tm 0) 0,.tm,none⟩,
 ⟨.extract (.tm 1) 1,.tm,none⟩,
 ⟨.new 49 6 [(.int .i64 0),(.int .i64 0),(.int .u64 0),(.int .u32 0),(.int .u32 0),(.slice none 0 0)],.fr 15,none⟩,
 ⟨.storen 6 (.fr 15) (.tm 1),.no,none⟩,
 ⟨.mov (.tm 0),.fr 16,none⟩]) <|
 .seq (.seq (.reg [
 ⟨.mov (.fr 14),.tm,none⟩,
 ⟨.bin .neq (.tm 0) (.c (.int .i64 0)),.tm,none⟩,
 ⟨.mov (.tm 0),.tm,none⟩,
 ⟨.mov (.fr 16),.tm,some ((.tm 0),false)⟩,
 ⟨.bin .neq (.tm 0) (.c (.int .i64 0)),.tm,some ((.tm 1),false)⟩,
 ⟨.pick (.tm 2) (.c (.bool true)) (.tm 0),.tm,none⟩,
 ⟨.mov (.tm 0),.tm,none⟩,
 ⟨.mov (.fr 6),.tm,some ((.tm 0),false)⟩,
 ⟨.loadn 6 (.fr 15),.tm,some ((.tm 1),false)⟩,
 ⟨.iface 49 (.tm 0),.tm,some ((.tm 2),false)⟩,
 ⟨.callf 14 [(.tm 2),(.tm 0)],.tm,some ((.tm 3),false)⟩,
 ⟨.bin .neq (.tm 0) (.c (.int .i64 0)),.tm,some ((.tm 4),false)⟩,
 ⟨.pick (.tm 5) (.c (.bool true)) (.tm 0),.tm,none⟩,
 ⟨.mov (.tm 0),.tm,none⟩,
 ⟨.mov (.fr 8),.tm,some ((.tm 0),false)⟩,
 ⟨.loadn 6 (.fr 13),.tm,some ((.tm 1),false)⟩,
 ⟨.iface 49 (.tm 0),.tm,some ((.tm 2),false)⟩,
 ⟨.callf 14 [(.tm 2),(.tm 0)],.tm,some ((.tm 3),false)⟩,
 ⟨.bin .neq (.tm 0) (.c (.int .i64 0)),.tm,some ((.tm 4),false)⟩,
 ⟨.pick (.tm 5) (.c (.bool true)) (.tm 0),.fr 27,none⟩]) <|
 .cond (.fr 27)
 (.seq (.reg [
 ⟨.mov (.c (.bool false)),.fr 5,none⟩]) <|
 .ret)
 (.skip)) <|
 .seq (.reg [
 ⟨.mov (.fr 6),.tm,none⟩,
 ⟨.callf 15 [(.tm 0)],.tm,none⟩,
 ⟨.mov (.tm 0),.tm,none⟩,
 ⟨.extract (.tm 0) 0,.tm,none⟩,
 ⟨.extract (.tm 1) 1,.tm,none⟩,
 ⟨.extract (.tm 2) 2,.tm,none⟩,
 ⟨.new 43 68 Z68O,.fr 17,none⟩,
 ⟨.new 56 4 [(.int .i64 0),(.int .i64 0),(.int .u64 0),(.int .u32 0)],.fr 18,none⟩,
 ⟨.storen 68 (.fr 17) (.tm 2),.no,none⟩,
 ⟨.storen 4 (.fr 18) (.tm 1),.no,none⟩,
 ⟨.mov (.tm 0),.fr 19,none⟩]) <|
 .seq (.reg [
 ⟨.mov (.fr 8),.tm,none⟩,
 ⟨.callf 15 [(.tm 0)],.tm,none⟩,
 ⟨.mov (.tm 0),.tm,none⟩,
 ⟨.extract (.tm 0) 0,.tm,none⟩,
 ⟨.extract (.tm 1) 1,.tm,none⟩,
 ⟨.extract (.tm 2) 2,.tm,none⟩,
 ⟨.new 43 68 Z68O,.fr 20,none⟩,
 ⟨.new 56 4 [(.int .i64 0),(.int .i64 0),(.int .u64 0),(.int .u32 0)],.fr 21,none⟩,
 ⟨.storen 68 (.fr 20) (.tm 2),.no,none⟩,
 ⟨.storen 4 (.fr 21) (.tm 1),.no,none⟩,
 ⟨.mov (.tm 0),.fr 22,none⟩]) <|
 .seq (.seq (.reg [
 ⟨.mov (.fr 19),.tm,none⟩,
 ⟨.bin .neq (.tm 0) (.c (.int .i64 0)),.tm,none⟩,
 ⟨.mov (.tm 0),.tm,none⟩,
 ⟨.mov (.fr 22),.tm,some ((.tm 0),false)⟩,
 ⟨.bin .neq (.tm 0) (.c (.int .i64 0)),.tm,some ((.tm 1),false)⟩,
 ⟨.pick (.tm 2) (.c (.bool true)) (.tm 0),.tm,none⟩,
 ⟨.mov (.tm 0),.tm,none⟩,
 ⟨.loadn 68 (.fr 17),.tm,some ((.tm 0),false)⟩,
 ⟨.loadn 68 (.fr 20),.tm,some ((.tm 1),false)⟩,
 ⟨.eqs O68O true (.tm 1) (.tm 0),.tm,some ((.tm 2),false)⟩,
 ⟨.pick (.tm 3) (.c (.bool true)) (.tm 0),.tm,none⟩,
 ⟨.mov (.tm 0),.tm,none⟩,
 ⟨.loadn 4 (.fr 18),.tm,some ((.tm 0),false)⟩,
 ⟨.loadn 4 (.fr 21),.tm,some ((.tm 1),false)⟩,
 ⟨.eqs [1,1,1,1] true (.tm 1) (.tm 0),.tm,some ((.tm 2),false)⟩,
 ⟨.pick (.tm 3) (.c (.bool true)) (.tm 0),.tm,none⟩,
 ⟨.mov (.tm 0),.tm,none⟩,
 ⟨.faddr 0 (.fr 18),.tm,some ((.tm 0),false)⟩,
 ⟨.load1 (.tm 0),.tm,some ((.tm 1),false)⟩,
 ⟨.mov (.fr 12),.tm,some ((.tm 2),false)⟩,
 ⟨.bin .add (.tm 0) (.c (.int .i64 1)),.tm,some ((.tm 3),false)⟩,
 ⟨.bin .neq (.tm 2) (.tm 0),.tm,some ((.tm 4),false)⟩,
 ⟨.pick (.tm 5) (.c (.bool true)) (.tm 0),.tm,none⟩,
 ⟨.mov (.tm 0),.tm,none⟩,
 ⟨.faddr 1 (.fr 18),.tm,some ((.tm 0),false)⟩,
 ⟨.load1 (.tm 0),.tm,some ((.tm 1),false)⟩,
 ⟨.mov (.fr 3),.tm,some ((.tm 2),false)⟩,
 ⟨.bin .neq (.tm 1) (.tm 0),.tm,some ((.tm 3),false)⟩,
 ⟨.pick (.tm 4) (.c (.bool true)) (.tm 0),.tm,none⟩,
 ⟨.mov (.tm 0),.tm,none⟩,
 ⟨.mov (.fr 10),.tm,some ((.tm 0),false)⟩,
 ⟨.loadn 68 (.fr 17),.tm,some ((.tm 1),false)⟩,
 ⟨.callf 16 [(.tm 1),(.tm 0)],.tm,some ((.tm 2),false)⟩,
 ⟨.un .not (.tm 0),.tm,some ((.tm 3),false)⟩,
 ⟨.pick (.tm 4) (.c (.bool true)) (.tm 0),.fr 28,none⟩]) <|
 .cond (.fr 28)
 (.seq (.reg [
 ⟨.mov (.c (.bool false)),.fr 5,none⟩]) <|
 .ret)
 (.skip)) <|
 .seq (.dreg [
 (⟨.mov (.fr 6),.tm,none⟩,[]),
 (⟨.callf 17 [(.tm 0)],.tm,none⟩,[]),
 (⟨.bin .neq (.tm 0) (.c (.int .i64 0)),.tm,none⟩,[]),
 (⟨.mov (.tm 0),.tm,none⟩,[]),
 (⟨.mov (.fr 8),.tm,some ((.tm 0),false)⟩,[]),
 (⟨.callf 17 [(.tm 0)],.tm,some ((.tm 1),false)⟩,[]),
 (⟨.bin .neq (.tm 0) (.c (.int .i64 0)),.tm,some ((.tm 2),false)⟩,[]),
 (⟨.pick (.tm 3) (.c (.bool true)) (.tm 0),.tm,none⟩,[]),
 (⟨.mov (.tm 0),.tm,none⟩,[]),
 (⟨.mov (.fr 6),.tm,some ((.tm 0),false)⟩,[]),
 (⟨.callf 18 [(.tm 0)],.tm,some ((.tm 1),false)⟩,[]),
 (⟨.loadn 68 (.fr 17),.tm,some ((.tm 2),false)⟩,[10]),
 (⟨.eqs O68O true (.tm 1) (.tm 0),.tm,some ((.tm 3),false)⟩,[]),
 (⟨.pick (.tm 4) (.c (.bool true)) (.tm 0),.tm,none⟩,[]),
 (⟨.mov (.tm 0),.tm,none⟩,[]),
 (⟨.mov (.fr 8),.tm,some ((.tm 0),false)⟩,[]),
 (⟨.callf 18 [(.tm 0)],.tm,some ((.tm 1),false)⟩,[]),
 (⟨.loadn 68 (.fr 17),.tm,some ((.tm 2),false)⟩,[16]),
 (⟨.eqs O68O true (.tm 1) (.tm 0),.tm,some ((.tm 3),false)⟩,[]),
 (⟨.pick (.tm 4) (.c (.bool true)) (.tm 0),.tm,none⟩,[]),
 (⟨.mov (.tm 0),.tm,none⟩,[]),
 (⟨.mov (.fr 6),.tm,some ((.tm 0),false)⟩,[]),
 (⟨.callf 17 [(.tm 0)],.tm,some ((.tm 1),false)⟩,[]),
 (⟨.bin .neq (.tm 0) (.c (.int .i64 4)),.tm,some ((.tm 2),false)⟩,[]),
 (⟨.pick (.tm 3) (.c (.bool true)) (.tm 0),.fr 29,none⟩,[])]) <|
 .cond (.fr 29)
 (.seq (.reg [
 ⟨.mov (.c (.bool false)),.fr 5,none⟩]) <|
 .ret)
 (.skip))) <|
 .reg [
 ⟨.mov (.fr 12),.tm,none⟩,
 ⟨.bin .add (.tm 0) (.c (.int .i64 1)),.tm,none⟩,
 ⟨.mov (.tm 0),.fr 12,none⟩]))) <|
 .seq (.reg [
 ⟨.callf 8 [],.tm,none⟩,
 ⟨.mov (.tm 0),.fr 5,none⟩]) <|
 .ret,[.t 5]⟩
theorem f3_ok:compF Go.Proofs.Tryz.prog 0 [0,1,2,3,4,8,9,10,11,12,13,14,15,16,17,18,19,20,21,22,23,24,25,33,73,84,120,163,210,235] 3=some f3:=by kernel_rfl
theorem f3_n:argsOK Go.Proofs.Tryz.prog 3 4=true:=by kernel_rfl
end Go.AM.F

set_option maxRecDepth 20000
namespace Go.AM.Fd
open Go.Proofs Go.AM.F
structure RI (L:Ly) (s:Sta):Prop where
 lo:∀j,s.lo j=true→j<L.r.length
 us:∀j,s.us j=true→s.lo j=true
 ca:∀j,s.ca j=true→s.lo j=true
 ti:∀j,s.ti j≤20
 tz:∀j,s.ca j=false→s.ti j=0
 po:∀j,s.po j=true→j<L.p.length
 cf:∀i k,s.lo i=true→s.lo k=true→i≠k→cf L i k=false
 nd:∀i,s.lo i=true→∀z∈nds (ro L i),s.po z.1.toNat=z.2
theorem ri_0(L:Ly):RI L Sta0:=⟨fun _ h=>(by cases h),fun _ h=>(by cases h),fun _ h=>(by cases h),fun _=>Nat.zero_le _,fun _ _=>rfl,fun _ h=>(by cases h),fun _ _ h=>(by cases h),fun _ h=>(by cases h)⟩
theorem ri_tidy{L:Ly}{s:Sta}(h:RI L s):tidyS L s=s:=by
 obtain⟨lo,us,ca,ti,po⟩:=s
 have low:∀j,(lo j&&lowP L.r.length j)=lo j:=fun j=>by
  cases e:lo j with
  |false=>rfl
  |true=>have:=h.lo j e;unfold lowP;simp;omega
 unfold tidyS
 congr 1
 ·funext j;exact low j
 ·funext j
  show(us j&&(lo j&&lowP L.r.length j))=us j
  rw[low]
  cases e:us j with
  |false=>rfl
  |true=>rw[show lo j=true from h.us j e];rfl
 ·funext j
  show(ca j&&(lo j&&lowP L.r.length j))=ca j
  rw[low]
  cases e:ca j with
  |false=>rfl
  |true=>rw[show lo j=true from h.ca j e];rfl
 ·funext j
  show(if(ca j&&(lo j&&lowP L.r.length j))=true then min (ti j) 20 else 0)=ti j
  rw[low]
  have ht:ti j≤20:=h.ti j
  cases e:ca j with
  |false=>have:=h.tz j e;simp only at this;simp[this]
  |true=>rw[show lo j=true from h.ca j e];simp;omega
 ·funext j
  show(po j&&lowP L.p.length j)=po j
  cases e:po j with
  |false=>rfl
  |true=>have:=h.po j e;unfold lowP;simp;omega
theorem ri_right{L:Ly}{s:Sta}(h:RI L s):rgtD L s=true:=by
 unfold rgtD
 rw[ri_tidy h,staB_rfl,Bool.true_and,List.all_eq_true]
 intro i hi
 unfold iOK
 rw[Bool.and_eq_true,Bool.or_eq_true]
 refine⟨?_,?_⟩
 ·cases e:s.lo i with
  |false=>exact .inl rfl
  |true=>
   right
   rw[List.all_eq_true]
   intro k hk
   unfold kOK
   by_cases ek:i=k
   ·simp[ek]
   ·cases e2:s.lo k with
    |false=>simp
    |true=>simp[h.cf i k e e2 ek]
 ·rw[List.all_eq_true]
  intro z hz
  unfold nOK
  cases e:s.lo i with
  |false=>rfl
  |true=>rw[h.nd i e z hz];simp
theorem ri_side{L:Ly}(he:checkE L=0){i k:Nat}(hi:i<L.r.length)(hk:k<L.r.length)(hc:cf L i k=false){p:Int}{a b:Bool}(h1:(p,a)∈nds (ro L i))(h2:(p,b)∈nds (ro L k)):a=b:=by
 have s1:=(side_mem (nds_nodup he hi)).1 h1
 have s2:=(side_mem (nds_nodup he hk)).1 h2
 have hg:=(check_good he (List.getElem_mem hi)).nd (p,a) (by rw[←ro_eq hi];exact h1)
 obtain⟨m,rfl⟩:∃m:Nat,p=(m:Int):=⟨p.toNat,by have:=hg.1;simp only at this;omega⟩
 have hm:m<L.p.length:=by have:=hg.2;simp only at this;omega
 unfold cf confB at hc
 rw[Bool.or_eq_false_iff]at hc
 have:=(List.any_eq_false.1 hc.2) m (List.mem_range.2 hm)
 simp only[cPt,s1,s2,Option.isSome_some,Bool.and_self,Bool.true_or,Bool.true_and,Bool.not_eq_true,Bool.not_eq_false']at this
 simpa using this
theorem ri_set{L:Ly}{x:Inp}{s:Sta}(he:checkE L=0)(h:RI L s){i:Nat}(hi:i<L.r.length)(hs:setD L x s i=true):RI L {s with lo:=fun j=>s.lo j||decide (j=i),po:=poD (nds (ro L i)) s.po}:=by
 unfold setD at hs
 simp only[Bool.and_eq_true,Bool.not_eq_true',List.all_eq_true,List.mem_range]at hs
 obtain⟨⟨hlo,hfr⟩,hcf,hnd⟩:=hs
 have hn:=nds_nodup he hi
 have h0:∀z∈nds (ro L i),0≤z.1:=fun z hz=>(nd_rng he hi z hz).1
 have hcfi:∀k,s.lo k=true→cf L i k=false:=fun k hk=>by
  have:=hcf k (h.lo k hk)
  rw[hk]at this;simpa using this
 have hcm:∀k,cf L k i=cf L i k:=fun k=>conf_comm L _ _
 have lo':∀j,(s.lo j||decide (j=i))=true→s.lo j=true∨j=i:=fun j e=>by simpa using e
 have poz:∀z∈nds (ro L i),poD (nds (ro L i)) s.po z.1.toNat=z.2:=fun z hz=>by
  rw[poD_side hn h0]
  have e:((z.1.toNat:Nat):Int)=z.1:=by have:=h0 z hz;omega
  rw[e,(side_mem hn).1 (show(z.1,z.2)∈_ from hz)]
 refine⟨fun j e=>?_,fun j e=>?_,fun j e=>?_,h.ti,h.tz,fun j e=>?_,fun a b ea eb hab=>?_,fun k e z hz=>?_⟩
 ·rcases lo' j e with e|e
  ·exact h.lo j e
  ·rw[e];exact hi
 ·show(s.lo j||_)=true
  rw[h.us j e];rfl
 ·show(s.lo j||_)=true
  rw[h.ca j e];rfl
 ·have e':poD (nds (ro L i)) s.po j=true:=e
  rw[poD_side hn h0]at e'
  cases hsd:sideO (j:Int) (nds (ro L i))with
  |none=>rw[hsd]at e';exact h.po j e'
  |some b=>
   have hm:=(side_mem hn).2 hsd
   have hg:=(check_good he (List.getElem_mem hi)).nd _ (by rw[←ro_eq hi];exact hm)
   have:=hg.2;simp only at this;omega
 ·rcases lo' a ea with e1|e1<;>rcases lo' b eb with e2|e2
  ·exact h.cf a b e1 e2 hab
  ·subst e2;rw[hcm];exact hcfi a e1
  ·subst e1;exact hcfi b e2
  ·exact absurd (e1.trans e2.symm) hab
 ·rcases lo' k e with e1|e1
  ·have hk:=h.lo k e1
   show poD (nds (ro L i)) s.po z.1.toNat=z.2
   rw[poD_side hn h0]
   have ez:((z.1.toNat:Nat):Int)=z.1:=by have:=(nd_rng he hk z hz).1;omega
   rw[ez]
   cases hsd:sideO z.1 (nds (ro L i))with
   |none=>exact h.nd k e1 z hz
   |some b=>
    have hm:=(side_mem hn).2 hsd
    exact ri_side he hi hk (hcfi k e1) hm hz
  ·subst e1;exact poz z hz
theorem ri_com{L:Ly}{x:Inp}{s:Sta}(he:checkE L=0)(h:RI L s)(kd n:Int):RI L (comD L x s kd n):=by
 unfold comD
 by_cases hok:okC L kd n=true
 case neg=>rw[if_neg hok];exact h
 rw[if_pos hok]
 have hb:=hok
 unfold okC at hb
 simp only[Bool.and_eq_true,decide_eq_true_eq]at hb
 by_cases h1:kd=1∧setD L x s n.toNat=true
 ·rw[if_pos h1]
  have hn:n.toNat<L.r.length:=by have:=hb.2;rw[h1.1]at this;simp at this;omega
  exact ri_set he h hn h1.2
 rw[if_neg h1]
 by_cases h2:kd=2∧((s.lo n.toNat&& !s.us n.toNat)&& !s.ca n.toNat)=true
 ·rw[if_pos h2]
  have hl:s.lo n.toNat=true:=by have:=h2.2;simp at this;exact this.1.1
  refine⟨h.lo,h.us,fun j e=>?_,upd_le h.ti (by split<;>omega),fun j e=>?_,h.po,h.cf,h.nd⟩
  ·have e':(s.ca j||decide (j=n.toNat))=true:=e
   rw[Bool.or_eq_true,decide_eq_true_eq]at e'
   rcases e' with e'|e'
   ·exact h.ca j e'
   ·rw[e'];exact hl
  ·have e':(s.ca j||decide (j=n.toNat))=false:=e
   rw[Bool.or_eq_false_iff,decide_eq_false_iff_not]at e'
   show upd _ _ _ j=0
   unfold upd;rw[if_neg e'.2];exact h.tz j e'.1
 rw[if_neg h2]
 by_cases h3:kd=3∧(!hasB x.oc (L.p.getD n.toNat ([],0)).2 && !needD L s n)=true
 ·rw[if_pos h3]
  have hn:n.toNat<L.p.length:=by have:=hb.2;rw[h3.1]at this;simp at this;omega
  have hnd:needD L s n=false:=by have:=h3.2;simp at this;exact this.2
  have hne:((n.toNat:Nat):Int)=n:=by omega
  refine⟨h.lo,h.us,h.ca,h.ti,h.tz,fun j e=>?_,h.cf,fun k e z hz=>?_⟩
  ·have e':(s.po j ^^ decide (j=n.toNat))=true:=e
   by_cases ej:j=n.toNat
   ·omega
   ·simp[ej]at e';exact h.po j e'
  ·show(s.po z.1.toNat ^^ decide (z.1.toNat=n.toNat))=z.2
   have hk:=h.lo k e
   have hz0:=(nd_rng he hk z hz).1
   have hne2:z.1.toNat≠n.toNat:=fun e2=>by
    have:z.1=n:=by omega
    unfold needD at hnd
    have h5:=(List.any_eq_false.1 hnd) k (List.mem_range.2 hk)
    have h6:((nds (ro L k)).any fun z=>s.lo k&&(z.1==n))=true:=List.any_eq_true.2 ⟨z,hz,by rw[e,this];simp⟩
    exact h5 h6
   simp[hne2];exact h.nd k e z hz
 ·rw[if_neg h3];exact h
theorem ri_cmd{L:Ly}{x:Inp}(he:checkE L=0):∀{cs:List (Int×Int)} {s:Sta},RI L s→RI L (cmdD L x s cs)
 |[],s,h=>h
 |c::cs,s,h=>ri_cmd he (cs:=cs) (ri_com he h _ _)
theorem ri_rel{L:Ly}{s:Sta}(h:RI L s)(i:Nat):RI L (relS s i):=by
 have sub:∀j,(relS s i).lo j=true→s.lo j=true:=fun j e=>by
  have e':(s.lo j&& !decide (j=i))=true:=e
  simp at e';exact e'.1
 refine⟨fun j e=>h.lo j (sub j e),fun j e=>?_,fun j e=>?_,upd_le h.ti (by omega),fun j e=>?_,h.po,fun a b ea eb hab=>h.cf a b (sub a ea) (sub b eb) hab,fun k e z hz=>h.nd k (sub k e) z hz⟩
 ·have e':(s.us j&& !decide (j=i))=true:=e
  show(s.lo j&& !decide (j=i))=true
  rw[Bool.and_eq_true]at e' ⊢
  exact⟨h.us j e'.1,e'.2⟩
 ·have e':(s.ca j&& !decide (j=i))=true:=e
  show(s.lo j&& !decide (j=i))=true
  rw[Bool.and_eq_true]at e' ⊢
  exact⟨h.ca j e'.1,e'.2⟩
 ·have e':(s.ca j&& !decide (j=i))=false:=e
  show upd s.ti i 0 j=0
  unfold upd
  by_cases ej:j=i
  ·rw[if_pos ej]
  ·rw[if_neg ej]
   simp[ej]at e';exact h.tz j e'
theorem ri_ro{L:Ly}{x:Inp}{us:Nat→Bool}{s:Sta}(h:RI L s){i:Nat}(hl:s.lo i=true):RI L (roD L x us s i):=by
 unfold roD
 split
 ·split
  ·exact ri_rel h i
  ·exact h
 ·split
  ·refine⟨h.lo,fun j e=>?_,h.ca,h.ti,h.tz,h.po,h.cf,h.nd⟩
   have e':(s.us j||decide (j=i))=true:=e
   rw[Bool.or_eq_true,decide_eq_true_eq]at e'
   rcases e' with e'|e'
   ·exact h.us j e'
   ·rw[e'];exact hl
  ·split
   ·rename_i h3
    rw[Bool.and_eq_true]at h3
    refine⟨h.lo,h.us,h.ca,upd_le h.ti (by have:=h.ti i;omega),fun j e=>?_,h.po,h.cf,h.nd⟩
    show upd _ _ _ j=0
    unfold upd
    by_cases ej:j=i
    ·subst ej;have e':s.ca j=false:=e;rw[h3.1]at e';cases e'
    ·rw[if_neg ej];exact h.tz j e
   ·split
    ·exact ri_rel h i
    ·exact h
theorem ri_ros{L:Ly}{x:Inp}{us:Nat→Bool}{s:Sta}(h:RI L s):∀k,RI L (rosD L x us s k)
 |0=>h
 |k+1=>by
  rw[rosD_s]
  split
  ·rename_i e;exact ri_ro (ri_ros h k) e
  ·exact ri_ros h k
theorem ri_step{L:Ly}(he:checkE L=0){s:Sta}(h:RI L s)(x:Inp)(cs:List (Int×Int)):RI L (stepD L s x cs):=by
 unfold stepD
 rw[ri_tidy h]
 exact ri_ros (ri_cmd he h) _
end Go.AM.Fd

set_option maxRecDepth 20000
namespace Go.AM.Fd
open Go.Proofs Go.AM.F
structure IV where
 x:Inp
 v:Value
 c:List (Int×Int)
def iv0:IV:=⟨xn,.slice none 0 0,[]⟩
def ivRow(p:IV):List Value:=inl p.x p.v
structure InL (H:AHeap) (v:Value) (l:List IV):Prop where
 s:Sl H 4 v (l.map ivRow)
 c:∀p∈l,SlC H 2 p.v (p.c.map cRow)∧∀c∈p.c,0≤c.1∧c.1<256
theorem InL.keeps{H K:AHeap}{v:Value}{l:List IV}(h:InL H v l)(k:Keeps H K):InL K v l:=⟨h.s.keeps k,fun p hp=>⟨(h.c p hp).1.keeps k,(h.c p hp).2⟩⟩
theorem InL.at_{H:AHeap}{v:Value}{l:List IV}(h:InL H v l){i:Nat}(hi:i<l.length):nnS v=true∧rowA H 4 v i=some (inl (l.getD i iv0).x (l.getD i iv0).v):=by
 have:=Sl.at_ h.s (by omega) (i:=i) (by simpa using hi)
 refine⟨this.1,?_⟩
 rw[this.2];simp[List.getD,List.getElem?_eq_getElem hi,ivRow]
theorem av_inps{H:AHeap}{v:Value}(h:AV Tryz.prog H.get 28 v):∃l:List IV,isS v=true∧InL H v l:=by
 have h1:=h.2.2 (by kernel_rfl)
 have hc:v.cells.toList=[v]:=by rw[cells_one h1]
 have h2:=h.1
 rw[hc]at h2
 obtain⟨rows,⟨hr,lr⟩,hrow⟩:=ar_slc (e:=46) (esz:=4) (by kernel_rfl) (by kernel_rfl) h2
 obtain⟨l,rfl,hl⟩:=list_choose (f:=ivRow) (Q:=fun p:IV=>SlC H 2 p.v (p.c.map cRow)∧∀c∈p.c,0≤c.1∧c.1<256) (l:=rows) (fun r hm=>by
  obtain⟨x,cv,cs,e,a,_,b⟩:=inp_of (hrow r hm)
  exact⟨⟨x,cv,cs⟩,e,a,b⟩)
 exact⟨l,Sl.is hr.s,hr.s,hl⟩
end Go.AM.Fd

set_option maxRecDepth 20000
namespace Go.AM.Fd
open Nat (reduceAdd reduceEqDiff reduceLT reduceLeDiff reduceMul reduceSub)
open Go.Proofs Go.AM.F
structure Ai (wh i:Int) (s:Sta) (ep:Int) (C:Ch):Prop where
 s:C.s=s
 ep:C.ep=ep
 fl:C.fl=0
 ch:C.sd.ch=wh
 cy:C.sd.cy=i
 kp:C.sd.kept=none
def cB(wh c:Int)(x:Inp)(cs:List (Int×Int))(s:Sta)(ep:Int):Ch:=⟨s,ep,0,⟨wh,c,some ⟨wh,c,x,cs⟩,none,none,false⟩,false,none⟩
def cH(wh oh c:Int)(x:Inp)(cs:List (Int×Int))(y:Inp)(ds:List (Int×Int))(s:Sta)(ep:Int):Ch:=⟨s,ep,0,⟨wh,c,some ⟨wh,c,x,cs⟩,some ⟨oh,c,y,ds⟩,none,false⟩,false,none⟩
theorem Ai.beg{L:Ly}{wh i:Int}{s:Sta}{ep:Int}{C:Ch}(h:Ai wh i s ep C)(h0:0≤i)(h1:i≤1000){x:Inp}{cs:List (Int×Int)}(hr:inR L.s.length L.p.length L.r.length x cs=true):
 bgS L C (i+1) x cs=cB wh (i+1) x cs s ep∧bgR L C (i+1) x cs=⟨wh,i+1,x,cs⟩∧bgE L C (i+1) x cs=0:=by
 obtain⟨s',ep',fl',⟨ch,cy,ow,ot,kp,br⟩,tk,nx⟩:=C
 obtain⟨rfl,rfl,rfl,rfl,rfl,rfl⟩:=h
 simp only at*
 have hb:bgB L ⟨s',ep',0,⟨ch,cy,ow,ot,none,br⟩,tk,nx⟩ (cy+1) x cs=true:=by
  unfold bgB
  rw[decide_eq_false (by omega),decide_eq_false (by simp only;omega),hr];rfl
 have hn:¬cy+1≤cy:=by omega
 unfold bgS bgR bgE begS begR begE
 rw[hb]
 simp only[hn,if_false,if_true]
 exact⟨rfl,trivial,trivial⟩
theorem cB_hear{L:Ly}{wh oh c:Int}(hw:oh=IntKind.i64.wrap (1-wh)){x:Inp}{cs:List (Int×Int)}{y:Inp}{ds:List (Int×Int)}{s:Sta}{ep:Int}(hr:inR L.s.length L.p.length L.r.length y ds=true):
 hhS L (cB wh c x cs s ep) ⟨oh,c,y,ds⟩=cH wh oh c x cs y ds s ep∧hhE L (cB wh c x cs s ep) ⟨oh,c,y,ds⟩=0:=by
 unfold hhS hhE
 rw[hr]
 have h1:¬oh≠IntKind.i64.wrap (1-wh):=fun e=>e hw
 have h2:¬c<c:=by omega
 unfold heaS heaE cB cH
 simp only[h1,h2,if_true,if_false]
 exact⟨trivial,trivial⟩
def cT(L:Ly)(x:Inp)(cs:List (Int×Int))(y:Inp)(ds:List (Int×Int))(s:Sta):Sta:=stepD L s (mrgX x y) (mrgC cs ds)
theorem mrgX_c(x y:Inp):mrgX x y=mrgX y x:=by
 unfold mrgX
 simp only[Inp.mk.injEq]
 exact⟨funext fun _=>Bool.or_comm _ _,funext fun _=>Bool.and_comm _ _,funext fun _=>Bool.and_comm _ _⟩
theorem mrgC_c(a b:List (Int×Int)):mrgC a b=mrgC b a:=by
 unfold mrgC
 by_cases h:a=b
 ·subst h;rfl
 ·rw[if_neg h,if_neg (fun e=>h e.symm)]
theorem cT_c(L:Ly)(x:Inp)(cs:List (Int×Int))(y:Inp)(ds:List (Int×Int))(s:Sta):cT L y ds x cs s=cT L x cs y ds s:=by unfold cT;rw[mrgX_c,mrgC_c]
theorem cH_th{L:Ly}{wh oh c:Int}{x:Inp}{cs:List (Int×Int)}{y:Inp}{ds:List (Int×Int)}{s:Sta}{ep:Int}:thW L (cH wh oh c x cs y ds s ep)=.tuple #[.agg (stl (cT L x cs y ds s)).toArray,.agg #[.int .i64 c,.int .i64 ep,S64 fun i=>decide (i<L.r.length)&&proD L (mrgX x y) (cT L x cs y ds s) i,S32 (cT L x cs y ds s).po],.int .i64 0]∧
 thC L (cH wh oh c x cs y ds s ep)={cH wh oh c x cs y ds s ep with nx:=some (cT L x cs y ds s)}:=⟨rfl,rfl⟩
def cK(wh oh c:Int)(x:Inp)(cs:List (Int×Int))(y:Inp)(ds:List (Int×Int))(t:Sta)(ep:Int):Ch:={cH wh oh c x cs y ds t ep with tk:=true,nx:=none}
theorem cH_tk{wh oh c:Int}{x:Inp}{cs:List (Int×Int)}{y:Inp}{ds:List (Int×Int)}{s t:Sta}{ep:Int}:tkS {cH wh oh c x cs y ds s ep with nx:=some t}=cK wh oh c x cs y ds t ep∧tkE {cH wh oh c x cs y ds s ep with nx:=some t}=0:=⟨rfl,rfl⟩
theorem cK_tk{wh oh c:Int}{x:Inp}{cs:List (Int×Int)}{y:Inp}{ds:List (Int×Int)}{t:Sta}{ep:Int}:tkS (cK wh oh c x cs y ds t ep)=cK wh oh c x cs y ds t ep∧tkE (cK wh oh c x cs y ds t ep)=4:=⟨rfl,rfl⟩
theorem cK_ai{wh oh c:Int}{x:Inp}{cs:List (Int×Int)}{y:Inp}{ds:List (Int×Int)}{t:Sta}{ep:Int}:Ai wh c t ep (cK wh oh c x cs y ds t ep):=⟨rfl,rfl,rfl,rfl,rfl,rfl⟩
theorem Z68O_z:Z68O=stl Sta0:=stl_zero
theorem ChR.oz{W:Wd}{H:AHeap}{a sa:Nat}{p:Int}{L:Ly}{A:Ch}(h:ChR W H a sa p L A):∀z,z=1∨z=2∨z=4∨z=5→∀b∈[a,sa],∀o r c T,H.get b≠some (.cells o r z c T):=by
 obtain⟨v,hv⟩:=h
 obtain⟨_,_,_,ga,_⟩:=hv.sd
 intro z hz b hb o r c T e
 simp only[List.mem_cons,List.not_mem_nil,or_false]at hb
 rcases hb with rfl|rfl
 ·rw[hv.g]at e;cases e;omega
 ·rw[ga]at e;cases e;omega
theorem ceq_ft(a b:Int)(f:Nat→Bool)(g:Nat→Bool)(H:AHeap):asem (.eqs [1,1,1,1] true (.agg #[.int .i64 a,.int .i64 b,S64 f,S32 g]) (.agg #[.int .i64 a,.int .i64 b,S64 f,S32 g])) H=some (.bool false,H):=by
 simp[asem,eqCs,eqC,S64,S32]
set_option maxHeartbeats 16000000 in
theorem t3{H:AHeap}{u:V4}{xs:List RV}{L:Ly}(hl:LyR H u xs L)(hi:LyIn 9223372036854775807 L){va vb:Value}{la lb:List IV}(ha:InL H va la)(hb:InL H vb lb)(ep:Int):
 ∃w K,ARun Tryz.prog 0 3 [.agg u.l.toArray,va,vb,.int .i64 ep] H w K∧w=.bool true∧Keeps H K:=by
 refine walk2 f3_ok f3_n ?_
 intro Q hq1 hq2
 have ho:=ly_ones hl
 have ll:u.l.length=4:=rfl
 have isa:=Sl.is ha.s
 have isb:=Sl.is hb.s
 have lna:lenS va=la.length:=by have:=Sl.len ha.s;simpa using this
 have lnb:lenS vb=lb.length:=by have:=Sl.len hb.s;simpa using this
 obtain⟨K0,hK0⟩:∃X,X=H.alloc (.cells true false 4 u.l 27):=⟨_,rfl⟩
 have k0:Keeps H K0:=by rw[hK0];exact(Keeps.refl H).alloc _
 have n0:K0.n=H.n+1:=by rw[hK0];rfl
 have gl0:K0.get H.n=some (.cells true false 4 u.l 27):=by rw[hK0];exact AHeap.get_alloc_new H _
 have hl0:=hl.keeps k0
 have works:∀{K:AHeap} {KF:Value→AHeap→Prop},(KF (.bool true) K)→∃w V,ARun Tryz.prog 0 8 [] K w V∧KF w V:=fun{K KF} h=>by
  obtain⟨_,_,a,rfl,rfl⟩:=t8 K
  exact⟨_,_,a,h⟩
 simp(disch:=first|assumption|omega)only[f3,W_block,P3,seval,initFr,clsA,ho,ll]
 rw[←hK0]
 refine callK (t7 (top:=300) (by omega) hl0 hi) ?_
 rintro _ X ⟨⟨nw,rfl⟩,hX⟩
 rw[hX]
 by_cases hw:(300:Int)<nw
 ·simp(disch:=first|assumption|omega)only[W_block,P3,seval,initFr,clsA,hw]
  refine works ?_
  simp(disch:=first|assumption|omega)only[W_block,P3,seval,initFr,clsA]
  exact hq2 _ _ ⟨.bool true,rfl,rfl,k0⟩
 by_cases h40:(40:Int)<((la.length:Nat):Int)
 ·simp(disch:=first|assumption|omega)only[W_block,P3,seval,initFr,clsA,hw,isa,lna,h40]
  refine works ?_
  simp(disch:=first|assumption|omega)only[W_block,P3,seval,initFr,clsA]
  exact hq2 _ _ ⟨.bool true,rfl,rfl,k0⟩
 simp(disch:=first|assumption|omega)only[W_block,P3,seval,initFr,clsA,hw,isa,lna,h40,gl0,rng_full,ll]
 by_cases he:checkE L=0
 case neg=>
  obtain⟨_,K1,r1,k1,_,e1⟩:=t9 (wh:=0) hl0 hi
  rw[(e1 (.inl rfl)).1 he]at r1
  refine⟨_,_,r1,?_⟩
  have gl1:=k1.at_ gl0
  simp(disch:=first|assumption|omega)only[W_block,P3,seval,initFr,clsA,gl1,rng_full,ll]
  obtain⟨_,K2,r2,k2,_,e2⟩:=t9 (wh:=1) (hl0.keeps k1) hi
  rw[(e2 (.inr rfl)).1 he]at r2
  refine⟨_,_,r2,?_⟩
  have gl2:=k2.at_ gl1
  simp(disch:=first|assumption|omega)only[W_block,P3,seval,initFr,clsA,gl2,rng_full,ll]
  obtain⟨_,K3,r3,k3,rfl⟩:=u10 ((hl0.keeps k1).keeps k2) hi he
  refine⟨_,_,r3,?_⟩
  have ne:(checkE L != 0)=true:=by simp[he]
  simp(disch:=first|assumption|omega)only[W_block,P3,seval,initFr,clsA,ne]
  refine works ?_
  simp(disch:=first|assumption|omega)only[W_block,P3,seval,initFr,clsA]
  exact hq2 _ _ ⟨.bool true,rfl,rfl,((k0.trans k1).trans k2).trans k3⟩
 case pos=>
 refine callK (u9 (wh:=0) hl0 hi (.inl rfl) he) ?_
 rintro _ K1 ⟨a,sa,wa,rfl,na⟩
 have gl1:=na.k.at_ gl0
 have hl1:=hl0.keeps na.k
 simp(disch:=first|assumption|omega)only[W_block,P3,seval,initFr,clsA,gl1,rng_full,ll]
 refine callK (u9 (wh:=1) hl1 hi (.inr rfl) he) ?_
 rintro _ K2 ⟨b,sb,wb,rfl,nb⟩
 have tw:=na.two (Keeps.refl K1) nb
 obtain⟨W,hW⟩:∃W:Wd,W=⟨K2,[a,sa,b,sb]⟩:=⟨_,rfl⟩
 rw[←hW]at tw
 have kH:Keeps H K2:=k0.trans (na.k.trans nb.k)
 have gl2:=nb.k.at_ gl1
 have hl2:=hl1.keeps nb.k
 have oA:H.n≤a∧H.n≤sa:=⟨by have:=na.lc;omega,by have:=na.ls;omega⟩
 have oB:H.n≤b∧H.n≤sb:=⟨by have:=nb.lc;have:=na.k.n;omega,by have:=nb.ls;have:=na.k.n;omega⟩
 simp(disch:=first|assumption|omega)only[W_block,P3,seval,initFr,clsA,gl2,rng_full,ll]
 refine callK (t10 hl2 hi he) ?_
 rintro _ K3 ⟨k3,mb,rfl,mA⟩
 have tw:=tw.keeps k3
 have kH:=kH.trans k3
 simp(disch:=first|assumption|omega)only[W_block,P3,seval,initFr,clsA,Z68O_z]
 refine callK (t11 tw.ca (.inl rfl) he Sta0 ep 0) ?_
 rintro _ K4 ⟨rfl,c4,sa',hs4,hA⟩
 have kH4:=kH.chg_trans c4 (by simp;exact oA)
 cases hrb:rstB L Sta0 ep 0 with
 |false=>
  have e2:rstE L Sta0 ep 0=2:=by unfold rstE;rw[hrb];rfl
  rw[e2]
  simp(disch:=first|assumption|omega)only[W_block,P3,seval,initFr,clsA]
  refine works ?_
  simp(disch:=first|assumption|omega)only[W_block,P3,seval,initFr,clsA]
  exact hq2 _ _ ⟨.bool true,rfl,rfl,kH4⟩
 |true=>
 have e2:rstE L Sta0 ep 0=0:=by unfold rstE;rw[hrb];rfl
 have e3:∀C wh,rstS L C wh Sta0 ep 0=⟨Sta0,ep,0,sd0 wh,false,none⟩:=fun C wh=>by unfold rstS;rw[hrb];rfl
 rw[e2]
 rw[e3]at hA
 have mA:=mA.chg c4 tw.ca.oz
 have tw:=tw.step c4 hs4 hA
 have oA:H.n≤a∧H.n≤sa':=⟨oA.1,by have:=kH.n;rcases hs4 with rfl|h;exact oA.2;omega⟩
 simp(disch:=first|assumption|omega)only[W_block,P3,seval,initFr,clsA,Z68O_z]
 refine callK (t11 tw.cb (.inr rfl) he Sta0 ep 0) ?_
 rintro _ K5 ⟨rfl,c5,sb',hs5,hB⟩
 rw[e2]
 rw[e3]at hB
 have kH5:=kH4.chg_trans c5 (by simp;exact oB)
 have mA:=mA.chg c5 tw.cb.oz
 have tw:=(tw.swap.step c5 hs5 hB).swap
 have oB:H.n≤b∧H.n≤sb':=⟨oB.1,by have:=kH4.n;rcases hs5 with rfl|h;exact oB.2;omega⟩
 simp(disch:=first|assumption|omega)only[P3,seval,initFr,clsA]
 rw[W_block]
 have gl5:K5.get H.n=some (.cells true false 4 u.l 27):=by
  have g3:=k3.at_ gl2
  have a1:=na.lc
  have a2:=na.ls
  have a3:=nb.lc
  have a4:=nb.ls
  have a5:=na.k.n
  have a6:=k3.n
  have a7:=nb.k.n
  have a8:=c4.n
  refine c5.at_ (c4.at_ g3 ?_) ?_
  ·simp;omega
  ·simp;omega
 obtain⟨A0,hA0⟩:∃z:Value,z=.agg u.l.toArray:=⟨_,rfl⟩
 rw[←hA0]
 refine W_loop2 (fun q fr K=>∃i x13 x14 x15 x16 x17 x18 x19 x20 x21 x22 x25 x26 x27 x28 x29 sa sb A B s,fr=[A0,va,vb,.int .i64 ep,ptr H.n 0,.bool false,ptr a 0,.int .i64 0,ptr b 0,.int .i64 0,ptr mb 0,.int .i64 0,.int .i64 ((i:Nat):Int),x13,x14,x15,x16,x17,x18,x19,x20,x21,x22,.bool false,.bool false,x25,x26,x27,x28,x29]∧
  TwoR W K a sa b sb 0 1 L A B∧Ai 0 i s ep A∧Ai 1 i s ep B∧RI L s∧MaA K mb L∧Keeps H K∧K.get H.n=some (.cells true false 4 u.l 27)∧(H.n<a∧H.n<sa∧H.n<b∧H.n<sb)∧(i≤la.length∧i≤lb.length)∧q=la.length-i) la.length
  ⟨0,_,_,_,_,_,_,_,_,_,_,_,_,_,_,_,sa',sb',_,_,Sta0,rfl,tw,⟨rfl,rfl,rfl,rfl,rfl,rfl⟩,⟨rfl,rfl,rfl,rfl,rfl,rfl⟩,ri_0 L,mA,kH5,gl5,by
   have a1:=na.lc
   have a2:=na.ls
   have a3:=nb.lc
   have a4:=nb.ls
   have a5:=na.k.n
   have a6:=k3.n
   have a7:=nb.k.n
   have a8:=c4.n
   omega,by omega,rfl⟩ ?_
 rintro Q' q fr K ⟨i,x13,x14,x15,x16,x17,x18,x19,x20,x21,x22,x25,x26,x27,x28,x29,sa,sb,A,B,s,rfl,tw,aA,aB,ri,mA,kK,glK,oo,hi2,rfl⟩ hn' hx' hret
 by_cases hlt:i<la.length
 case neg=>
  have e1:¬(i:Int)<((la.length:Nat):Int):=by omega
  simp(disch:=first|assumption|omega)only[W_block,P3,seval,initFr,clsA,isa,lna,e1]
  refine hx' _ _ _ ?_
  simp(disch:=first|assumption|omega)only[W_block,P3,seval,initFr,clsA]
  refine works ?_
  simp(disch:=first|assumption|omega)only[W_block,P3,seval,initFr,clsA]
  exact hq2 _ _ ⟨.bool true,rfl,rfl,kK⟩
 have e1:(i:Int)<((la.length:Nat):Int):=by omega
 by_cases hltb:i<lb.length
 case neg=>
  have e2:¬(i:Int)<((lb.length:Nat):Int):=by omega
  simp(disch:=first|assumption|omega)only[W_block,P3,seval,initFr,clsA,isa,lna,isb,lnb,e1,e2]
  refine hx' _ _ _ ?_
  simp(disch:=first|assumption|omega)only[W_block,P3,seval,initFr,clsA]
  refine works ?_
  simp(disch:=first|assumption|omega)only[W_block,P3,seval,initFr,clsA]
  exact hq2 _ _ ⟨.bool true,rfl,rfl,kK⟩
 have e2:(i:Int)<((lb.length:Nat):Int):=by omega
 have e0:(0:Int)≤(i:Int):=by omega
 have haK:=ha.keeps kK
 have hbK:=hb.keeps kK
 obtain⟨nna,ra⟩:=haK.at_ hlt
 obtain⟨nnb,rb⟩:=hbK.at_ hltb
 have ma:la.getD i iv0∈la:=by rw[List.getD_eq_getElem?_getD,List.getElem?_eq_getElem hlt];exact List.getElem_mem hlt
 have mb_:lb.getD i iv0∈lb:=by rw[List.getD_eq_getElem?_getD,List.getElem?_eq_getElem hltb];exact List.getElem_mem hltb
 obtain⟨sca,kda⟩:=haK.c _ ma
 obtain⟨scb,kdb⟩:=hbK.c _ mb_
 have rbZ:∀{Z:AHeap},Keeps H Z→rowA Z 4 vb i=some (inl (lb.getD i iv0).x (lb.getD i iv0).v):=fun k=>((hb.keeps k).at_ hltb).2
 generalize la.getD i iv0=P at*
 generalize lb.getD i iv0=R at*
 have isP:=Sl.is sca.s
 have isR:=Sl.is scb.s
 have lnP:lenS P.v=P.c.length:=by have:=Sl.len sca.s;simpa using this
 have lnR:lenS R.v=R.c.length:=by have:=Sl.len scb.s;simpa using this
 have iP:inl P.x P.v=[S64 P.x.oc,S32 P.x.nr,S32 P.x.rv,P.v]:=rfl
 have iR:inl R.x R.v=[S64 R.x.oc,S32 R.x.nr,S32 R.x.rv,R.v]:=rfl
 rw[iP]at ra
 rw[iR]at rb
 have hL:=may_lim (check_may he)
 by_cases p20:(20:Int)<((P.c.length:Nat):Int)
 ·simp(disch:=first|assumption|omega)only[W_block,P3,seval,initFr,clsA,isa,lna,isb,lnb,e0,e1,e2,nna,ra,a_load1v,isP,lnP,p20]
  refine works ?_
  simp(disch:=first|assumption|omega)only[W_block,P3,seval,initFr,clsA]
  exact hret _ _ (hq2 _ _ ⟨.bool true,rfl,rfl,kK⟩)
 by_cases r20:(20:Int)<((R.c.length:Nat):Int)
 ·simp(disch:=first|assumption|omega)only[W_block,P3,seval,initFr,clsA,isa,lna,isb,lnb,e0,e1,e2,nna,ra,nnb,rb,a_load1v,isP,lnP,isR,lnR,p20,r20]
  refine works ?_
  simp(disch:=first|assumption|omega)only[W_block,P3,seval,initFr,clsA]
  exact hret _ _ (hq2 _ _ ⟨.bool true,rfl,rfl,kK⟩)
 have tRa:=u12 (x:=P.x) (cs:=P.c) (hl.keeps kK) hL sca.s (by omega)
 have tRb:=u12 (x:=R.x) (cs:=R.c) (hl.keeps kK) hL scb.s (by omega)
 rw[iP]at tRa
 rw[iR]at tRb
 have rfu:∀(o r:Bool) (T:Nat),rangeO (some (.cells o r 4 u.l T)) 0 4=some u.l:=fun _ _ _=>rng_full ll
 simp(disch:=first|assumption|omega)only[W_block,P3,seval,initFr,clsA,isa,lna,isb,lnb,e0,e1,e2,nna,ra,nnb,rb,a_load1v,a_loadnvf,isP,lnP,isR,lnR,p20,r20,glK,rfu]
 refine callK tRa ?_
 rintro _ X ⟨rfl,hX⟩
 rw[hX]
 cases era:inR L.s.length L.p.length L.r.length P.x P.c with
 |false=>
  simp(disch:=first|assumption|omega)only[W_block,P3,seval,initFr,clsA]
  refine works ?_
  simp(disch:=first|assumption|omega)only[W_block,P3,seval,initFr,clsA]
  exact hret _ _ (hq2 _ _ ⟨.bool true,rfl,rfl,kK⟩)
 |true=>
 simp(disch:=first|assumption|omega)only[W_block,P3,seval,initFr,clsA,isb,lnb,e0,e2,nnb,rb,a_loadnvf,glK,rfu]
 refine callK tRb ?_
 rintro _ X ⟨rfl,hX⟩
 rw[hX]
 cases erb:inR L.s.length L.p.length L.r.length R.x R.c with
 |false=>
  simp(disch:=first|assumption|omega)only[W_block,P3,seval,initFr,clsA]
  refine works ?_
  simp(disch:=first|assumption|omega)only[W_block,P3,seval,initFr,clsA]
  exact hret _ _ (hq2 _ _ ⟨.bool true,rfl,rfl,kK⟩)
 |true=>
 have ecy:IntKind.i64.wrap ((i:Int)+1)=(i:Int)+1:=by rw[wrap_i64 (by omega) (by omega)]
 have ecn:(((i+1:Nat)):Int)=(i:Int)+1:=by omega
 obtain⟨la_,lsa,_⟩:=tw.ca.lt
 obtain⟨lb_,lsb,_⟩:=tw.cb.lt
 have tB:=t13 tw.ca ((i:Int)+1) (x:=P.x) sca (by omega) kda
 obtain⟨b1,b2,b3⟩:=aA.beg e0 (by omega) era
 rw[b1,b2,b3,iP]at tB
 simp(disch:=first|assumption|omega)only[W_block,P3,seval,initFr,clsA,isa,lna,isb,lnb,e0,e1,e2,nna,ra,a_loadnvf,glK,rfu,ecy]
 refine callK tB ?_
 rintro _ K7 ⟨c7,hA,y7,rfl,hy7⟩
 have er:∀wh x cs y,rdl ⟨wh,(i:Int)+1,x,cs⟩ y=[.int .i64 wh,.int .i64 ((i:Int)+1),S64 x.oc,S32 x.nr,S32 x.rv,y]:=fun _ _ _ _=>rfl
 have oy7:=Sl.one hy7.s
 have gl7:=c7.at_ glK (by simp;omega)
 have sb7:=scb.oth c7 tw.ca.o2
 have m7:=mA.chg c7 tw.ca.oz
 have tw:=tw.step c7 (.inl rfl) hA
 have n7:=c7.n
 have q7:=kK.chg_trans c7 (by simp;omega)
 obtain⟨K8,hK8⟩:∃X,X=K7.alloc (.cells true false 6 (rdl ⟨0,(i:Int)+1,P.x,P.c⟩ y7) 49):=⟨_,rfl⟩
 have k8:Keeps K7 K8:=by rw[hK8];exact(Keeps.refl _).alloc _
 have g8:K8.get K7.n=some (.cells true false 6 (rdl ⟨0,(i:Int)+1,P.x,P.c⟩ y7) 49):=by rw[hK8];exact AHeap.get_alloc_new K7 _
 have gl8:=k8.at_ gl7
 have m8:=m7.keeps k8
 have q8:=q7.trans k8
 have rb8:=rbZ q8
 have tw:=tw.keeps k8
 have tB:=t13 tw.cb ((i:Int)+1) (x:=R.x) (sb7.keeps k8) (by omega) kdb
 obtain⟨b1,b2,b3⟩:=aB.beg e0 (by omega) erb
 rw[b1,b2,b3,iR]at tB
 rw[iR]at rb8
 rw[er]at hK8 g8 ⊢
 simp(disch:=first|assumption|omega|(simp only[LN]<;>omega)|(simp(disch:=first|assumption|omega|(simp only[LN]<;>omega))only[row_alloc,row_set];assumption))only[W_block,P3,seval,initFr,clsA,oy7,isb,lnb,e0,e2,nnb,ecy,o_s64,o_s32,one_s64,one_s32]
 rw[←hK8]
 simp(disch:=first|assumption|omega)only[W_block,P3,seval,initFr,clsA,isb,lnb,e0,e2,nnb,rb8,a_loadnvf,ecy]
 refine callK tB ?_
 rintro _ K9 ⟨c9,hB,y9,rfl,hy9⟩
 have oy9:=Sl.one hy9.s
 have n8:=k8.n
 have n9:=c9.n
 have gl9:=c9.at_ gl8 (by simp;omega)
 have g9:=c9.at_ g8 (by simp;omega)
 have h7:=(hy7.keeps k8).oth c9 tw.cb.o2
 have m9:=m8.chg c9 tw.cb.oz
 have q9:=q8.chg_trans c9 (by simp;omega)
 have tw:=(tw.swap.step c9 (.inl rfl) hB).swap
 obtain⟨K10,hK10⟩:∃X,X=K9.alloc (.cells true false 6 (rdl ⟨1,(i:Int)+1,R.x,R.c⟩ y9) 49):=⟨_,rfl⟩
 have k10:Keeps K9 K10:=by rw[hK10];exact(Keeps.refl _).alloc _
 have g10:K10.get K9.n=some (.cells true false 6 (rdl ⟨1,(i:Int)+1,R.x,R.c⟩ y9) 49):=by rw[hK10];exact AHeap.get_alloc_new K9 _
 have g10':=k10.at_ g9
 have gl10:=k10.at_ gl9
 have m10:=m9.keeps k10
 have q10:=q9.trans k10
 have tw:=tw.keeps k10
 have okR:∀wh,ROk ⟨wh,(i:Int)+1,R.x,R.c⟩:=fun _=>⟨by simp only;omega,kdb⟩
 have okP:∀wh,ROk ⟨wh,(i:Int)+1,P.x,P.c⟩:=fun _=>⟨by simp only;omega,kda⟩
 have tH:=t14 tw.ca (okR 1) (hy9.keeps k10)
 obtain⟨w1,w3⟩:=cB_hear (wh:=0) (oh:=1) (c:=(i:Int)+1) (x:=P.x) (cs:=P.c) (s:=s) (ep:=ep) (L:=L) rfl erb
 obtain⟨w2,w4⟩:=cB_hear (wh:=1) (oh:=0) (c:=(i:Int)+1) (x:=R.x) (cs:=R.c) (s:=s) (ep:=ep) (L:=L) rfl era
 rw[w1,w3]at tH
 rw[er]at hK10 g10 tH ⊢
 simp(disch:=first|assumption|omega|(simp only[LN]<;>omega)|(simp(disch:=first|assumption|omega|(simp only[LN]<;>omega))only[row_alloc,row_set];assumption))only[W_block,P3,seval,initFr,clsA,oy9,o_s64,o_s32,one_s64,one_s32]
 rw[←hK10]
 refine callK tH ?_
 rintro _ K11 ⟨rfl,c11,hA⟩
 have g11:=c11.at_ g10' (by simp;omega)
 have gl11:=c11.at_ gl10 (by have:=k10.n;simp;omega)
 have n10:=k10.n
 have n11:=c11.n
 have h8:=(h7.keeps k10).oth c11 tw.ca.o2
 have m11:=m10.chg c11 tw.ca.oz
 have q11:=q10.chg_trans c11 (by simp;omega)
 have tw:=tw.step c11 (.inl rfl) hA
 have tH:=t14 tw.cb (okP 0) h8
 rw[w2,w4]at tH
 rw[er]at tH
 simp(disch:=first|assumption|omega|(simp only[LN]<;>omega)|(simp(disch:=first|assumption|omega|(simp only[LN]<;>omega))only[row_alloc,row_set];assumption))only[W_block,P3,seval,initFr,clsA,g11]
 refine callK tH ?_
 rintro _ K12 ⟨rfl,c12,hB⟩
 have n12:=c12.n
 have gl12:=c12.at_ gl11 (by simp;omega)
 have m12:=m11.chg c12 tw.cb.oz
 have q12:=q11.chg_trans c12 (by simp;omega)
 have tw:=(tw.swap.step c12 (.inl rfl) hB).swap
 simp(disch:=first|assumption|omega)only[W_block,P3,seval,initFr,clsA]
 refine callK (t15 tw.ca he) ?_
 rintro _ K13 ⟨rfl,c13,hA⟩
 have n13:=c13.n
 have gl13:=c13.at_ gl12 (by simp;omega)
 have m13:=m12.chg c13 tw.ca.oz
 have q13:=q12.chg_trans c13 (by simp;omega)
 have tw:=tw.step c13 (.inl rfl) hA
 obtain⟨T,hT⟩:∃T,T=cT L P.x P.c R.x R.c s:=⟨_,rfl⟩
 obtain⟨f,hf⟩:∃f:Nat→Bool,f=fun j=>decide (j<L.r.length)&&proD L (mrgX P.x R.x) T j:=⟨_,rfl⟩
 have eA:=cH_th (L:=L) (wh:=0) (oh:=1) (c:=(i:Int)+1) (x:=P.x) (cs:=P.c) (y:=R.x) (ds:=R.c) (s:=s) (ep:=ep)
 have eB:=cH_th (L:=L) (wh:=1) (oh:=0) (c:=(i:Int)+1) (x:=R.x) (cs:=R.c) (y:=P.x) (ds:=P.c) (s:=s) (ep:=ep)
 rw[cT_c,mrgX_c]at eB
 rw[←hT,←hf]at eA eB
 rw[eA.2]at tw
 rw[eA.1]
 obtain⟨K14,hK14⟩:∃X,X=(K13.alloc (.cells true false 68 (stl T) 43)).alloc (.cells true false 4 [.int .i64 ((i:Int)+1),.int .i64 ep,S64 f,S32 T.po] 56):=⟨_,rfl⟩
 have k14:Keeps K13 K14:=by rw[hK14];exact((Keeps.refl _).alloc _).alloc _
 have gs14:K14.get K13.n=some (.cells true false 68 (stl T) 43):=by rw[hK14];exact((Keeps.refl _).alloc _).at_ (AHeap.get_alloc_new K13 _)
 have gf14:K14.get (K13.n+1)=some (.cells true false 4 [.int .i64 ((i:Int)+1),.int .i64 ep,S64 f,S32 T.po] 56):=by rw[hK14];exact AHeap.get_alloc_new (K13.alloc _) _
 have n14:=k14.n
 have gl14:=k14.at_ gl13
 have m14:=m13.keeps k14
 have q14:=q13.trans k14
 have tw:=tw.keeps k14
 simp(disch:=first|assumption|omega|(simp only[LN]<;>omega)|(simp(disch:=first|assumption|omega|(simp only[LN]<;>omega))only[row_alloc,row_set];assumption))only[W_block,P3,seval,initFr,clsA,Z68O_z,stl_one,stl_len,stn68s,o_s64,o_s32,one_s64,one_s32]
 rw[←hK14]
 refine callK (t15 tw.cb he) ?_
 rintro _ K15 ⟨rfl,c15,hB⟩
 have n15:=c15.n
 have l14:=AHeap.get_lt gs14
 have l14':=AHeap.get_lt gf14
 have gs15:=c15.at_ gs14 (by simp;omega)
 have gf15:=c15.at_ gf14 (by simp;omega)
 have gl15:=c15.at_ gl14 (by simp;omega)
 have m15:=m14.chg c15 tw.cb.oz
 have q15:=q14.chg_trans c15 (by simp;omega)
 have tw:=(tw.swap.step c15 (.inl rfl) hB).swap
 rw[eB.2]at tw
 rw[eB.1]
 obtain⟨K16,hK16⟩:∃X,X=(K15.alloc (.cells true false 68 (stl T) 43)).alloc (.cells true false 4 [.int .i64 ((i:Int)+1),.int .i64 ep,S64 f,S32 T.po] 56):=⟨_,rfl⟩
 have k16:Keeps K15 K16:=by rw[hK16];exact((Keeps.refl _).alloc _).alloc _
 have gs16:K16.get K15.n=some (.cells true false 68 (stl T) 43):=by rw[hK16];exact((Keeps.refl _).alloc _).at_ (AHeap.get_alloc_new K15 _)
 have gf16:K16.get (K15.n+1)=some (.cells true false 4 [.int .i64 ((i:Int)+1),.int .i64 ep,S64 f,S32 T.po] 56):=by rw[hK16];exact AHeap.get_alloc_new (K15.alloc _) _
 have gs16':=k16.at_ gs15
 have gf16':=k16.at_ gf15
 have gl16:=k16.at_ gl15
 have m16:=m15.keeps k16
 have q16:=q15.trans k16
 have tw:=tw.keeps k16
 have ls15:=AHeap.get_lt gs15
 have lf15:=AHeap.get_lt gf15
 have eqs:∀K,asem (.eqs O68O true (.agg (stl T).toArray) (.agg (stl T).toArray)) K=some (.bool false,K):=fun K=>(eq_stl K true T T).trans (by rw[staB_rfl];rfl)
 have eqf:=fun K=>ceq_ft ((i:Int)+1) ep f T.po K
 simp(disch:=first|assumption|omega|(simp only[LN]<;>omega)|(simp(disch:=first|assumption|omega|(simp only[LN]<;>omega))only[row_alloc,row_set];assumption))only[W_block,P3,seval,initFr,clsA,Z68O_z,stl_one,stl_len,stn68s,o_s64,o_s32,one_s64,one_s32]
 rw[←hK16]
 have l16:=AHeap.get_lt gs16
 have l16':=AHeap.get_lt gf16
 simp(disch:=first|assumption|omega|(simp only[LN]<;>omega)|(simp(disch:=first|assumption|omega|(simp only[LN]<;>omega))only[row_alloc,row_set];assumption))only[W_block,P3,seval,initFr,clsA,gs15,gf15,gs16,gs16',gf16,gf16',rng68,rng_full,eqs,eqf,ecy]
 have riT:RI L T:=by rw[hT];exact ri_step he ri _ _
 refine callK (t16 m16 he T) ?_
 rintro _ X ⟨rfl,hX⟩
 rw[hX,ri_right riT]
 simp(disch:=first|assumption|omega)only[W_block,P3,seval,initFr,clsA]
 refine callK (t17 tw.ca) ?_
 rintro _ K17 ⟨rfl,c17,hA⟩
 have n16:=k16.n
 have n17:=c17.n
 have gs17:=c17.at_ gs16' (by simp;omega)
 have gl17:=c17.at_ gl16 (by simp;omega)
 have m17:=m16.chg c17 tw.ca.oz
 have q17:=q16.chg_trans c17 (by simp;omega)
 have tw:=tw.step c17 (.inl rfl) hA
 rw[cH_tk.1]at tw
 rw[cH_tk.2]
 simp(disch:=first|assumption|omega)only[W_block,P3,seval,initFr,clsA]
 refine callK (t17 tw.cb) ?_
 rintro _ K18 ⟨rfl,c18,hB⟩
 have n18:=c18.n
 have gs18:=c18.at_ gs17 (by simp;omega)
 have gl18:=c18.at_ gl17 (by simp;omega)
 have m18:=m17.chg c18 tw.cb.oz
 have q18:=q17.chg_trans c18 (by simp;omega)
 have tw:=(tw.swap.step c18 (.inl rfl) hB).swap
 rw[cH_tk.1]at tw
 rw[cH_tk.2]
 simp(disch:=first|assumption|omega)only[W_block,P3,seval,initFr,clsA]
 refine callQ (t18 tw.ca) ?_
 have cKs:∀wh oh x cs y ds,(cK wh oh ((i:Int)+1) x cs y ds T ep).s=T:=fun _ _ _ _ _ _=>rfl
 rw[cKs]
 simp(disch:=first|assumption|omega)only[W_block,P3,seval,initFr,clsA,gs18,rng68,eqs]
 refine callK (t18 tw.cb) ?_
 rintro _ X ⟨rfl,hX⟩
 rw[hX,cKs]
 simp(disch:=first|assumption|omega)only[W_block,P3,seval,initFr,clsA,gs18,rng68,eqs]
 refine callK (t17 tw.ca) ?_
 rintro _ K19 ⟨rfl,c19,hA⟩
 have n19:=c19.n
 have gl19:=c19.at_ gl18 (by simp;omega)
 have m19:=m18.chg c19 tw.ca.oz
 have q19:=q18.chg_trans c19 (by simp;omega)
 have tw:=tw.step c19 (.inl rfl) hA
 rw[cK_tk.1]at tw
 rw[cK_tk.2]
 have wr:IntKind.i64.wrap ((i:Int)+1)=((i+1:Nat):Int):=by rw[ecy];omega
 simp(disch:=first|assumption|omega)only[W_block,P3,seval,initFr,clsA,wr]
 refine hn' _ _ _ ⟨i+1,_,_,_,_,_,_,_,_,_,_,_,_,_,_,_,sa,sb,_,_,T,rfl,tw,?_,?_,riT,m19,q19,gl19,oo,by omega,rfl⟩ (by omega)
 ·rw[ecn];exact cK_ai
 ·rw[ecn];exact cK_ai
theorem lawCSame:∀H args,NoOwn H→AVs Tryz.prog H.get [27,28,28,2] args→∃H',ARun Tryz.prog 0 3 args H (.bool true) H':=by
 intro H args _ h
 match args,h with
 |[y,a,b,e],⟨h1,h2,h3,h4,_⟩=>
  obtain⟨u,xs,L,rfl,hl,hin⟩:=av_ly h1
  obtain⟨la,_,ha⟩:=av_inps h2
  obtain⟨lb,_,hb⟩:=av_inps h3
  obtain⟨n,rfl,_⟩:=h4.int_inv (k:=.i64) (by kernel_rfl)
  obtain⟨_,K,r,rfl,_⟩:=t3 hl hin ha hb n
  exact⟨K,r⟩
end Go.AM.Fd
