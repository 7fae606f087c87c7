/- Part of the proof. -/
import Derived.Test.YtfneppahknoaoaaGreatDoorGLK04
set_option linter.unusedSimpArgs false
set_option linter.unusedVariables false
set_option maxRecDepth 8000
namespace Go.AM.Fd
open Nat (reduceAdd reduceEqDiff reduceLT reduceLeDiff reduceMul reduceSub)
open Go.Proofs Go.AM.F
def RB:Nat:=140737488351232
structure RVB (x:RV):Prop where
 p:x.r.path.length*8≤RB
 q:x.r.pts.length*16≤RB
 o:x.r.ov.length*8≤RB
 f:x.r.fl.length*16≤RB
structure LyB (xs:List RV) (L:Ly):Prop where
 s:L.s.length*16≤RB
 p:L.p.length*24≤RB
 g:L.g.length*24≤RB
 r:L.r.length*120≤RB
 x:∀y∈xs,RVB y
theorem RV.ones{H:AHeap}{x:RV}(h:x.ok H):x.vp.oneCell'=true∧x.vq.oneCell'=true∧x.vo.oneCell'=true∧x.vf.oneCell'=true:=⟨Sl.one h.p,Sl.one h.q,Sl.one h.o,Sl.one h.f⟩
def ro(L:Ly)(i:Nat):Ro:=L.r.getD i rv0.r
theorem ro_eq{L:Ly}{i:Nat}(h:i<L.r.length):ro L i=L.r[i]:=by unfold ro;rw[List.getD_eq_getElem?_getD,List.getElem?_eq_getElem h];rfl
theorem rv_ro{H:AHeap}{u:V4}{xs:List RV}{L:Ly}(h:LyR H u xs L){i:Nat}(hi:i<L.r.length):(xs.getD i rv0).r=ro L i∧(xs.getD i rv0).ok H:=by
 have hl:i<xs.length:=by have:=h.e;rw[←this]at hi;simpa using hi
 have e0:xs.getD i rv0=xs[i]:=by rw[List.getD_eq_getElem?_getD,List.getElem?_eq_getElem hl];rfl
 rw[e0]
 refine⟨?_,h.ok _ (List.getElem_mem hl)⟩
 rw[ro_eq hi]
 have e:=congrArg (fun l:List Ro=>l[i]?) h.e
 simp only[List.getElem?_map,List.getElem?_eq_getElem hl,List.getElem?_eq_getElem hi,Option.map_some]at e
 exact Option.some.inj e
def NoZ(K:AHeap)(S:List Nat)(z:Nat):Prop:=∀b∈S,∀o r esz c t,K.get b=some (.cells o r esz c t)→esz≠z
theorem ap_z{K K':AHeap}{e z m:Nat}{v:Value}{c:List Value}{S:List Nat}(h:AP K e z v m c)(cc:Chg S K K')(hS:NoZ K S z):AP K' e z v m c:=by
 rcases h with h|⟨b,room,rfl,h1,h2⟩
 ·exact .inl h
 ·refine .inr ⟨b,room,rfl,h1,cc.at_ h2 (fun hb=>hS b hb _ _ _ _ _ h2 rfl)⟩
theorem noz_blk{e z z':Nat}{H K:AHeap}{v:Value}{rows:List (List Value)}(h:OW e z H K v rows)(hz:z≠z'):NoZ K (blkL v) z':=by
 intro b hb o r esz c t g
 rw[mem_blkL]at hb
 rcases h.ap with⟨rfl,_,_⟩|⟨b',room,rfl,_,h2⟩
 ·cases hb
 ·cases hb
  rw[h2]at g
  injection(Option.some.inj g)with _ _ e3 _ _
  omega
theorem noz_one{K:AHeap}{b z z':Nat}{o r:Bool}{c:List Value}{t:Nat}(g:K.get b=some (.cells o r z c t))(hz:z≠z'):NoZ K [b] z':=by
 intro b' hb o' r' esz c' t' g'
 rw[List.mem_singleton]at hb
 subst hb
 rw[g]at g'
 injection(Option.some.inj g')with _ _ e3 _ _
 omega
theorem ow_z{e z:Nat}{H K K':AHeap}{v:Value}{rows:List (List Value)}{S:List Nat}(h:OW e z H K v rows)(cc:Chg S K K')(hS:NoZ K S z)(k:Keeps H K'):OW e z H K' v rows:=⟨ap_z h.ap cc hS,h.r,k,h.f⟩
structure RVo (H K:AHeap) (y:RV):Prop where
 p:OW 3 1 H K y.vp (y.r.path.map iRow)
 q:OW 49 2 H K y.vq (y.r.pts.map nRow)
 o:OW 3 1 H K y.vo (y.r.ov.map iRow)
 f:OW 49 2 H K y.vf (y.r.fl.map nRow)
theorem RVo.ok{H K:AHeap}{y:RV}(h:RVo H K y):y.ok K:=⟨h.p.sl,h.q.sl,h.o.sl,h.f.sl⟩
theorem RVo.keeps{H K K':AHeap}{y:RV}(h:RVo H K y)(k:Keeps K K'):RVo H K' y:=⟨h.p.keeps k,h.q.keeps k,h.o.keeps k,h.f.keeps k⟩
theorem RVo.z{H K K':AHeap}{y:RV}{S:List Nat}(h:RVo H K y)(cc:Chg S K K')(h1:NoZ K S 1)(h2:NoZ K S 2)(k:Keeps H K'):RVo H K' y:=⟨ow_z h.p cc h1 k,ow_z h.q cc h2 k,ow_z h.o cc h1 k,ow_z h.f cc h2 k⟩
structure CpI (H K:AHeap) (u:V4) (L:Ly) (ys:List RV):Prop where
 s:OW 9 1 H K u.s (L.s.map tRow)
 p:OW 46 2 H K u.p (L.p.map pRow)
 g:OW 47 2 H K u.g (L.g.map pRow)
 r:OW 44 6 H K u.r (ys.map RV.row)
 y:∀y∈ys,RVo H K y
theorem CpI.keeps{H K K':AHeap}{u:V4}{L:Ly}{ys:List RV}(h:CpI H K u L ys)(k:Keeps K K'):CpI H K' u L ys:=⟨h.s.keeps k,h.p.keeps k,h.g.keeps k,h.r.keeps k,fun y hy=>(h.y y hy).keeps k⟩
theorem CpI.z{H K K':AHeap}{u:V4}{L:Ly}{ys:List RV}{b z t:Nat}{o r:Bool}{c:List Value}(h:CpI H K u L ys)(cc:Chg [b] K K')(g:K.get b=some (.cells o r z c t))(h1:z≠1)(h2:z≠2)(h6:z≠6)(k:Keeps H K'):CpI H K' u L ys:=
 ⟨ow_z h.s cc (noz_one g h1) k,ow_z h.p cc (noz_one g h2) k,ow_z h.g cc (noz_one g h2) k,ow_z h.r cc (noz_one g h6) k,fun y hy=>(h.y y hy).z cc (noz_one g h1) (noz_one g h2) k⟩
theorem CpI.ly{H K:AHeap}{u:V4}{L:Ly}{ys:List RV}(h:CpI H K u L ys)(e:ys.map (·.r)=L.r):LyR K u ys L:=⟨h.s.sl,h.p.sl,h.g.sl,h.r.sl,e,fun y hy=>(h.y y hy).ok⟩
theorem nilK{K K':AHeap}(c:Chg (blkL (.slice none 0 0)) K K'):Keeps K K':=by
 rw[show blkL (Value.slice none 0 0)=[]from rfl]at c;exact c.keeps (by simp)
theorem fillR6(a:ByteArray)(k:Int):fillA [.string ByteArray.empty,.int .i64 0,.slice none 0 0,.slice none 0 0,.slice none 0 0,.slice none 0 0] [(0,1,.string a),(1,1,.int .i64 k)]=some [.string a,.int .i64 k,.slice none 0 0,.slice none 0 0,.slice none 0 0,.slice none 0 0]:=rfl
theorem fillR7(x:ByteArray)(y:Int)(a b c d e f g h i j:Value):fillA [.string x,.int .i64 y,g,h,i,j] [(0,6,.agg #[a,b,c,d,e,f])]=some [a,b,c,d,e,f]:=rfl
set_option maxHeartbeats 8000000 in
theorem t41{H:AHeap}{u:V4}{xs:List RV}{L:Ly}(h:LyR H u xs L)(hb:LyB xs L):
 ∃w H',ARun Tryz.prog 4 41 [.agg u.l.toArray] H w H'∧Keeps H H'∧∃u' ys,w=.agg (V4.l u').toArray∧CpI H H' u' L ys∧ys.map (·.r)=L.r:=by
 refine walk2 f41_ok f41_n ?_
 intro Q hq1 hq2
 have B1:=hb.s
 have B2:=hb.p
 have B3:=hb.g
 have B4:=hb.r
 unfold RB at B1 B2 B3 B4
 have os:=Sl.one h.s
 have op:=Sl.one h.p
 have og:=Sl.one h.g
 have or:=Sl.one h.r
 have ir:=Sl.is h.r
 have lenr:=h.r.len
 rw[h.rlen]at lenr
 have hul:u.l=[u.s,u.p,u.g,u.r]:=rfl
 obtain⟨K0,hK0⟩:∃X,X=((H.alloc (.cells true false 4 [u.s,u.p,u.g,u.r] 30)).alloc (.cells true false 4 [.slice none 0 0,.slice none 0 0,.slice none 0 0,.slice none 0 0] 30)).alloc (.cells true false 4 [.slice none 0 0,.slice none 0 0,.slice none 0 0,.slice none 0 0] 30):=⟨_,rfl⟩
 have k0:Keeps H K0:=by rw[hK0];exact(((Keeps.refl H).alloc _).alloc _).alloc _
 have n0:K0.n=H.n+3:=by rw[hK0];rfl
 have gl0:K0.get H.n=some (.cells true false 4 [u.s,u.p,u.g,u.r] 30):=by rw[hK0];exact(((Keeps.refl _).alloc _).alloc _).at_ (AHeap.get_alloc_new H _)
 have gw0:K0.get (H.n+1)=some (.cells true false 4 [.slice none 0 0,.slice none 0 0,.slice none 0 0,.slice none 0 0] 30):=by rw[hK0];exact((Keeps.refl _).alloc _).at_ (AHeap.get_alloc_new (H.alloc _) _)
 have go0:K0.get (H.n+2)=some (.cells true false 4 [.slice none 0 0,.slice none 0 0,.slice none 0 0,.slice none 0 0] 30):=by rw[hK0];exact AHeap.get_alloc_new ((H.alloc _).alloc _) _
 rw[hul]
 simp(disch:=first|assumption|omega|(simp only[LN]<;>omega)|(simp(disch:=first|assumption|omega|(simp only[LN]<;>omega))only[row_alloc,row_set];assumption))only[f41,W_block,P3,seval,initFr,clsA,os,op,og,or]
 simp only[←hK0]
 -- sections
 refine OW.appR (OW.nil 9 1 k0) (Sl.keeps h.s k0) (by simp;omega) ?_
 intro v1 K1 w1 c1
 have k1:=nilK c1
 have gl1:=k1.at_ gl0
 have gw1:=k1.at_ gw0
 have go1:=k1.at_ go0
 have lo1:=AHeap.get_lt go1
 have o1:=w1.one
 obtain⟨K2,hK2⟩:∃X,X=K1.set (H.n+2) (.cells true false 4 [v1,.slice none 0 0,.slice none 0 0,.slice none 0 0] 30):=⟨_,rfl⟩
 have c2:Chg [H.n+2] K1 K2:=by rw[hK2];exact Chg.set K1 lo1 _
 have k2:Keeps H K2:=(k0.trans k1).chg_trans c2 (by simp)
 have gl2:=c2.at_ gl1 (by simp)
 have gw2:=c2.at_ gw1 (by simp)
 have go2:K2.get (H.n+2)=some (.cells true false 4 [v1,.slice none 0 0,.slice none 0 0,.slice none 0 0] 30):=by rw[hK2];exact AHeap.get_set_same go1 _
 have w2:=ow_z w1 c2 (noz_one go1 (by omega)) k2
 simp(disch:=first|assumption|omega)only[W_block,P3,seval,initFr,clsA,go1,gl1,o1]
 simp only[←hK2]
 -- points
 refine OW.appR (OW.nil 46 2 k2) (Sl.keeps h.p k2) (by simp;omega) ?_
 intro v2 K3 w3 c3
 have k3:=nilK c3
 have kH3:=k2.trans k3
 have go3:=k3.at_ go2
 have gl3:=k3.at_ gl2
 have lo3:=AHeap.get_lt go3
 have o2:=w3.one
 obtain⟨K4,hK4⟩:∃X,X=K3.set (H.n+2) (.cells true false 4 [v1,v2,.slice none 0 0,.slice none 0 0] 30):=⟨_,rfl⟩
 have c4:Chg [H.n+2] K3 K4:=by rw[hK4];exact Chg.set K3 lo3 _
 have k4:Keeps H K4:=kH3.chg_trans c4 (by simp)
 have gl4:=c4.at_ gl3 (by simp)
 have go4:K4.get (H.n+2)=some (.cells true false 4 [v1,v2,.slice none 0 0,.slice none 0 0] 30):=by rw[hK4];exact AHeap.get_set_same go3 _
 have w1_4:=ow_z (w2.keeps k3) c4 (noz_one go3 (by omega)) k4
 have w2_4:=ow_z w3 c4 (noz_one go3 (by omega)) k4
 simp(disch:=first|assumption|omega)only[W_block,P3,seval,initFr,clsA,go3,gl3,o2]
 simp only[←hK4]
 -- signals
 refine OW.appR (OW.nil 47 2 k4) (Sl.keeps h.g k4) (by simp;omega) ?_
 intro v3 K5 w5 c5
 have k5:=nilK c5
 have kH5:=k4.trans k5
 have go5:=k5.at_ go4
 have gl5:=k5.at_ gl4
 have gw5:=(k5.at_ (c4.at_ (k3.at_ gw2) (by simp)))
 have lo5:=AHeap.get_lt go5
 have o3:=w5.one
 obtain⟨K6,hK6⟩:∃X,X=K5.set (H.n+2) (.cells true false 4 [v1,v2,v3,.slice none 0 0] 30):=⟨_,rfl⟩
 have c6:Chg [H.n+2] K5 K6:=by rw[hK6];exact Chg.set K5 lo5 _
 have k6:Keeps H K6:=kH5.chg_trans c6 (by simp)
 have gl6:=c6.at_ gl5 (by simp)
 have gw6:=c6.at_ gw5 (by simp)
 have go6:K6.get (H.n+2)=some (.cells true false 4 [v1,v2,v3,.slice none 0 0] 30):=by rw[hK6];exact AHeap.get_set_same go5 _
 have cp0:CpI H K6 ⟨v1,v2,v3,.slice none 0 0⟩ L []:=⟨ow_z (w1_4.keeps k5) c6 (noz_one go5 (by omega)) k6,ow_z (w2_4.keeps k5) c6 (noz_one go5 (by omega)) k6,ow_z w5 c6 (noz_one go5 (by omega)) k6,OW.nil _ _ k6,by simp⟩
 simp(disch:=first|assumption|omega)only[P3,seval,initFr,clsA,go5,gl5,o3]
 simp only[←hK6]
 obtain⟨A1,hA1⟩:∃v:Value,v=.agg #[u.s,u.p,u.g,u.r]:=⟨_,rfl⟩
 rw[W_block,←hA1]
 refine W_loop2 (fun q fr M=>∃i vr ys x5 x6 x7,fr=[A1,ptr H.n 0,ptr (H.n+1) 0,ptr (H.n+2) 0,.int .i64 ((i:Nat):Int),x5,x6,x7]∧CpI H M ⟨v1,v2,v3,vr⟩ L ys∧ys.map (·.r)=L.r.take i∧
  M.get (H.n+2)=some (.cells true false 4 [v1,v2,v3,vr] 30)∧M.get H.n=some (.cells true false 4 [u.s,u.p,u.g,u.r] 30)∧M.get (H.n+1)=some (.cells true false 4 [.slice none 0 0,.slice none 0 0,.slice none 0 0,.slice none 0 0] 30)∧i≤L.r.length∧q=L.r.length-i) L.r.length
  ⟨0,.slice none 0 0,[],_,_,_,rfl,cp0,rfl,go6,gl6,gw6,by omega,rfl⟩ ?_
 rintro Q' q fr M ⟨i,vr,ys,x5,x6,x7,rfl,cp,hys,go,gl,gw,hi,rfl⟩ hn' hx' hret
 have kM:=cp.s.k
 have lo:=AHeap.get_lt go
 by_cases hlt:i<L.r.length
 ·obtain⟨hyr,hyo⟩:=rv_ro h hlt
  obtain⟨na,ra⟩:=(h.r.keeps kM).at_ (i:=i) (by rw[h.rlen];exact hlt)
  have hyb:=hb.x (xs.getD i rv0) (by
   have hl:i<xs.length:=by rw[h.rlen];exact hlt
   rw[List.getD_eq_getElem?_getD,List.getElem?_eq_getElem hl];exact List.getElem_mem hl)
  have htk:L.r.take (i+1)=L.r.take i++[(xs.getD i rv0).r]:=by rw[hyr,ro_eq hlt,List.take_add_one,List.getElem?_eq_getElem hlt];rfl
  generalize xs.getD i rv0=y at*
  have D1:=hyb.p
  have D2:=hyb.q
  have D3:=hyb.o
  have D4:=hyb.f
  unfold RB at D1 D2 D3 D4
  have rowy:y.row=[.string ⟨y.r.n.toArray⟩,.int .i64 y.r.g,y.vp,y.vq,y.vo,y.vf]:=rfl
  obtain⟨a3,a4,a5,a6⟩:=RV.ones hyo
  have a1:one1 (Value.int .i64 y.r.g)=True:=by simp[one1,one_int]
  have a2:one1 (Value.string ⟨y.r.n.toArray⟩)=True:=by simp[one1,one_str]
  have e0:(0:Int)≤(i:Int):=by omega
  have e1:(i:Int)<((L.r.length:Nat):Int):=by omega
  have hw:IntKind.i64.wrap ((i:Int)+1)=((i+1:Nat):Int):=by rw[wrap_i64 (by omega) (by omega)];simp
  obtain⟨M1,hM1⟩:∃X,X=(M.alloc (.cells true false 6 y.row 44)).alloc (.cells true false 6 [.string ⟨y.r.n.toArray⟩,.int .i64 y.r.g,.slice none 0 0,.slice none 0 0,.slice none 0 0,.slice none 0 0] 44):=⟨_,rfl⟩
  have kM1:Keeps M M1:=by rw[hM1];exact((Keeps.refl M).alloc _).alloc _
  have nM1:M1.n=M.n+2:=by rw[hM1];rfl
  have gy1:M1.get M.n=some (.cells true false 6 y.row 44):=by rw[hM1];exact((Keeps.refl _).alloc _).at_ (AHeap.get_alloc_new M _)
  have gx1:M1.get (M.n+1)=some (.cells true false 6 [.string ⟨y.r.n.toArray⟩,.int .i64 y.r.g,.slice none 0 0,.slice none 0 0,.slice none 0 0,.slice none 0 0] 44):=by rw[hM1];exact AHeap.get_alloc_new (M.alloc _) _
  rw[rowy]at hM1 gy1 ra
  have kHM1:=kM.trans kM1
  simp(disch:=first|assumption|omega|(simp only[LN]<;>omega)|(simp(disch:=first|assumption|omega|(simp only[LN]<;>omega))only[row_alloc,row_set];assumption))only[W_block,P3,seval,initFr,clsA,gl,ir,lenr,na,ra,e0,e1,a_loadnvf,a1,a2,a3,a4,a5,a6,fillR6]
  simp only[←hM1]
  refine OW.appR (OW.nil 3 1 kHM1) (Sl.keeps hyo.p kHM1) (by simp;omega) ?_
  intro z0 P0a wz0 cz0
  have kz0:=nilK cz0
  have kHz0:=(kHM1).trans kz0
  have gxa0:=kz0.at_ gx1
  have gya0:=kz0.at_ gy1
  have lxa0:=AHeap.get_lt gxa0
  have oz0:=wz0.one
  obtain⟨P0b,hB0⟩:∃X,X=P0a.set (M.n+1) (.cells true false 6 [.string ⟨y.r.n.toArray⟩,.int .i64 y.r.g,z0,.slice none 0 0,.slice none 0 0,.slice none 0 0] 44):=⟨_,rfl⟩
  have cb0:Chg [M.n+1] P0a P0b:=by rw[hB0];exact Chg.set P0a lxa0 _
  have kHb0:Keeps H P0b:=kHz0.chg_trans cb0 (by simp;omega)
  have gxb0:P0b.get (M.n+1)=some (.cells true false 6 [.string ⟨y.r.n.toArray⟩,.int .i64 y.r.g,z0,.slice none 0 0,.slice none 0 0,.slice none 0 0] 44):=by rw[hB0];exact AHeap.get_set_same gxa0 _
  have gyb0:=cb0.at_ gya0 (by simp)
  have w0_0:=ow_z wz0 cb0 (noz_one gxa0 (by omega)) kHb0
  simp(disch:=first|assumption|omega)only[W_block,P3,seval,initFr,clsA,gxa0,gya0,oz0,a1,a2]
  simp only[←hB0]
  refine OW.appR (OW.nil 49 2 kHb0) (Sl.keeps hyo.q kHb0) (by simp;omega) ?_
  intro z1 P1a wz1 cz1
  have kz1:=nilK cz1
  have kHz1:=(kHb0).trans kz1
  have gxa1:=kz1.at_ gxb0
  have gya1:=kz1.at_ gyb0
  have lxa1:=AHeap.get_lt gxa1
  have oz1:=wz1.one
  obtain⟨P1b,hB1⟩:∃X,X=P1a.set (M.n+1) (.cells true false 6 [.string ⟨y.r.n.toArray⟩,.int .i64 y.r.g,z0,z1,.slice none 0 0,.slice none 0 0] 44):=⟨_,rfl⟩
  have cb1:Chg [M.n+1] P1a P1b:=by rw[hB1];exact Chg.set P1a lxa1 _
  have kHb1:Keeps H P1b:=kHz1.chg_trans cb1 (by simp;omega)
  have gxb1:P1b.get (M.n+1)=some (.cells true false 6 [.string ⟨y.r.n.toArray⟩,.int .i64 y.r.g,z0,z1,.slice none 0 0,.slice none 0 0] 44):=by rw[hB1];exact AHeap.get_set_same gxa1 _
  have gyb1:=cb1.at_ gya1 (by simp)
  have w0_1:=ow_z (w0_0.keeps kz1) cb1 (noz_one gxa1 (by omega)) kHb1
  have w1_1:=ow_z wz1 cb1 (noz_one gxa1 (by omega)) kHb1
  simp(disch:=first|assumption|omega)only[W_block,P3,seval,initFr,clsA,gxa1,gya1,oz1,a1,a2]
  simp only[←hB1]
  refine OW.appR (OW.nil 3 1 kHb1) (Sl.keeps hyo.o kHb1) (by simp;omega) ?_
  intro z2 P2a wz2 cz2
  have kz2:=nilK cz2
  have kHz2:=(kHb1).trans kz2
  have gxa2:=kz2.at_ gxb1
  have gya2:=kz2.at_ gyb1
  have lxa2:=AHeap.get_lt gxa2
  have oz2:=wz2.one
  obtain⟨P2b,hB2⟩:∃X,X=P2a.set (M.n+1) (.cells true false 6 [.string ⟨y.r.n.toArray⟩,.int .i64 y.r.g,z0,z1,z2,.slice none 0 0] 44):=⟨_,rfl⟩
  have cb2:Chg [M.n+1] P2a P2b:=by rw[hB2];exact Chg.set P2a lxa2 _
  have kHb2:Keeps H P2b:=kHz2.chg_trans cb2 (by simp;omega)
  have gxb2:P2b.get (M.n+1)=some (.cells true false 6 [.string ⟨y.r.n.toArray⟩,.int .i64 y.r.g,z0,z1,z2,.slice none 0 0] 44):=by rw[hB2];exact AHeap.get_set_same gxa2 _
  have gyb2:=cb2.at_ gya2 (by simp)
  have w0_2:=ow_z (w0_1.keeps kz2) cb2 (noz_one gxa2 (by omega)) kHb2
  have w1_2:=ow_z (w1_1.keeps kz2) cb2 (noz_one gxa2 (by omega)) kHb2
  have w2_2:=ow_z wz2 cb2 (noz_one gxa2 (by omega)) kHb2
  simp(disch:=first|assumption|omega)only[W_block,P3,seval,initFr,clsA,gxa2,gya2,oz2,a1,a2]
  simp only[←hB2]
  refine OW.appR (OW.nil 49 2 kHb2) (Sl.keeps hyo.f kHb2) (by simp;omega) ?_
  intro z3 P3a wz3 cz3
  have kz3:=nilK cz3
  have kHz3:=(kHb2).trans kz3
  have gxa3:=kz3.at_ gxb2
  have gya3:=kz3.at_ gyb2
  have lxa3:=AHeap.get_lt gxa3
  have oz3:=wz3.one
  obtain⟨P3b,hB3⟩:∃X,X=P3a.set (M.n+1) (.cells true false 6 [.string ⟨y.r.n.toArray⟩,.int .i64 y.r.g,z0,z1,z2,z3] 44):=⟨_,rfl⟩
  have cb3:Chg [M.n+1] P3a P3b:=by rw[hB3];exact Chg.set P3a lxa3 _
  have kHb3:Keeps H P3b:=kHz3.chg_trans cb3 (by simp;omega)
  have gxb3:P3b.get (M.n+1)=some (.cells true false 6 [.string ⟨y.r.n.toArray⟩,.int .i64 y.r.g,z0,z1,z2,z3] 44):=by rw[hB3];exact AHeap.get_set_same gxa3 _
  have gyb3:=cb3.at_ gya3 (by simp)
  have w0_3:=ow_z (w0_2.keeps kz3) cb3 (noz_one gxa3 (by omega)) kHb3
  have w1_3:=ow_z (w1_2.keeps kz3) cb3 (noz_one gxa3 (by omega)) kHb3
  have w2_3:=ow_z (w2_2.keeps kz3) cb3 (noz_one gxa3 (by omega)) kHb3
  have w3_3:=ow_z wz3 cb3 (noz_one gxa3 (by omega)) kHb3
  have kMP:Keeps M P3b:=((((((((kM1).trans kz0).chg_trans cb0 (by simp)).trans kz1).chg_trans cb1 (by simp)).trans kz2).chg_trans cb2 (by simp)).trans kz3).chg_trans cb3 (by simp)
  simp(disch:=first|assumption|omega)only[W_block,P3,seval,initFr,clsA,gxa3,gya3,oz3,a1,a2]
  simp only[←hB3]
  have kMa:Keeps M P3a:=((((((((kM1).trans kz0).chg_trans cb0 (by simp)).trans kz1).chg_trans cb1 (by simp)).trans kz2).chg_trans cb2 (by simp))).trans kz3
  have goA:=kMa.at_ go
  have goB:=kMP.at_ go
  have glB:=kMP.at_ gl
  have gwB:=kMP.at_ gw
  have loB:=AHeap.get_lt goB
  have cpB:=cp.keeps kMP
  have isr:=cpB.r.is
  have oz0':=w0_3.one
  have oz1':=w1_3.one
  have oz2':=w2_3.one
  have oz3':=w3_3.one
  obtain⟨y',hy'⟩:∃y':RV,y'=⟨y.r,z0,z1,z2,z3⟩:=⟨_,rfl⟩
  have ry':y'.row=[.string ⟨y.r.n.toArray⟩,.int .i64 y.r.g,z0,z1,z2,z3]:=by rw[hy'];rfl
  have yo:RVo H P3b y':=by rw[hy'];exact⟨w0_3,w1_3,w2_3,w3_3⟩
  obtain⟨P4,hP4⟩:∃X,X=P3b.alloc (.cells true false 6 y'.row 44):=⟨_,rfl⟩
  have kP4:Keeps P3b P4:=by rw[hP4];exact(Keeps.refl P3b).alloc _
  have slP4:Sl P4 6 (slc P3b.n 0 1 1) [y'.row]:=by rw[hP4];exact Sl.one1 rfl (by rw[ry'];rfl)
  have cp4:=cpB.keeps kP4
  have yo4:=yo.keeps kP4
  have go4':=kP4.at_ goB
  have yl:ys.length=i:=by have:=congrArg List.length hys;simp at this;omega
  rw[ry']at hP4 slP4
  simp(disch:=first|assumption|omega|(simp only[LN]<;>omega)|(simp(disch:=first|assumption|omega|(simp only[LN]<;>omega))only[row_alloc,row_set];assumption))only[W_block,P3,seval,initFr,clsA,goA,gxb3,fillR7,a1,a2,oz0',oz1',oz2',oz3']
  simp only[←hP4]
  refine OW.appR cp4.r slP4 (by simp[yl];omega) ?_
  intro vr' K' ow' c'
  have kP4':Keeps H K':=ow'.k
  have nz1:=noz_blk (z':=1) cp4.r (by omega)
  have nz2:=noz_blk (z':=2) cp4.r (by omega)
  have nz4:=noz_blk (z':=4) cp4.r (by omega)
  have hob:H.n+2∉blkL vr:=fun hm=>nz4 _ hm _ _ _ _ _ go4' rfl
  have hlb:H.n∉blkL vr:=fun hm=>nz4 _ hm _ _ _ _ _ (kP4.at_ glB) rfl
  have hwb:H.n+1∉blkL vr:=fun hm=>nz4 _ hm _ _ _ _ _ (kP4.at_ gwB) rfl
  have goK:=c'.at_ go4' hob
  have glK:=c'.at_ (kP4.at_ glB) hlb
  have gwK:=c'.at_ (kP4.at_ gwB) hwb
  have loK:=AHeap.get_lt goK
  have or':=ow'.one
  have e7:(ys++[y']).map RV.row=ys.map RV.row++[[.string ⟨y.r.n.toArray⟩,.int .i64 y.r.g,z0,z1,z2,z3]]:=by rw[List.map_append,←ry'];rfl
  have cpK:CpI H K' ⟨v1,v2,v3,vr'⟩ L (ys++[y']):=⟨ow_z cp4.s c' nz1 kP4',ow_z cp4.p c' nz2 kP4',ow_z cp4.g c' nz2 kP4',by rw[e7];exact ow',fun z hz=>by
   rcases List.mem_append.1 hz with hz|hz
   ·exact(cp4.y z hz).z c' nz1 nz2 kP4'
   ·rw[List.mem_singleton]at hz;subst hz;exact yo4.z c' nz1 nz2 kP4'⟩
  simp(disch:=first|assumption|omega)only[W_block,P3,seval,initFr,clsA,goK,or',hw]
  exact hn' _ _ _ ⟨i+1,vr',ys++[y'],_,_,_,rfl,cpK.z (Chg.set K' loK _) goK (by omega) (by omega) (by omega) (kP4'.set (by omega) loK _),by rw[List.map_append,hys,htk,hy'];rfl,AHeap.get_set_same goK _,
   by rw[AHeap.get_set_other K' (by omega) loK];exact glK,by rw[AHeap.get_set_other K' (by omega) loK];exact gwK,by omega,rfl⟩ (by omega)
 ·have e1:¬((i:Nat):Int)<((L.r.length:Nat):Int):=by omega
  have hie:i=L.r.length:=by omega
  subst hie
  rw[List.take_length]at hys
  have hwl:=AHeap.get_lt gw
  have p1:=cp.s.one
  have p2:=cp.p.one
  have p3:=cp.g.one
  have p4:=cp.r.one
  simp only at p1 p2 p3 p4
  simp(disch:=first|assumption|omega)only[W_block,P3,seval,initFr,clsA,gl,ir,lenr,e1]
  refine hx' _ _ _ ?_
  simp(disch:=first|assumption|omega|(simp only[LN]<;>omega)|(simp(disch:=first|assumption|omega|(simp only[LN]<;>omega))only[row_alloc,row_set];assumption))only[W_block,P3,seval,initFr,clsA,go,gw,p1,p2,p3,p4]
  refine hq2 _ _ ⟨.agg (V4.l ⟨v1,v2,v3,vr⟩).toArray,?_,kM.set (by omega) hwl _,⟨v1,v2,v3,vr⟩,ys,rfl,cp.z (Chg.set M hwl _) gw (by omega) (by omega) (by omega) (kM.set (by omega) hwl _),hys⟩
  show resO [.cn 4 2] _ _=_
  rw[resC]
  show celln 4 (ptr (H.n+1) 0) _=_
  rw[cellnp,rangeA_e,AHeap.get_set_same gw];rfl
end Go.AM.Fd

namespace Go.AM.Fd
open Nat (reduceAdd reduceEqDiff reduceLT reduceLeDiff reduceMul reduceSub)
open Go.Proofs Go.AM.F
def fstE:List Int→Int
 |[]=>0
 |x::l=>if x=0 then fstE l else x
theorem fstE_at{l:List Int}{i:Nat}(h:i<l.length):fstE (l.drop i)=if l.getD i 0=0 then fstE (l.drop (i+1))else l.getD i 0:=by
 rw[List.drop_eq_getElem_cons h]
 simp only[fstE,List.getD,List.getElem?_eq_getElem h,Option.getD_some]
theorem t75{H:AHeap}{v:Value}{l:List Int}(h:IL H v l)(hl:l.length≤1000000000):∃w H',ARun Tryz.prog 4 75 [v] H w H'∧w=.int .i64 (fstE l)∧H'=H:=by
 refine walk2 f75_ok f75_n ?_
 intro Q hq1 hq2
 have ia:=Sl.is h
 have la:=h.len
 simp(disch:=first|assumption|omega)only[f75,P3,seval,initFr,clsA]
 rw[W_block]
 refine W_loop2 (fun k fr K=>∃i x3 x4,fr=[v,.int .i64 0,.int .i64 ((i:Nat):Int),x3,x4]∧K=H∧i≤l.length∧fstE l=fstE (l.drop i)∧k=l.length-i) l.length
  ⟨0,_,_,rfl,rfl,by omega,by simp,rfl⟩ ?_
 rintro Q' k fr _ ⟨i,x3,x4,rfl,rfl,hi,hp,rfl⟩ hn hx hret
 by_cases hlt:i<l.length
 ·obtain⟨na,ra⟩:=h.at_ hlt
  have h0:(0:Int)≤(i:Int):=by omega
  have h1:(i:Int)<((lenS v:Nat):Int):=by omega
  have h3:(i:Int)<((l.length:Nat):Int):=by omega
  have hw:IntKind.i64.wrap ((i:Int)+1)=((i+1:Nat):Int):=by rw[wrap_i64 (by omega) (by omega)];simp
  rw[fstE_at hlt]at hp
  generalize l.getD i 0=n at*
  by_cases hz:n=0
  ·have e0:(n != 0)=false:=bnei_no hz
   rw[if_pos hz]at hp
   simp(disch:=first|assumption|omega)only[W_block,P3,seval,initFr,clsA,la,ra,na,a_load1v,e0,hw]
   exact hn _ _ _ ⟨i+1,_,_,rfl,rfl,by omega,hp,rfl⟩ (by omega)
  ·have e0:(n != 0)=true:=bnei_yes hz
   rw[if_neg hz]at hp
   simp(disch:=first|assumption|omega)only[W_block,P3,seval,initFr,clsA,la,ra,na,a_load1v,e0]
   exact hret _ _ (hq2 _ _ ⟨_,rfl,by rw[hp];rfl,rfl⟩)
 ·have h3:¬(i:Int)<((l.length:Nat):Int):=by omega
  simp(disch:=first|assumption|omega)only[W_block,P3,seval,initFr,clsA,la]
  refine hx 0 _ _ ?_
  simp(disch:=first|assumption|omega)only[W_block,P3,seval,initFr,clsA]
  rw[List.drop_of_length_le (by omega)]at hp
  exact hq2 _ _ ⟨_,rfl,by rw[hp];rfl,rfl⟩
def dT(u:V4)(xs:List RV)(L:Ly)(ex:List Th):List Th:=
 thA 9 1 u.s L.s.length (L.s.map tRow).flatten::thA 46 2 u.p L.p.length (L.p.map pRow).flatten::thA 47 2 u.g L.g.length (L.g.map pRow).flatten::thA 44 6 u.r xs.length (xs.map RV.row).flatten::thI xs::ex
structure DR (B K:AHeap) (u:V4) (xs:List RV) (L:Ly) (ex:List Th):Prop where
 sep:SepH B K (dT u xs L ex)
 e:xs.map (·.r)=L.r
theorem ly_of{K:AHeap}{u:V4}{xs:List RV}{L:Ly}(a1:AP K 9 1 u.s L.s.length (L.s.map tRow).flatten)(a2:AP K 46 2 u.p L.p.length (L.p.map pRow).flatten)(a3:AP K 47 2 u.g L.g.length (L.g.map pRow).flatten)(a4:AP K 44 6 u.r xs.length (xs.map RV.row).flatten)(a5:(thI xs).P K)(e:xs.map (·.r)=L.r):LyR K u xs L:=
 ⟨a1.sl (by intro r hr;obtain⟨x,_,rfl⟩:=List.mem_map.1 hr;rfl) (by simp),a2.sl (by intro r hr;obtain⟨x,_,rfl⟩:=List.mem_map.1 hr;rfl) (by simp),a3.sl (by intro r hr;obtain⟨x,_,rfl⟩:=List.mem_map.1 hr;rfl) (by simp),a4.sl (by intro r hr;obtain⟨x,_,rfl⟩:=List.mem_map.1 hr;rfl) (by simp),e,a5⟩
theorem DR.ly{B K:AHeap}{u:V4}{xs:List RV}{L:Ly}{ex:List Th}(h:DR B K u xs L ex):LyR K u xs L:=
 ly_of (h.sep.at_ 0 rfl) (h.sep.at_ 1 rfl) (h.sep.at_ 2 rfl) (h.sep.at_ 3 rfl) (h.sep.at_ 4 rfl) h.e
theorem DR.keeps{B K K':AHeap}{u:V4}{xs:List RV}{L:Ly}{ex:List Th}(h:DR B K u xs L ex)(k:Keeps K K'):DR B K' u xs L ex:=⟨h.sep.keeps k,h.e⟩
def gIx(L:Ly)(n:List UInt8):Option Int:=(ixT n (L.g.map (·.1))).map fun i=>(i:Int)
theorem ixV_g(L:Ly)(n:List UInt8):(gIx L n=none∧ixV n (L.g.map (·.1))= -1)∨∃i:Nat,gIx L n=some (i:Int)∧ixV n (L.g.map (·.1))=(i:Int):=by
 unfold gIx ixV
 cases ixT n (L.g.map (·.1))with
 |none=>exact .inl ⟨rfl,rfl⟩
 |some i=>exact .inr ⟨i,rfl,rfl⟩
theorem ixV_n(L:Ly)(n:List UInt8):((ixT n (namesL L)).isSome=false∧ixV n (namesL L)= -1)∨∃i:Nat,(ixT n (namesL L)).isSome=true∧ixV n (namesL L)=(i:Int):=by
 unfold ixV
 cases ixT n (namesL L)with
 |none=>exact .inl ⟨rfl,rfl⟩
 |some i=>exact .inr ⟨i,rfl,rfl⟩
def routeQD(L:Ly)(ws g0 g1 g2 g3 g4:List (List UInt8)):Int×Ly:=
 if g0.length≠3∨rightB (ws.getD 1 [])=false∨g2.all shpB=false∨g4.all shpB=false then(40,L)
 else if(ixT (ws.getD 1 []) (namesL L)).isSome then(41,L)
 else match gIx L (ws.getD 2 []),oAll (sIx L) g1,oAll (nIx L) g2,oAll (sIx L) g3,oAll (nIx L) g4 with
  |some s,some p,some q,some o,some f=>if 16<p.length∨16<q.length∨16<o.length∨16<f.length then(3,L)else(0,{L with r:=L.r++[⟨ws.getD 1 [],s,p,q,o,f⟩]})
  |_,_,_,_,_=>(42,L)
def routeD(L:Ly)(ws:List (List UInt8)):Int×Ly:=match groupsB ws with
 |[g0,g1,g2,g3,g4]=>routeQD L ws g0 g1 g2 g3 g4
 |_=>(40,L)
theorem routeQD_t{L:Ly}{ws g0 g1 g2 g3 g4:List (List UInt8)}(h1:g0.length=3)(h2:rightB (ws.getD 1 [])=true)(h3:g2.all shpB=true)(h4:g4.all shpB=true):
 routeQD L ws g0 g1 g2 g3 g4=if(ixT (ws.getD 1 []) (namesL L)).isSome then((41:Int),L)
 else match gIx L (ws.getD 2 []),oAll (sIx L) g1,oAll (nIx L) g2,oAll (sIx L) g3,oAll (nIx L) g4 with
  |some s,some p,some q,some o,some f=>if 16<p.length∨16<q.length∨16<o.length∨16<f.length then(3,L)else(0,{L with r:=L.r++[⟨ws.getD 1 [],s,p,q,o,f⟩]})
  |_,_,_,_,_=>(42,L):=by
 unfold routeQD
 rw[if_neg]
 rintro(e|e|e|e)
 ·exact e h1
 ·rw[h2]at e;cases e
 ·rw[h3]at e;cases e
 ·rw[h4]at e;cases e
theorem resL{K:AHeap}{fr:List Value}{b e:Nat}{own room:Bool}{c:List Value}{x:Value}(h1:fr.getD 3 undef=ptr b 0)(h2:fr.getD 4 undef=x)(hg:K.get b=some (.cells own room 4 c e))(hl:c.length=4):
 resO [.cn 4 3,.t 4] fr K=some (.tuple #[.agg c.toArray,x]):=by
 simp only[resO,resVs,RX.get,h1,h2,cellnp,rangeA_e,hg,rng_full hl,Option.map_some]
 rfl
def lO(c:List Value):AO:=.cells true false 4 c 30
end Go.AM.Fd

namespace Go.AM.Fd
open Nat (reduceAdd reduceEqDiff reduceLT reduceLeDiff reduceMul reduceSub)
open Go.Proofs Go.AM.F
set_option maxHeartbeats 8000000 in
theorem t55{B K:AHeap}{u:V4}{xs:List RV}{L:Ly}{ex:List Th}{v:Value}{ws:List (List UInt8)}(h:DR B K u xs L ex)(hf:LyFit L)(hL:LyLim L)(hv:TL K v ws)(hl:ws.length≤1000000)(h2w:2≤ws.length)(hw:∀w∈ws,w.length≤1000000000):
 ∃w K',ARun Tryz.prog 4 55 [.agg u.l.toArray,v] K w K'∧Keeps B K'∧∃u',w=.tuple #[.agg u'.l.toArray,.int .i64 (routeD L ws).1]∧u'.l.all Value.oneCell'=true∧((routeD L ws).1 =0→∃xs',DR B K' u' xs' (routeD L ws).2 ex)∧((routeD L ws).1 ≠0→Keeps K K'):=by
 refine walk2 f55_ok f55_n ?_
 intro Q hq1 hq2
 have ho:=ly_ones h.ly
 have J0:=(h.sep.box (lO u.l)).box (lO [.slice none 0 0,.slice none 0 0,.slice none 0 0,.slice none 0 0])
 have ll:u.l.length=4:=rfl
 simp(disch:=first|assumption|omega)only[f55,W_block,P3,seval,initFr,clsA,ho]
 refine callK (t71 (Sl.keeps hv (((Keeps.refl K).alloc (lO u.l)).alloc (lO [.slice none 0 0,.slice none 0 0,.slice none 0 0,.slice none 0 0]))) hl) ?_
 rintro w K1 ⟨k1,ws',gs,eg⟩
 obtain⟨sg,tg⟩:=gs.rd
 rw[←List.map_reverse]at eg
 have J1:=J0.keeps k1
 have k01:Keeps K K1:=(((Keeps.refl K).alloc (lO u.l)).alloc (lO [.slice none 0 0,.slice none 0 0,.slice none 0 0,.slice none 0 0])).trans k1
 have h1:=h.keeps k01
 have hv1:TL K1 v ws:=Sl.keeps hv k01
 generalize ws'.reverse=R at*
 have lw:lenS w=R.length:=by have:=Sl.len sg;simpa using this
 have iw:=Sl.is sg
 have gl:K1.get K.n=some (.cells true false 4 u.l 30):=J1.at_ 1 rfl
 have gr:K1.get (K.n+1)=some (.cells true false 4 [.slice none 0 0,.slice none 0 0,.slice none 0 0,.slice none 0 0] 30):=J1.at_ 0 rfl
 have gr0:=gr
 have nlt:K.n+1<K1.n:=AHeap.get_lt gr
 have c0:(0:Int)≤0:=by omega
 have c1:(0:Int)≤1:=by omega
 have c2:(0:Int)≤2:=by omega
 have c3:(0:Int)≤3:=by omega
 have c4:(0:Int)≤4:=by omega
 have t0:Int.toNat 0=0:=rfl
 have t1:Int.toNat 1=1:=rfl
 have t2:Int.toNat 2=2:=rfl
 have t3:Int.toNat 3=3:=rfl
 have t4:Int.toNat 4=4:=rfl
 have fail:∀(fr:List Value) (X:AHeap) (e:Int),fr.getD 3 undef=ptr (K.n+1) 0→fr.getD 4 undef=.int .i64 e→(routeD L ws).1 =e→e≠0→Keeps K1 X→Q .ret fr (X.set (K.n+1) (lO u.l)):=fun fr X e f3 f4 hd he kx=>by
  have gx:=kx.at_ gr0
  refine hq2 _ _ ⟨_,resL f3 f4 (AHeap.get_set_same gx _) rfl,?_,u,by rw[hd],ho,fun e0=>absurd (hd.symm.trans e0) he,fun _=>(k01.trans kx).set (by omega) (AHeap.get_lt gx) _⟩
  have h4:=(J1.keeps kx).u0 (t':=thB (K.n+1) (lO u.l)) (Chg.set X (AHeap.get_lt gx) (lO u.l)) (AHeap.get_set_same gx _) (fun y hy=>.inl hy)
  exact h4.k
 by_cases h5:R.length=5
 rotate_left
 ·have e2:(((R.length:Nat):Int) != 5)=true:=by simp;omega
  have ep:routeD L ws=(40,L):=by
   unfold routeD
   rw[←eg]
   split
   ·rename_i e
    have:=congrArg List.length e
    simp at this;omega
   ·rfl
  simp(disch:=first|assumption|omega|(simp only[LN]<;>omega)|(simp(disch:=first|assumption|omega|(simp only[LN]<;>omega))only[row_alloc,row_set];assumption))only[W_block,P3,seval,initFr,clsA,lw,e2,gl,gr,ll,ho]
  exact fail _ _ 40 rfl rfl (by rw[ep]) (by decide) (Keeps.refl _)
 have e2:(((R.length:Nat):Int) != 5)=false:=by simp;omega
 obtain⟨⟨v0,g0⟩,⟨v1,g1⟩,⟨v2,g2⟩,⟨v3,g3⟩,⟨v4,g4⟩,rfl⟩:=list5 h5
 simp only[List.map_cons,List.map_nil]at sg eg
 have ep0:routeD L ws=routeQD L ws g0 g1 g2 g3 g4:=by unfold routeD;rw[←eg]
 have m0:g0∈groupsB ws:=by rw[←eg];simp
 have m1:g1∈groupsB ws:=by rw[←eg];simp
 have m2:g2∈groupsB ws:=by rw[←eg];simp
 have m3:g3∈groupsB ws:=by rw[←eg];simp
 have m4:g4∈groupsB ws:=by rw[←eg];simp
 obtain⟨nw,r0⟩:=Sl.at_ sg (by omega) (i:=0) (by simp)
 obtain⟨_,r1⟩:=Sl.at_ sg (by omega) (i:=1) (by simp)
 obtain⟨_,r2⟩:=Sl.at_ sg (by omega) (i:=2) (by simp)
 obtain⟨_,r3⟩:=Sl.at_ sg (by omega) (i:=3) (by simp)
 obtain⟨_,r4⟩:=Sl.at_ sg (by omega) (i:=4) (by simp)
 simp only[List.getElem_cons_zero,List.getElem_cons_succ]at r0 r1 r2 r3 r4
 have T0:TL K1 v0 g0:=tg (v0,g0) (by simp)
 have T1:TL K1 v1 g1:=tg (v1,g1) (by simp)
 have T2:TL K1 v2 g2:=tg (v2,g2) (by simp)
 have T3:TL K1 v3 g3:=tg (v3,g3) (by simp)
 have T4:TL K1 v4 g4:=tg (v4,g4) (by simp)
 have i0:=Sl.is T0
 have l0:=T0.len
 have d0:(0:Int)<((lenS w:Nat):Int):=by rw[lw];simp
 have d1:(1:Int)<((lenS w:Nat):Int):=by rw[lw];simp
 have d2:(2:Int)<((lenS w:Nat):Int):=by rw[lw];simp
 have d3:(3:Int)<((lenS w:Nat):Int):=by rw[lw];simp
 have d4:(4:Int)<((lenS w:Nat):Int):=by rw[lw];simp
 by_cases h3:g0.length=3
 rotate_left
 ·have e3:(((g0.length:Nat):Int) != 3)=true:=by simp;omega
  have ep:routeD L ws=(40,L):=by rw[ep0];unfold routeQD;rw[if_pos (.inl h3)]
  simp(disch:=first|assumption|omega|(simp only[LN]<;>omega)|(simp(disch:=first|assumption|omega|(simp only[LN]<;>omega))only[row_alloc,row_set];assumption))only[W_block,P3,seval,initFr,clsA,lw,e2,r0,nw,a_load1v,t0,l0,e3,gl,gr,ll,ho]
  exact fail _ _ 40 rfl rfl (by rw[ep]) (by decide) (Keeps.refl _)
 have e3:(((g0.length:Nat):Int) != 3)=false:=by simp;omega
 have hwl:3≤ws.length:=by have:=(groups_mem m0).1;omega
 have ia:=Sl.is hv
 have la:=hv.len
 obtain⟨na,ra⟩:=hv1.at_ (i:=1) (by omega)
 obtain⟨_,rb⟩:=hv1.at_ (i:=2) (by omega)
 have hlen:=hw _ (getD_mem (d:=[]) (show 1<ws.length by omega))
 have q1:(1:Int)<((lenS v:Nat):Int):=by omega
 have q2:(2:Int)<((lenS v:Nat):Int):=by omega
 unfold tRow at ra rb
 have hg:∀{g:List (List UInt8)},g∈groupsB ws→g.length≤1000000000∧∀x∈g,x.length≤1000000000:=fun hm=>⟨by have:=(groups_mem hm).1;omega,fun x hx=>hw x ((groups_mem hm).2 x hx)⟩
 simp(disch:=first|assumption|omega)only[W_block,P3,seval,initFr,clsA,lw,e2,r0,nw,a_load1v,t0,l0,e3,ra,na,t1]
 refine callQ (t43 _ _ (Nat.le_trans hlen (by decide))) ?_
 cases hr:rightB (ws.getD 1 [])with
 |false=>
  have ep:routeD L ws=(40,L):=by rw[ep0];unfold routeQD;rw[if_pos (.inr (.inl hr))]
  simp(disch:=first|assumption|omega|(simp only[LN]<;>omega)|(simp(disch:=first|assumption|omega|(simp only[LN]<;>omega))only[row_alloc,row_set];assumption))only[W_block,P3,seval,initFr,clsA,gl,gr,ll,ho]
  exact fail _ _ 40 rfl rfl (by rw[ep]) (by decide) (Keeps.refl _)
 |true=>
 simp(disch:=first|assumption|omega)only[W_block,P3,seval,initFr,clsA,r2,nw,a_load1v,t2]
 refine callQ (t72 T2 (hg m2).1 (hg m2).2) ?_
 cases hs2:g2.all shpB with
 |false=>
  have ep:routeD L ws=(40,L):=by rw[ep0];unfold routeQD;rw[if_pos (.inr (.inr (.inl hs2)))]
  simp(disch:=first|assumption|omega|(simp only[LN]<;>omega)|(simp(disch:=first|assumption|omega|(simp only[LN]<;>omega))only[row_alloc,row_set];assumption))only[W_block,P3,seval,initFr,clsA,gl,gr,ll,ho]
  exact fail _ _ 40 rfl rfl (by rw[ep]) (by decide) (Keeps.refl _)
 |true=>
 simp(disch:=first|assumption|omega)only[W_block,P3,seval,initFr,clsA,r4,nw,a_load1v,t4]
 refine callQ (t72 T4 (hg m4).1 (hg m4).2) ?_
 cases hs4:g4.all shpB with
 |false=>
  have ep:routeD L ws=(40,L):=by rw[ep0];unfold routeQD;rw[if_pos (.inr (.inr (.inr hs4)))]
  simp(disch:=first|assumption|omega|(simp only[LN]<;>omega)|(simp(disch:=first|assumption|omega|(simp only[LN]<;>omega))only[row_alloc,row_set];assumption))only[W_block,P3,seval,initFr,clsA,gl,gr,ll,ho]
  exact fail _ _ 40 rfl rfl (by rw[ep]) (by decide) (Keeps.refl _)
 |true=>
 rw[routeQD_t h3 hr hs2 hs4]at ep0
 simp(disch:=first|assumption|omega)only[W_block,P3,seval,initFr,clsA,gl,ll]
 refine callK (t42 h1.ly hf) ?_
 intro vn K2 on
 have k2:=on.k
 have ra2:=(Keeps.row k2 (Sl.bn_le hv1 (by intro e;simp at e;rw[e]at hwl;simp at hwl) (by omega)) (v:=v) (j:=1) (esz:=1)).trans ra
 simp(disch:=first|assumption|omega)only[W_block,P3,seval,initFr,clsA,ra2,na,a_load1v,t1]
 have blt:bn v-1<K1.n:=by have h1:=Sl.bn_le hv1 (by intro e;simp at e;rw[e]at hwl;simp at hwl) (by omega);have h2:=nnS_bn na;omega
 refine⟨⟨blt,k2.get _ blt⟩,?_⟩
 refine callQ (t44 (on.sl:TL K2 vn (namesL L)) (by simp only[namesL,List.length_append,List.length_map];have:=hL.s;have:=hL.p;have:=hL.g;have:=hL.r;omega) (ws.getD 1 [])) ?_
 have gl2:=k2.at_ gl
 have gr2:=k2.at_ gr
 rcases ixV_n L (ws.getD 1 [])with⟨en,ev⟩|⟨ix,en,ev⟩
 rotate_left
 ·rw[ev]
  have ep:routeD L ws=(41,L):=by rw[ep0,en];rfl
  have c5:(0:Int)≤((ix:Nat):Int):=by omega
  simp(disch:=first|assumption|omega|(simp only[LN]<;>omega)|(simp(disch:=first|assumption|omega|(simp only[LN]<;>omega))only[row_alloc,row_set];assumption))only[W_block,P3,seval,initFr,clsA,gl2,gr2,ll,ho]
  exact fail _ _ 41 rfl rfl (by rw[ep]) (by decide) k2
 rw[ev]
 simp only[en,Bool.false_eq_true,if_false]at ep0
 have c5:¬(0:Int)≤(-1:Int):=by omega
 have hg2:=h1.keeps k2
 have lg:lenS u.g=L.g.length:=hg2.ly.g.len
 have ig:=Sl.is hg2.ly.g
 have lgn:=hf.g.1
 simp(disch:=first|assumption|omega)only[P3,seval,initFr,clsA]
 rw[W_block]
 refine W_loop2 (fun k fr X=>∃i s x19,fr=[.agg u.l.toArray,v,ptr K.n 0,ptr (K.n+1) 0,.int .i64 0,w,s,.int .i64 ((i:Nat):Int),undef,undef,undef,undef,undef,undef,undef,undef,undef,.bool false,.bool false,x19,undef,undef]∧OW 9 1 K2 X s (((L.g.take i).map (·.1)).map tRow)∧i≤L.g.length∧k=L.g.length-i) L.g.length
  ⟨0,_,_,rfl,OW.nil _ _ (Keeps.refl K2),by omega,rfl⟩ ?_
 rintro Q' k fr X ⟨i,s,x19,rfl,os,hi,rfl⟩ hn hx hret
 have glX:=os.k.at_ gl2
 have grX:=os.k.at_ gr2
 by_cases hlt:i<L.g.length
 ·obtain⟨ng,rg⟩:=(hg2.keeps os.k).ly.g.at_ hlt
  have h0:(0:Int)≤(i:Int):=by omega
  have h1:(i:Int)<((lenS u.g:Nat):Int):=by omega
  have h3:(i:Int)<((L.g.length:Nat):Int):=by omega
  have hwr:IntKind.i64.wrap ((i:Int)+1)=((i+1:Nat):Int):=by rw[wrap_i64 (by omega) (by omega)];simp
  have ts:=take_snoc ([],(0:Int)) hlt
  simp(disch:=first|assumption|omega)only[W_block,P3,seval,initFr,clsA,glX,V4.l,lg,rg,ng,a_load1v,fill1s]
  have os2:=os.keeps ((Keeps.refl X).alloc (.cells true false 1 [.string ⟨(L.g.getD i ([],0)).1.toArray⟩] 9))
  refine os2.appR (b:=16) (Sl.one1 rfl rfl) (by simp only[List.length_map,List.length_take,List.length_cons,List.length_nil];omega) ?_
  intro v' X' os3 _
  simp(disch:=first|assumption|omega)only[W_block,P3,seval,initFr,clsA,hwr]
  refine hn _ _ _ ⟨i+1,_,_,rfl,?_,by omega,rfl⟩ (by omega)
  rw[tRows_app]at os3
  rw[ts];simpa using os3
 have h3:¬(i:Int)<((L.g.length:Nat):Int):=by omega
 simp(disch:=first|assumption|omega)only[W_block,P3,seval,initFr,clsA,glX,V4.l,lg]
 refine hx 0 _ _ ?_
 rw[List.take_of_length_le (by omega)]at os
 clear hn hx hret
 have kX:=k2.trans os.k
 have hvX:=Sl.keeps hv1 kX
 have bwv:=Sl.bn_le hv1 (by intro e;simp at e;rw[e]at hwl;simp at hwl) (by omega)
 have raX:=(Keeps.row kX bwv (v:=v) (j:=1) (esz:=1)).trans ra
 have rbX:=(Keeps.row kX bwv (v:=v) (j:=2) (esz:=1)).trans rb
 simp(disch:=first|assumption|omega)only[W_block,P3,seval,initFr,clsA,raX,rbX,na,a_load1v,t1,t2]
 refine callQ (t44 (os.sl:TL X s (L.g.map (·.1))) (by rw[List.length_map];omega) (ws.getD 2 [])) ?_
 generalize hsv:ixV (ws.getD 2 []) (L.g.map (·.1))=sv at*
 generalize hnm:Value.string ⟨(ws.getD 1 []).toArray⟩=nm at*
 have hfz:fillA [.string ByteArray.empty,.int .i64 0,.slice none 0 0,.slice none 0 0,.slice none 0 0,.slice none 0 0] [(0,1,nm),(1,1,.int .i64 sv)]=some [nm,.int .i64 sv,.slice none 0 0,.slice none 0 0,.slice none 0 0,.slice none 0 0]:=by rw[←hnm];rfl
 have onm:nm.oneCell'=true:=by rw[←hnm];rfl
 have S0:SepH X _ [thB X.n (rO [nm,.int .i64 sv,.slice none 0 0,.slice none 0 0,.slice none 0 0,.slice none 0 0])]:=(SepH.nil X).box _
 have bww:bn w≤K1.n:=Sl.bn_le sg (by simp) (by omega)
 have rX:∀{j:Nat} {r:List Value},rowA K1 1 w j=some r→∀{Y:AHeap},Keeps X Y→rowA Y 1 w j=some r:=fun h Y k=>(Keeps.row (kX.trans k) bww).trans h
 have r1':=rX r1 S0.k
 have gk0:=S0.k.at_ glX
 have onz:[nm,.int .i64 sv,.slice none 0 0,.slice none 0 0,.slice none 0 0,.slice none 0 0].all Value.oneCell'=true:=by simp only[List.all_cons,List.all_nil,onm];rfl
 simp only[rO]at r1' gk0
 simp(disch:=first|assumption|omega|(simp only[LN]<;>omega)|(simp(disch:=first|assumption|omega|(simp only[LN]<;>omega))only[row_alloc,row_set];assumption))only[W_block,P3,seval,initFr,clsA,hfz,onz,gk0,ll,r1',nw,a_load1v,t1]
 refine⟨by simp,?_⟩
 refine callK (t73 ((hg2.keeps os.k).keeps S0.k).ly hf.s.1 (Sl.keeps T1 (kX.trans S0.k)) (hg m1).1) ?_
 rintro _ X1 ⟨j1,x1,rfl,o1⟩
 have S1:=S0.add j1 o1.th o1.thf
 generalize hPa:oAll (sIx L) g1=Pa at*
 have r2':=rX r2 S1.k
 have gk1:=S1.k.at_ glX
 simp(disch:=first|assumption|omega)only[W_block,P3,seval,initFr,clsA,gk1,ll,r2',nw,a_load1v,t2]
 refine callK (t74 ((hg2.keeps os.k).keeps S1.k).ly hf.p.1 (Sl.keeps T2 (kX.trans S1.k)) (hg m2).1 (all_shp hs2 (hg m2).2)) ?_
 rintro _ X2 ⟨j2,x2,rfl,o2⟩
 have S2:=S1.add j2 o2.th o2.thf
 generalize hPb:oAll (nIx L) g2=Pb at*
 have r3':=rX r3 S2.k
 have gk2:=S2.k.at_ glX
 simp(disch:=first|assumption|omega)only[W_block,P3,seval,initFr,clsA,gk2,ll,r3',nw,a_load1v,t3]
 refine callK (t73 ((hg2.keeps os.k).keeps S2.k).ly hf.s.1 (Sl.keeps T3 (kX.trans S2.k)) (hg m3).1) ?_
 rintro _ X3 ⟨j3,x3,rfl,o3⟩
 have S3:=S2.add j3 o3.th o3.thf
 generalize hPc:oAll (sIx L) g3=Pc at*
 have r4':=rX r4 S3.k
 have gk3:=S3.k.at_ glX
 simp(disch:=first|assumption|omega)only[W_block,P3,seval,initFr,clsA,gk3,ll,r4',nw,a_load1v,t4]
 refine callK (t74 ((hg2.keeps os.k).keeps S3.k).ly hf.p.1 (Sl.keeps T4 (kX.trans S3.k)) (hg m4).1 (all_shp hs4 (hg m4).2)) ?_
 rintro _ X4 ⟨j4,x4,rfl,o4⟩
 have S4:=S3.add j4 o4.th o4.thf
 generalize hPd:oAll (nIx L) g4=Pd at*
 have gr4:=(kX.trans S4.k)
 have gk4:=S4.k.at_ glX
 have gz4:=S4.k.at_ grX
 have rbx:X4.get X.n=some (rO [nm,.int .i64 sv,.slice none 0 0,.slice none 0 0,.slice none 0 0,.slice none 0 0]):=S4.at_ 4 rfl
 simp only[rO]at rbx
 have k4x:=S4.k
 have n4x:X.n<X4.n:=AHeap.get_lt rbx
 obtain⟨ea,hea⟩:∃e:Int,(if Pa.isSome=true then(0:Int)else 42)=e:=⟨_,rfl⟩
 obtain⟨eb,heb⟩:∃e:Int,(if Pb.isSome=true then(0:Int)else 42)=e:=⟨_,rfl⟩
 obtain⟨ec,hec⟩:∃e:Int,(if Pc.isSome=true then(0:Int)else 42)=e:=⟨_,rfl⟩
 obtain⟨ed,hed⟩:∃e:Int,(if Pd.isSome=true then(0:Int)else 42)=e:=⟨_,rfl⟩
 rw[hea,heb,hec,hed]
 rcases ixV_g L (ws.getD 2 [])with⟨es,ev⟩|⟨s,es,ev⟩
 ·rw[ev]at hsv
  subst hsv
  rw[es]at ep0
  have ep:routeD L ws=(42,L):=by rw[ep0]
  have c6:(-1:Int)<0:=by omega
  simp(disch:=first|assumption|omega|(simp only[LN]<;>omega)|(simp(disch:=first|assumption|omega|(simp only[LN]<;>omega))only[row_alloc,row_set];assumption))only[W_block,P3,seval,initFr,clsA,rbx,gk4,gz4,ll,ho]
  exact fail _ _ 42 rfl rfl (by rw[ep]) (by decide) gr4
 rw[ev]at hsv
 subst hsv
 rw[es]at ep0
 have c6:¬((s:Nat):Int)<0:=by omega
 have hfe:fillA [.int .i64 0,.int .i64 0,.int .i64 0,.int .i64 0] [(0,1,.int .i64 ea),(1,1,.int .i64 eb),(2,1,.int .i64 ec),(3,1,.int .i64 ed)]=some [.int .i64 ea,.int .i64 eb,.int .i64 ec,.int .i64 ed]:=rfl
 have k5:Keeps X4 (X4.alloc (.cells true false 1 [.int .i64 ea,.int .i64 eb,.int .i64 ec,.int .i64 ed] 32)):=(Keeps.refl X4).alloc _
 have il:IL (X4.alloc (.cells true false 1 [.int .i64 ea,.int .i64 eb,.int .i64 ec,.int .i64 ed] 32)) (slc X4.n 0 4 4) [ea,eb,ec,ed]:=⟨⟨_,_,rfl⟩,by simp[iRow],by rw[elems_new rfl rfl];rfl⟩
 have S5:=S4.keeps k5
 simp(disch:=first|assumption|omega)only[W_block,P3,seval,initFr,clsA,rbx,hfe]
 refine callQ (t75 il (by simp)) ?_
 have gk5:=k5.at_ gk4
 have gz5:=k5.at_ gz4
 have rb5:=k5.at_ rbx
 generalize X4.alloc (.cells true false 1 [.int .i64 ea,.int .i64 eb,.int .i64 ec,.int .i64 ed] 32)=X5 at*
 by_cases hall:(Pa.isSome&&Pb.isSome&&Pc.isSome&&Pd.isSome)=true
 rotate_left
 ·have ep:routeD L ws=(42,L):=by
   rw[ep0];cases Pa<;>cases Pb<;>cases Pc<;>cases Pd<;>first|rfl|exact absurd rfl hall
  have e0:(fstE [ea,eb,ec,ed] != 0)=true:=by
   subst hea heb hec hed
   cases Pa<;>cases Pb<;>cases Pc<;>cases Pd<;>first|rfl|exact absurd rfl hall
  simp(disch:=first|assumption|omega|(simp only[LN]<;>omega)|(simp(disch:=first|assumption|omega|(simp only[LN]<;>omega))only[row_alloc,row_set];assumption))only[W_block,P3,seval,initFr,clsA,e0,gk5,gz5,ll,ho]
  exact fail _ _ 42 rfl rfl (by rw[ep]) (by decide) (gr4.trans k5)
 cases Pa with
 |none=>cases hall
 |some p=>
 cases Pb with
 |none=>cases hall
 |some q=>
 cases Pc with
 |none=>cases hall
 |some o=>
 cases Pd with
 |none=>cases hall
 |some f=>
 simp only[Option.isSome_some,if_true]at hea heb hec hed
 subst hea heb hec hed
 have e0:(fstE [0,0,0,0] != 0)=false:=rfl
 simp only[Option.getD_some]at o1 o2 o3 o4 S1 S2 S3 S4 S5
 have L1:lenS x1=p.length:=by rw[o1.len];simp
 have L2:lenS x2=q.length:=by rw[o2.len];simp
 have L3:lenS x3=o.length:=by rw[o3.len];simp
 have L4:lenS x4=f.length:=by rw[o4.len];simp
 have I1:=o1.is
 have I2:=o2.is
 have I3:=o3.is
 have I4:=o4.is
 have v1':x1.oneCell'=true:=o1.one
 have v2':x2.oneCell'=true:=o2.one
 have v3':x3.oneCell'=true:=o3.one
 have v4':x4.oneCell'=true:=o4.one
 have w1':one1 x1=True:=by simp[one1,v1']
 have w2':one1 x2=True:=by simp[one1,v2']
 have w3':one1 x3=True:=by simp[one1,v3']
 have w4':one1 x4=True:=by simp[one1,v4']
 have n5x:X.n<X5.n:=AHeap.get_lt rb5
 have lbx:K.n<X.n:=AHeap.get_lt glX
 have rbx':K.n+1<X.n:=AHeap.get_lt grX
 have k6:Keeps X (X5.set X.n (rO [nm,.int .i64 ((s:Nat):Int),x1,x2,x3,x4])):=(S5.k).set (Nat.le_refl _) n5x _
 by_cases hlim:16<p.length∨16<q.length∨16<o.length∨16<f.length
 ·have ep:routeD L ws=(3,L):=by rw[ep0];exact if_pos hlim
  have fin:=fun fr h3 h4=>fail fr (X5.set X.n (rO [nm,.int .i64 ((s:Nat):Int),x1,x2,x3,x4])) 3 h3 h4 (by rw[ep]) (by decide) (kX.trans k6)
  simp only[rO]at fin
  by_cases b1:16<p.length
  ·have q1:(16:Int)<((p.length:Nat):Int):=by omega
   simp(disch:=first|assumption|omega|(simp only[LN]<;>omega)|(simp(disch:=first|assumption|omega|(simp only[LN]<;>omega))only[row_alloc,row_set];assumption))only[W_block,P3,seval,initFr,clsA,e0,gk5,gz5,rb5,ll,ho,w1',w2',w3',w4',v1',v2',v3',v4',L1,L2,L3,L4]
   exact fin _ rfl rfl
  have q1:¬(16:Int)<((p.length:Nat):Int):=by omega
  by_cases b2:16<q.length
  ·have q2:(16:Int)<((q.length:Nat):Int):=by omega
   simp(disch:=first|assumption|omega|(simp only[LN]<;>omega)|(simp(disch:=first|assumption|omega|(simp only[LN]<;>omega))only[row_alloc,row_set];assumption))only[W_block,P3,seval,initFr,clsA,e0,gk5,gz5,rb5,ll,ho,w1',w2',w3',w4',v1',v2',v3',v4',L1,L2,L3,L4]
   exact fin _ rfl rfl
  have q2:¬(16:Int)<((q.length:Nat):Int):=by omega
  by_cases b3:16<o.length
  ·have q3:(16:Int)<((o.length:Nat):Int):=by omega
   simp(disch:=first|assumption|omega|(simp only[LN]<;>omega)|(simp(disch:=first|assumption|omega|(simp only[LN]<;>omega))only[row_alloc,row_set];assumption))only[W_block,P3,seval,initFr,clsA,e0,gk5,gz5,rb5,ll,ho,w1',w2',w3',w4',v1',v2',v3',v4',L1,L2,L3,L4]
   exact fin _ rfl rfl
  have q3:¬(16:Int)<((o.length:Nat):Int):=by omega
  have q4:(16:Int)<((f.length:Nat):Int):=by omega
  simp(disch:=first|assumption|omega|(simp only[LN]<;>omega)|(simp(disch:=first|assumption|omega|(simp only[LN]<;>omega))only[row_alloc,row_set];assumption))only[W_block,P3,seval,initFr,clsA,e0,gk5,gz5,rb5,ll,ho,w1',w2',w3',w4',v1',v2',v3',v4',L1,L2,L3,L4]
  exact fin _ rfl rfl
 have q1:¬(16:Int)<((p.length:Nat):Int):=by omega
 have q2:¬(16:Int)<((q.length:Nat):Int):=by omega
 have q3:¬(16:Int)<((o.length:Nat):Int):=by omega
 have q4:¬(16:Int)<((f.length:Nat):Int):=by omega
 have ep:routeD L ws=(0,{L with r:=L.r++[⟨ws.getD 1 [],((s:Nat):Int),p,q,o,f⟩]}):=by rw[ep0];exact if_neg hlim
 subst hnm
 have S6:=S5.u4 (t':=thB X.n (rO [.string ⟨(ws.getD 1 []).toArray⟩,.int .i64 ((s:Nat):Int),x1,x2,x3,x4])) (Chg.set X5 n5x _) (AHeap.get_set_same rb5 _) (fun y hy=>.inl hy)
 have hx:(thI [⟨⟨ws.getD 1 [],((s:Nat):Int),p,q,o,f⟩,x1,x2,x3,x4⟩]).P _:=fun y hy=>by
  rw[List.mem_singleton]at hy
  subst hy
  have a1:=S6.at_ 3 rfl
  have a2:=S6.at_ 2 rfl
  have a3:=S6.at_ 1 rfl
  have a4:=S6.at_ 0 rfl
  exact⟨AP.sl (rows:=p.map iRow) a1 o1.r rfl,AP.sl (rows:=q.map nRow) a2 o2.r rfl,AP.sl (rows:=o.map iRow) a3 o3.r rfl,AP.sl (rows:=f.map nRow) a4 o4.r rfl⟩
 have S7:=S6.merges (us:=[_,_,_,_]) (r:=[_]) hx (fun y hy=>by
  have hy':y∈(⟨⟨ws.getD 1 [],((s:Nat):Int),p,q,o,f⟩,x1,x2,x3,x4⟩:RV).bl:=by simpa[thI]using hy
  simp only[RV.bl,List.mem_append]at hy'
  rcases hy' with((e|e)|e)|e
  ·exact⟨_,List.mem_cons_of_mem _ (List.mem_cons_of_mem _ (List.mem_cons_of_mem _ (List.mem_cons_self ..))),tb_blk o1.ap y e⟩
  ·exact⟨_,List.mem_cons_of_mem _ (List.mem_cons_of_mem _ (List.mem_cons_self ..)),tb_blk o2.ap y e⟩
  ·exact⟨_,List.mem_cons_of_mem _ (List.mem_cons_self ..),tb_blk o3.ap y e⟩
  ·exact⟨_,List.mem_cons_self ..,tb_blk o4.ap y e⟩)
 have J:=(J1.keeps kX).join S7
 have J2:=J.perm (List.Perm.cons _ ((List.perm_append_comm (l₁:=[_,_,_,_,_,_,_]) (l₂:=[_])).append_right ex))
 have J3:=J2.merges (us:=[_,_]) (r:=_::_::_::_::_::_::_::ex) (t:=thI (xs++[⟨⟨ws.getD 1 [],((s:Nat):Int),p,q,o,f⟩,x1,x2,x3,x4⟩])) (fun y hy=>by
  rcases List.mem_append.1 hy with hy|hy
  ·exact J2.at_ 1 rfl y hy
  ·exact J2.at_ 0 rfl y hy) (fun y hy=>by
  simp only[thI,List.flatMap_append,List.mem_append]at hy
  rcases hy with e|e
  ·exact⟨_,List.mem_cons_of_mem _ (List.mem_cons_self ..),e⟩
  ·exact⟨_,List.mem_cons_self ..,e⟩)
 have hf6:fillA [.string ByteArray.empty,.int .i64 0,.slice none 0 0,.slice none 0 0,.slice none 0 0,.slice none 0 0] [(0,6,.agg #[.string ⟨(ws.getD 1 []).toArray⟩,.int .i64 ((s:Nat):Int),x1,x2,x3,x4])]=some [.string ⟨(ws.getD 1 []).toArray⟩,.int .i64 ((s:Nat):Int),x1,x2,x3,x4]:=rfl
 have ha6:[.string ⟨(ws.getD 1 []).toArray⟩,.int .i64 ((s:Nat):Int),x1,x2,x3,x4].all Value.oneCell'=true:=by
  simp only[List.all_cons,List.all_nil,v1',v2',v3',v4',Bool.and_true];rfl
 simp(disch:=first|assumption|omega|(simp only[LN]<;>omega)|(simp(disch:=first|assumption|omega|(simp only[LN]<;>omega))only[row_alloc,row_set];assumption))only[W_block,P3,seval,initFr,clsA,e0,gk5,gz5,rb5,ll,ho,w1',w2',w3',w4',v1',v2',v3',v4',L1,L2,L3,L4,hf6,ha6,V4.l]
 have J4:=J3.keeps ((Keeps.refl _).alloc (.cells true false 6 [.string ⟨(ws.getD 1 []).toArray⟩,.int .i64 ((s:Nat):Int),x1,x2,x3,x4] 44))
 have a8:AP _ 44 6 u.r xs.length (xs.map RV.row).flatten:=J4.at_ 7 rfl
 have lx:xs.length=L.r.length:=h1.ly.rlen
 have hL4:=hL.r
 refine appG a8 ⟨_,_,rfl⟩ (elems_new rfl rfl) rfl ⟨by omega,by omega⟩ ?_
 intro v' K9 a9 c9 hb9
 have ov:v'.oneCell'=true:=by obtain⟨a,rfl⟩:=a9.shape;rfl
 have ow:one1 v'=True:=by simp[one1,ov]
 have J9:=J4.upd (l:=[_,_,_,_,_,_,_]) (r:=ex) (t':=thA 44 6 v' (xs.length+1) ((xs.map RV.row).flatten++[.string ⟨(ws.getD 1 []).toArray⟩,.int .i64 ((s:Nat):Int),x1,x2,x3,x4])) c9 a9 (fun y hy=>by
  rcases hb9 with e|e
  ·left;have:=mem_blkL.1 hy;rw[e]at this;exact mem_blkL.2 this
  ·right;have:=mem_blkL.1 hy;rw[e]at this;cases this;exact Nat.le_refl _)
 have gl9:K9.get K.n=some (.cells true false 4 [u.s,u.p,u.g,u.r] 30):=J9.at_ 3 rfl
 have gr9:K9.get (K.n+1)=some (.cells true false 4 [.slice none 0 0,.slice none 0 0,.slice none 0 0,.slice none 0 0] 30):=J9.at_ 2 rfl
 have n9:=AHeap.get_lt gr9
 have hou:[u.s,u.p,u.g,v'].all Value.oneCell'=true:=by
  simp only[List.all_cons,List.all_nil,Sl.one h1.ly.s,Sl.one h1.ly.p,Sl.one h1.ly.g,ov];rfl
 simp(disch:=first|assumption|omega|(simp only[LN]<;>omega)|(simp(disch:=first|assumption|omega|(simp only[LN]<;>omega))only[row_alloc,row_set];assumption))only[W_block,P3,seval,initFr,clsA,gl9,gr9,ow,ov,hou]
 have JA:=J9.u3 (t':=thB K.n (lO [u.s,u.p,u.g,v'])) (Chg.set K9 (AHeap.get_lt gl9) _) (AHeap.get_set_same gl9 _) (fun y hy=>.inl hy)
 have grA:_=some (AO.cells true false 4 [.slice none 0 0,.slice none 0 0,.slice none 0 0,.slice none 0 0] 30):=JA.at_ 2 rfl
 have JB:=JA.u2 (t':=thB (K.n+1) (lO [u.s,u.p,u.g,v'])) (Chg.set _ (AHeap.get_lt grA) _) (AHeap.get_set_same grA _) (fun y hy=>.inl hy)
 refine hq2 _ _ ⟨_,resL rfl rfl (JB.at_ 2 rfl) rfl,JB.k,⟨u.s,u.p,u.g,v'⟩,by rw[ep];rfl,hou,fun _=>⟨xs++[⟨⟨ws.getD 1 [],((s:Nat):Int),p,q,o,f⟩,x1,x2,x3,x4⟩],?_⟩,fun e=>absurd (by rw[ep]) e⟩
 rw[ep]
 refine⟨?_,by simp[h.e]⟩
 have JC:=(JB.perm ((List.perm_append_comm (l₁:=[_]) (l₂:=[_,_,_,_,_,_,_])).append_right ex)).tail.tail.tail
 have ef:(xs.map RV.row).flatten++[.string ⟨(ws.getD 1 []).toArray⟩,.int .i64 ((s:Nat):Int),x1,x2,x3,x4]=((xs++[(⟨⟨ws.getD 1 [],((s:Nat):Int),p,q,o,f⟩,x1,x2,x3,x4⟩:RV)]).map RV.row).flatten:=by simp[RV.row]
 rw[ef]at JC
 have:xs.length+1=(xs++[(⟨⟨ws.getD 1 [],((s:Nat):Int),p,q,o,f⟩,x1,x2,x3,x4⟩:RV)]).length:=by simp
 rw[this]at JC
 exact JC
end Go.AM.Fd

namespace Go.AM.Fd
open Nat (reduceAdd reduceEqDiff reduceLT reduceLeDiff reduceMul reduceSub)
open Go.Proofs Go.AM.F
theorem b_neS(a b:List UInt8):binA .neq (.string ⟨a.toArray⟩) (.string ⟨b.toArray⟩)=some (.bool (!decide (a=b))):=by
 have h:=b_eqS a b
 simp only[binA,strA,Option.some.injEq,Value.bool.injEq]at h ⊢
 rw[h]
def lineD0(L:Ly)(ws:List (List UInt8)):Int×Ly:=
 if ws.getD 0 []=wRoute then(if ws.length<2 then(40,L)else routeD L ws)
 else if ws.getD 0 []=wSection then(if ws.length≠2∨rightB (ws.getD 1 [])=false then(40,L)else if(ixT (ws.getD 1 []) (namesL L)).isSome then(41,L)else(0,{L with s:=L.s++[ws.getD 1 []]}))
 else if ws.getD 0 []=wPoint then(if ws.length≠3∨rightB (ws.getD 1 [])=false then(40,L)else if(ixT (ws.getD 1 []) (namesL L)).isSome then(41,L)else match sIx L (ws.getD 2 [])with
  |none=>(42,L)
  |some i=>(0,{L with p:=L.p++[(ws.getD 1 [],i)]}))
 else if ws.getD 0 []=wSignal then(if ws.length≠3∨rightB (ws.getD 1 [])=false then(40,L)else if(ixT (ws.getD 1 []) (namesL L)).isSome then(41,L)else match sIx L (ws.getD 2 [])with
  |none=>(42,L)
  |some i=>(0,{L with g:=L.g++[(ws.getD 1 [],i)]}))
 else(40,L)
set_option maxHeartbeats 8000000 in
theorem t27{B K:AHeap}{u:V4}{xs:List RV}{L:Ly}{ex:List Th}{v:Value}{ws:List (List UInt8)}(h:DR B K u xs L ex)(hf:LyFit L)(hL:LyLim L)(hv:TL K v ws)(hl:ws.length≤1000000)(h1w:1≤ws.length)(hw:∀w∈ws,w.length≤1000000000):
 ∃w K',ARun Tryz.prog 4 27 [.agg u.l.toArray,v] K w K'∧Keeps B K'∧∃u',w=.tuple #[.agg u'.l.toArray,.int .i64 (lineD0 L ws).1]∧u'.l.all Value.oneCell'=true∧((lineD0 L ws).1 =0→∃xs',DR B K' u' xs' (lineD0 L ws).2 ex)∧((lineD0 L ws).1 ≠0→Keeps K K'):=by
 refine walk2 f27_ok f27_n ?_
 intro Q hq1 hq2
 have ho:=ly_ones h.ly
 have ll:u.l.length=4:=rfl
 have nil_ones:[Value.slice none 0 0,.slice none 0 0,.slice none 0 0,.slice none 0 0].all Value.oneCell'=true:=rfl
 have J1:=(h.sep.box (lO u.l)).box (lO [.slice none 0 0,.slice none 0 0,.slice none 0 0,.slice none 0 0])
 have k01:Keeps K ((K.alloc (lO u.l)).alloc (lO [.slice none 0 0,.slice none 0 0,.slice none 0 0,.slice none 0 0])):=((Keeps.refl K).alloc _).alloc _
 have h1:=h.keeps k01
 have hv1:TL _ v ws:=Sl.keeps hv k01
 have gl:((K.alloc (lO u.l)).alloc (lO [.slice none 0 0,.slice none 0 0,.slice none 0 0,.slice none 0 0])).get K.n=some (.cells true false 4 u.l 30):=J1.at_ 1 rfl
 have gr:((K.alloc (lO u.l)).alloc (lO [.slice none 0 0,.slice none 0 0,.slice none 0 0,.slice none 0 0])).get (K.n+1)=some (.cells true false 4 [.slice none 0 0,.slice none 0 0,.slice none 0 0,.slice none 0 0] 30):=J1.at_ 0 rfl
 simp only[lO]at J1 k01 h1 hv1 gl gr
 have ia:=Sl.is hv
 have la:=hv.len
 have c0:(0:Int)≤0:=by omega
 have c1:(0:Int)≤1:=by omega
 have c2:(0:Int)≤2:=by omega
 have t0:Int.toNat 0=0:=rfl
 have t1:Int.toNat 1=1:=rfl
 have t2:Int.toNat 2=2:=rfl
 have d0:(0:Int)<((lenS v:Nat):Int):=by omega
 have bwv:=Sl.bn_le hv1 (by intro e;simp at e;rw[e]at h1w;simp at h1w) (by omega)
 simp(disch:=first|assumption|omega)only[f27,P3,seval,initFr,clsA,ho]
 generalize(K.alloc (.cells true false 4 u.l 30)).alloc (.cells true false 4 [.slice none 0 0,.slice none 0 0,.slice none 0 0,.slice none 0 0] 30)=K1 at*
 obtain⟨na,r0⟩:=hv1.at_ (i:=0) (by omega)
 unfold tRow at r0
 have nlt:K.n+1<K1.n:=AHeap.get_lt gr
 have blt:bn v-1<K1.n:=by have h2:=nnS_bn na;omega
 have fail:∀(fr:List Value) (X:AHeap) (e:Int),fr.getD 3 undef=ptr (K.n+1) 0→fr.getD 4 undef=.int .i64 e→(lineD0 L ws).1 =e→e≠0→Keeps K1 X→Q .ret fr (X.set (K.n+1) (.cells true false 4 u.l 30)):=fun fr X e f3 f4 hd he kx=>by
  have gx:=kx.at_ gr
  refine hq2 _ _ ⟨_,resL f3 f4 (AHeap.get_set_same gx _) rfl,?_,u,by rw[hd],ho,fun e0=>absurd (hd.symm.trans e0) he,fun _=>(k01.trans kx).set (by omega) (AHeap.get_lt gx) _⟩
  have h4:=(J1.keeps kx).u0 (t':=thB (K.n+1) (lO u.l)) (Chg.set X (AHeap.get_lt gx) (lO u.l)) (AHeap.get_set_same gx _) (fun y hy=>.inl hy)
  exact h4.k
 have q1:binA .eql (.string ⟨(ws.getD 0 []).toArray⟩) (.string ⟨⟨[114,111,117,116,101]⟩⟩)=some (.bool (decide (ws.getD 0 []=wRoute))):=b_eqS _ wRoute
 have q2:binA .eql (.string ⟨(ws.getD 0 []).toArray⟩) (.string ⟨⟨[115,101,99,116,105,111,110]⟩⟩)=some (.bool (decide (ws.getD 0 []=wSection))):=b_eqS _ wSection
 have q3:binA .eql (.string ⟨(ws.getD 0 []).toArray⟩) (.string ⟨⟨[112,111,105,110,116]⟩⟩)=some (.bool (decide (ws.getD 0 []=wPoint))):=b_eqS _ wPoint
 have n2:binA .neq (.string ⟨(ws.getD 0 []).toArray⟩) (.string ⟨⟨[115,101,99,116,105,111,110]⟩⟩)=some (.bool (!decide (ws.getD 0 []=wSection))):=b_neS _ wSection
 have n3:binA .neq (.string ⟨(ws.getD 0 []).toArray⟩) (.string ⟨⟨[112,111,105,110,116]⟩⟩)=some (.bool (!decide (ws.getD 0 []=wPoint))):=b_neS _ wPoint
 have n4:binA .neq (.string ⟨(ws.getD 0 []).toArray⟩) (.string ⟨⟨[115,105,103,110,97,108]⟩⟩)=some (.bool (!decide (ws.getD 0 []=wSignal))):=b_neS _ wSignal
 have dR:decide (wRoute=wSection)=false:=by decide
 by_cases hR:ws.getD 0 []=wRoute
 ·have ed:lineD0 L ws=if ws.length<2 then((40:Int),L)else routeD L ws:=by unfold lineD0;rw[if_pos hR]
  rw[decide_eq_true hR]at q1
  by_cases h2:ws.length<2
  ·have e2:((ws.length:Nat):Int)<2:=by omega
   simp(disch:=first|assumption|omega|(simp only[LN]<;>omega)|(simp(disch:=first|assumption|omega|(simp only[LN]<;>omega))only[row_alloc,row_set];assumption))only[W_block,P3,seval,initFr,clsA,r0,na,a_load1v,t0,q1,la,gl,gr,ll,ho]
   exact fail _ _ 40 rfl rfl (by rw[ed,if_pos h2]) (by decide) (Keeps.refl _)
  have e2:¬((ws.length:Nat):Int)<2:=by omega
  rw[if_neg h2]at ed
  simp(disch:=first|assumption|omega)only[W_block,P3,seval,initFr,clsA,r0,na,a_load1v,t0,q1,la,gl,gr,ll,ho]
  have hD:DR B K1 u xs L (thB (K.n+1) (lO [.slice none 0 0,.slice none 0 0,.slice none 0 0,.slice none 0 0])::thB K.n (lO u.l)::ex):=by
   refine⟨?_,h.e⟩
   have:=J1.perm ((List.perm_append_comm (l₁:=[_,_]) (l₂:=[_,_,_,_,_])).append_right ex)
   exact this
  refine callK (t55 hD hf hL hv1 hl (by omega) hw) ?_
  rintro _ X ⟨kx,u',rfl,o',r',f'⟩
  have l':u'.l.length=4:=rfl
  by_cases hz:(routeD L ws).1 =0
  ·obtain⟨xs',D'⟩:=r' hz
   have gx:X.get (K.n+1)=some (.cells true false 4 [.slice none 0 0,.slice none 0 0,.slice none 0 0,.slice none 0 0] 30):=D'.sep.at_ 5 rfl
   simp(disch:=first|assumption|omega|(simp only[LN]<;>omega)|(simp(disch:=first|assumption|omega|(simp only[LN]<;>omega))only[row_alloc,row_set];assumption))only[W_block,P3,seval,initFr,clsA,gx,l',o']
   have D2:=(D'.sep.perm ((List.perm_append_comm (l₁:=[_,_,_,_,_]) (l₂:=[_,_])).append_right ex)).u0 (t':=thB (K.n+1) (lO u'.l)) (Chg.set X (AHeap.get_lt gx) _) (AHeap.get_set_same gx _) (fun y hy=>.inl hy)
   refine hq2 _ _ ⟨_,resL rfl rfl (AHeap.get_set_same gx _) rfl,D2.k,u',by rw[ed];rfl,o',fun _=>⟨xs',?_⟩,fun e=>absurd (by rw[ed];exact hz) e⟩
   rw[ed]
   exact⟨D2.tail.tail,D'.e⟩
  ·have kx':=f' hz
   have gx:=kx'.at_ gr
   simp(disch:=first|assumption|omega|(simp only[LN]<;>omega)|(simp(disch:=first|assumption|omega|(simp only[LN]<;>omega))only[row_alloc,row_set];assumption))only[W_block,P3,seval,initFr,clsA,gx,l',o']
   refine hq2 _ _ ⟨_,resL rfl rfl (AHeap.get_set_same gx _) rfl,?_,u',by rw[ed];rfl,o',fun e=>absurd (by rw[ed]at e;exact e) hz,fun _=>(k01.trans kx').set (by omega) (AHeap.get_lt gx) _⟩
   have h4:=(J1.keeps kx').u0 (t':=thB (K.n+1) (lO u'.l)) (Chg.set X (AHeap.get_lt gx) _) (AHeap.get_set_same gx _) (fun y hy=>.inl hy)
   exact h4.k
 rw[decide_eq_false hR]at q1
 by_cases hS:ws.getD 0 []=wSection
 ·have ed:lineD0 L ws=if ws.length≠2∨rightB (ws.getD 1 [])=false then((40:Int),L)else if(ixT (ws.getD 1 []) (namesL L)).isSome then(41,L)else(0,{L with s:=L.s++[ws.getD 1 []]}):=by unfold lineD0;rw[if_neg hR,if_pos hS]
  rw[decide_eq_true hS]at q2 n2
  by_cases h2:ws.length=2
  rotate_left
  ·have e2:(((ws.length:Nat):Int) != 2)=true:=bnei_yes (by omega)
   simp(disch:=first|assumption|omega|(simp only[LN]<;>omega)|(simp(disch:=first|assumption|omega|(simp only[LN]<;>omega))only[row_alloc,row_set];assumption))only[W_block,P3,seval,initFr,clsA,r0,na,a_load1v,t0,q1,q2,n2,la,e2,gl,gr,ll,ho]
   exact fail _ _ 40 rfl rfl (by rw[ed,if_pos (.inl h2)]) (by decide) (Keeps.refl _)
  have e2:(((ws.length:Nat):Int) != 2)=false:=bnei_no (by omega)
  obtain⟨_,ra⟩:=hv1.at_ (i:=1) (by omega)
  have hlen:=hw _ (getD_mem (d:=[]) (show 1<ws.length by omega))
  have q5:(1:Int)<((lenS v:Nat):Int):=by omega
  unfold tRow at ra
  replace h2:¬ws.length≠2:=fun e=>e h2
  simp(disch:=first|assumption|omega)only[W_block,P3,seval,initFr,clsA,r0,na,a_load1v,t0,q1,q2,n2,la,e2,ra,t1]
  refine callQ (t43 _ _ (Nat.le_trans hlen (by decide))) ?_
  cases hr:rightB (ws.getD 1 [])with
  |false=>
   simp(disch:=first|assumption|omega|(simp only[LN]<;>omega)|(simp(disch:=first|assumption|omega|(simp only[LN]<;>omega))only[row_alloc,row_set];assumption))only[W_block,P3,seval,initFr,clsA,gl,gr,ll,ho]
   exact fail _ _ 40 rfl rfl (by rw[ed,if_pos (.inr hr)]) (by decide) (Keeps.refl _)
  |true=>
  rw[if_neg (by rintro(e|e);exact h2 e;rw[hr]at e;cases e)]at ed
  simp(disch:=first|assumption|omega)only[W_block,P3,seval,initFr,clsA,gl,ll]
  refine callK (t42 h1.ly hf) ?_
  intro vn K2 on
  have k2:=on.k
  have ra2:=(Keeps.row k2 bwv (v:=v) (j:=1) (esz:=1)).trans ra
  have r02:=(Keeps.row k2 bwv (v:=v) (j:=0) (esz:=1)).trans r0
  simp(disch:=first|assumption|omega)only[W_block,P3,seval,initFr,clsA,ra2,na,a_load1v,t1]
  refine⟨k2.get _ blt,?_⟩
  refine callQ (t44 (on.sl:TL K2 vn (namesL L)) (by simp only[namesL,List.length_append,List.length_map];have:=hL.s;have:=hL.p;have:=hL.g;have:=hL.r;omega) (ws.getD 1 [])) ?_
  have gl2:=k2.at_ gl
  have gr2:=k2.at_ gr
  rcases ixV_n L (ws.getD 1 [])with⟨en,ev⟩|⟨ix,en,ev⟩
  rotate_left
  ·rw[ev]
   have c5:(0:Int)≤((ix:Nat):Int):=by omega
   simp(disch:=first|assumption|omega|(simp only[LN]<;>omega)|(simp(disch:=first|assumption|omega|(simp only[LN]<;>omega))only[row_alloc,row_set];assumption))only[W_block,P3,seval,initFr,clsA,gl2,gr2,ll,ho]
   exact fail _ _ 41 rfl rfl (by rw[ed,en];rfl) (by decide) k2
  rw[ev]
  simp only[en,Bool.false_eq_true,if_false]at ed
  have c5:¬(0:Int)≤(-1:Int):=by omega
  have J2:=J1.keeps k2
  have h2':=h1.keeps k2
  simp(disch:=first|assumption|omega)only[W_block,P3,seval,initFr,clsA,r02,ra2,na,a_load1v,t0,t1,q2,gl2,V4.l,fill1s]
  have J3:=J2.keeps ((Keeps.refl K2).alloc (.cells true false 1 [.string ⟨(ws.getD 1 []).toArray⟩] 9))
  have a8:AP _ 9 1 u.s L.s.length (L.s.map tRow).flatten:=J3.at_ 2 rfl
  have hLk:=hL.s
  refine appGD a8 ⟨_,_,rfl⟩ (elems_new rfl rfl) rfl ⟨by omega,by omega⟩ ?_
  intro v' K9 a9 c9 hb9
  have ov:v'.oneCell'=true:=by obtain⟨a,rfl⟩:=a9.shape;rfl
  have ow:one1 v'=True:=by simp[one1,ov]
  have J9:=J3.upd (l:=[_,_]) (r:=_::_::_::_::ex) (t':=thA 9 1 v' (L.s.length+1) ((L.s.map tRow).flatten++[Value.string ⟨(ws.getD 1 []).toArray⟩])) c9 a9 (fun y hy=>by
   rcases hb9 with e|e
   ·left;have:=mem_blkL.1 hy;rw[e]at this;exact mem_blkL.2 this
   ·right;have:=mem_blkL.1 hy;rw[e]at this;cases this;exact Nat.le_refl _)
  have gl9:K9.get K.n=some (.cells true false 4 [u.s,u.p,u.g,u.r] 30):=J9.at_ 1 rfl
  have gr9:K9.get (K.n+1)=some (.cells true false 4 [.slice none 0 0,.slice none 0 0,.slice none 0 0,.slice none 0 0] 30):=J9.at_ 0 rfl
  have n9:=AHeap.get_lt gr9
  have hou:[v',u.p,u.g,u.r].all Value.oneCell'=true:=by
   simp only[List.all_cons,List.all_nil,Sl.one h1.ly.s,Sl.one h1.ly.p,Sl.one h1.ly.g,Sl.one h1.ly.r,ov];rfl
  simp(disch:=first|assumption|omega|(simp only[LN]<;>omega)|(simp(disch:=first|assumption|omega|(simp only[LN]<;>omega))only[row_alloc,row_set];assumption))only[W_block,P3,seval,initFr,clsA,gl9,gr9,ow,ov,hou]
  have JA:=J9.u1 (t':=thB K.n (lO [v',u.p,u.g,u.r])) (Chg.set K9 (AHeap.get_lt gl9) _) (AHeap.get_set_same gl9 _) (fun y hy=>.inl hy)
  have grA:_=some (AO.cells true false 4 [.slice none 0 0,.slice none 0 0,.slice none 0 0,.slice none 0 0] 30):=JA.at_ 0 rfl
  have JB:=JA.u0 (t':=thB (K.n+1) (lO [v',u.p,u.g,u.r])) (Chg.set _ (AHeap.get_lt grA) _) (AHeap.get_set_same grA _) (fun y hy=>.inl hy)
  refine hq2 _ _ ⟨_,resL rfl rfl (JB.at_ 0 rfl) rfl,JB.k,⟨v',u.p,u.g,u.r⟩,by rw[ed];rfl,hou,fun _=>⟨xs,?_⟩,fun e=>absurd (by rw[ed]) e⟩
  rw[ed]
  refine⟨?_,h.e⟩
  have JC:=JB.tail.tail
  have ef:(L.s.map tRow).flatten++[Value.string ⟨(ws.getD 1 []).toArray⟩]=((L.s++[ws.getD 1 []]).map tRow).flatten:=by simp[tRow]
  rw[ef]at JC
  have:L.s.length+1=(L.s++[ws.getD 1 []]).length:=by simp
  rw[this]at JC
  exact JC
 rw[decide_eq_false hS]at q2 n2
 by_cases hP:ws.getD 0 []=wPoint
 ·have ed:lineD0 L ws=if ws.length≠3∨rightB (ws.getD 1 [])=false then((40:Int),L)else if(ixT (ws.getD 1 []) (namesL L)).isSome then(41,L)else match sIx L (ws.getD 2 [])with
  |none=>(42,L)
  |some i=>(0,{L with p:=L.p++[(ws.getD 1 [],i)]}):=by unfold lineD0;rw[if_neg hR,if_neg hS,if_pos hP]
  rw[decide_eq_true hP]at q3 n3
  by_cases h2:ws.length=3
  rotate_left
  ·have e2:(((ws.length:Nat):Int) != 3)=true:=bnei_yes (by omega)
   simp(disch:=first|assumption|omega|(simp only[LN]<;>omega)|(simp(disch:=first|assumption|omega|(simp only[LN]<;>omega))only[row_alloc,row_set];assumption))only[W_block,P3,seval,initFr,clsA,r0,na,a_load1v,t0,q1,q2,n2,n3,n4,la,e2,gl,gr,ll,ho]
   exact fail _ _ 40 rfl rfl (by rw[ed,if_pos (.inl h2)]) (by decide) (Keeps.refl _)
  have e2:(((ws.length:Nat):Int) != 3)=false:=bnei_no (by omega)
  obtain⟨_,ra⟩:=hv1.at_ (i:=1) (by omega)
  have hlen:=hw _ (getD_mem (d:=[]) (show 1<ws.length by omega))
  have q5:(1:Int)<((lenS v:Nat):Int):=by omega
  unfold tRow at ra
  obtain⟨_,rb⟩:=hv1.at_ (i:=2) (by omega)
  unfold tRow at rb
  have q6:(2:Int)<((lenS v:Nat):Int):=by omega
  replace h2:¬ws.length≠3:=fun e=>e h2
  simp(disch:=first|assumption|omega)only[W_block,P3,seval,initFr,clsA,r0,na,a_load1v,t0,q1,q2,n2,n3,n4,la,e2,ra,t1]
  refine callQ (t43 _ _ (Nat.le_trans hlen (by decide))) ?_
  cases hr:rightB (ws.getD 1 [])with
  |false=>
   simp(disch:=first|assumption|omega|(simp only[LN]<;>omega)|(simp(disch:=first|assumption|omega|(simp only[LN]<;>omega))only[row_alloc,row_set];assumption))only[W_block,P3,seval,initFr,clsA,gl,gr,ll,ho]
   exact fail _ _ 40 rfl rfl (by rw[ed,if_pos (.inr hr)]) (by decide) (Keeps.refl _)
  |true=>
  rw[if_neg (by rintro(e|e);exact h2 e;rw[hr]at e;cases e)]at ed
  simp(disch:=first|assumption|omega)only[W_block,P3,seval,initFr,clsA,gl,ll]
  refine callK (t42 h1.ly hf) ?_
  intro vn K2 on
  have k2:=on.k
  have ra2:=(Keeps.row k2 bwv (v:=v) (j:=1) (esz:=1)).trans ra
  have r02:=(Keeps.row k2 bwv (v:=v) (j:=0) (esz:=1)).trans r0
  simp(disch:=first|assumption|omega)only[W_block,P3,seval,initFr,clsA,ra2,na,a_load1v,t1]
  refine⟨k2.get _ blt,?_⟩
  refine callQ (t44 (on.sl:TL K2 vn (namesL L)) (by simp only[namesL,List.length_append,List.length_map];have:=hL.s;have:=hL.p;have:=hL.g;have:=hL.r;omega) (ws.getD 1 [])) ?_
  have gl2:=k2.at_ gl
  have gr2:=k2.at_ gr
  rcases ixV_n L (ws.getD 1 [])with⟨en,ev⟩|⟨ix,en,ev⟩
  rotate_left
  ·rw[ev]
   have c5:(0:Int)≤((ix:Nat):Int):=by omega
   simp(disch:=first|assumption|omega|(simp only[LN]<;>omega)|(simp(disch:=first|assumption|omega|(simp only[LN]<;>omega))only[row_alloc,row_set];assumption))only[W_block,P3,seval,initFr,clsA,gl2,gr2,ll,ho]
   exact fail _ _ 41 rfl rfl (by rw[ed,en];rfl) (by decide) k2
  rw[ev]
  simp only[en,Bool.false_eq_true,if_false]at ed
  have c5:¬(0:Int)≤(-1:Int):=by omega
  have J2:=J1.keeps k2
  have h2':=h1.keeps k2
  have rb2:=(Keeps.row k2 bwv (v:=v) (j:=2) (esz:=1)).trans rb
  simp(disch:=first|assumption|omega)only[W_block,P3,seval,initFr,clsA,r02,rb2,na,a_load1v,t0,t2,q2,gl2,V4.l]
  refine callQ (t44 h2'.ly.s (by have:=hL.s;omega) (ws.getD 2 [])) ?_
  rcases ixV_s L (ws.getD 2 [])with⟨es,ev⟩|⟨ix,es,ev⟩
  ·rw[ev]
   simp only[es]at ed
   have c6:(-1:Int)<0:=by omega
   have hob:(u.s.oneCell'&&(u.p.oneCell'&&(u.g.oneCell'&&u.r.oneCell')))=true:=by rw[Sl.one h1.ly.s,Sl.one h1.ly.p,Sl.one h1.ly.g,Sl.one h1.ly.r];rfl
   simp(disch:=first|assumption|omega|(simp only[LN]<;>omega)|(simp(disch:=first|assumption|omega|(simp only[LN]<;>omega))only[row_alloc,row_set];assumption))only[W_block,P3,seval,initFr,clsA,gl2,gr2,V4.l,ll,hob]
   exact fail _ _ 42 rfl rfl (by rw[ed]) (by decide) k2
  rw[ev]
  simp only[es]at ed
  have c6:¬((ix:Nat):Int)<0:=by omega
  have hfa:fillA [.string ByteArray.empty,.int .i64 0] [(0,1,.string ⟨(ws.getD 1 []).toArray⟩),(1,1,.int .i64 ((ix:Nat):Int))]=some [.string ⟨(ws.getD 1 []).toArray⟩,.int .i64 ((ix:Nat):Int)]:=rfl
  have hfb:fillA [.string ByteArray.empty,.int .i64 0] [(0,2,.agg #[.string ⟨(ws.getD 1 []).toArray⟩,.int .i64 ((ix:Nat):Int)])]=some [.string ⟨(ws.getD 1 []).toArray⟩,.int .i64 ((ix:Nat):Int)]:=rfl
  simp(disch:=first|assumption|omega)only[W_block,P3,seval,initFr,clsA,r02,ra2,na,a_load1v,t0,t1,q3,gl2,V4.l,hfa,hfb]
  have J3:=J2.keeps ((Keeps.refl K2).alloc (.cells true false 2 [.string ⟨(ws.getD 1 []).toArray⟩,.int .i64 ((ix:Nat):Int)] 46))
  have a8:AP _ 46 2 u.p L.p.length (L.p.map pRow).flatten:=J3.at_ 3 rfl
  have hLk:=hL.p
  refine appGD a8 ⟨_,_,rfl⟩ (elems_new rfl rfl) rfl ⟨by omega,by omega⟩ ?_
  intro v' K9 a9 c9 hb9
  have ov:v'.oneCell'=true:=by obtain⟨a,rfl⟩:=a9.shape;rfl
  have ow:one1 v'=True:=by simp[one1,ov]
  have J9:=J3.upd (l:=[_,_,_]) (r:=_::_::_::ex) (t':=thA 46 2 v' (L.p.length+1) ((L.p.map pRow).flatten++[Value.string ⟨(ws.getD 1 []).toArray⟩,.int .i64 ((ix:Nat):Int)])) c9 a9 (fun y hy=>by
   rcases hb9 with e|e
   ·left;have:=mem_blkL.1 hy;rw[e]at this;exact mem_blkL.2 this
   ·right;have:=mem_blkL.1 hy;rw[e]at this;cases this;exact Nat.le_refl _)
  have gl9:K9.get K.n=some (.cells true false 4 [u.s,u.p,u.g,u.r] 30):=J9.at_ 1 rfl
  have gr9:K9.get (K.n+1)=some (.cells true false 4 [.slice none 0 0,.slice none 0 0,.slice none 0 0,.slice none 0 0] 30):=J9.at_ 0 rfl
  have n9:=AHeap.get_lt gr9
  have hou:[u.s,v',u.g,u.r].all Value.oneCell'=true:=by
   simp only[List.all_cons,List.all_nil,Sl.one h1.ly.s,Sl.one h1.ly.p,Sl.one h1.ly.g,Sl.one h1.ly.r,ov];rfl
  simp(disch:=first|assumption|omega|(simp only[LN]<;>omega)|(simp(disch:=first|assumption|omega|(simp only[LN]<;>omega))only[row_alloc,row_set];assumption))only[W_block,P3,seval,initFr,clsA,gl9,gr9,ow,ov,hou]
  have JA:=J9.u1 (t':=thB K.n (lO [u.s,v',u.g,u.r])) (Chg.set K9 (AHeap.get_lt gl9) _) (AHeap.get_set_same gl9 _) (fun y hy=>.inl hy)
  have grA:_=some (AO.cells true false 4 [.slice none 0 0,.slice none 0 0,.slice none 0 0,.slice none 0 0] 30):=JA.at_ 0 rfl
  have JB:=JA.u0 (t':=thB (K.n+1) (lO [u.s,v',u.g,u.r])) (Chg.set _ (AHeap.get_lt grA) _) (AHeap.get_set_same grA _) (fun y hy=>.inl hy)
  refine hq2 _ _ ⟨_,resL rfl rfl (JB.at_ 0 rfl) rfl,JB.k,⟨u.s,v',u.g,u.r⟩,by rw[ed];rfl,hou,fun _=>⟨xs,?_⟩,fun e=>absurd (by rw[ed]) e⟩
  rw[ed]
  refine⟨?_,h.e⟩
  have JC:=JB.tail.tail
  have ef:(L.p.map pRow).flatten++[Value.string ⟨(ws.getD 1 []).toArray⟩,.int .i64 ((ix:Nat):Int)]=((L.p++[(ws.getD 1 [],((ix:Nat):Int))]).map pRow).flatten:=by simp[pRow]
  rw[ef]at JC
  have:L.p.length+1=(L.p++[(ws.getD 1 [],((ix:Nat):Int))]).length:=by simp
  rw[this]at JC
  exact JC
 rw[decide_eq_false hP]at q3 n3
 by_cases hG:ws.getD 0 []=wSignal
 ·have ed:lineD0 L ws=if ws.length≠3∨rightB (ws.getD 1 [])=false then((40:Int),L)else if(ixT (ws.getD 1 []) (namesL L)).isSome then(41,L)else match sIx L (ws.getD 2 [])with
  |none=>(42,L)
  |some i=>(0,{L with g:=L.g++[(ws.getD 1 [],i)]}):=by unfold lineD0;rw[if_neg hR,if_neg hS,if_neg hP,if_pos hG]
  rw[decide_eq_true hG]at n4
  by_cases h2:ws.length=3
  rotate_left
  ·have e2:(((ws.length:Nat):Int) != 3)=true:=bnei_yes (by omega)
   simp(disch:=first|assumption|omega|(simp only[LN]<;>omega)|(simp(disch:=first|assumption|omega|(simp only[LN]<;>omega))only[row_alloc,row_set];assumption))only[W_block,P3,seval,initFr,clsA,r0,na,a_load1v,t0,q1,q2,n2,n3,n4,la,e2,gl,gr,ll,ho]
   exact fail _ _ 40 rfl rfl (by rw[ed,if_pos (.inl h2)]) (by decide) (Keeps.refl _)
  have e2:(((ws.length:Nat):Int) != 3)=false:=bnei_no (by omega)
  obtain⟨_,ra⟩:=hv1.at_ (i:=1) (by omega)
  have hlen:=hw _ (getD_mem (d:=[]) (show 1<ws.length by omega))
  have q5:(1:Int)<((lenS v:Nat):Int):=by omega
  unfold tRow at ra
  obtain⟨_,rb⟩:=hv1.at_ (i:=2) (by omega)
  unfold tRow at rb
  have q6:(2:Int)<((lenS v:Nat):Int):=by omega
  replace h2:¬ws.length≠3:=fun e=>e h2
  simp(disch:=first|assumption|omega)only[W_block,P3,seval,initFr,clsA,r0,na,a_load1v,t0,q1,q2,n2,n3,n4,la,e2,ra,t1]
  refine callQ (t43 _ _ (Nat.le_trans hlen (by decide))) ?_
  cases hr:rightB (ws.getD 1 [])with
  |false=>
   simp(disch:=first|assumption|omega|(simp only[LN]<;>omega)|(simp(disch:=first|assumption|omega|(simp only[LN]<;>omega))only[row_alloc,row_set];assumption))only[W_block,P3,seval,initFr,clsA,gl,gr,ll,ho]
   exact fail _ _ 40 rfl rfl (by rw[ed,if_pos (.inr hr)]) (by decide) (Keeps.refl _)
  |true=>
  rw[if_neg (by rintro(e|e);exact h2 e;rw[hr]at e;cases e)]at ed
  simp(disch:=first|assumption|omega)only[W_block,P3,seval,initFr,clsA,gl,ll]
  refine callK (t42 h1.ly hf) ?_
  intro vn K2 on
  have k2:=on.k
  have ra2:=(Keeps.row k2 bwv (v:=v) (j:=1) (esz:=1)).trans ra
  have r02:=(Keeps.row k2 bwv (v:=v) (j:=0) (esz:=1)).trans r0
  simp(disch:=first|assumption|omega)only[W_block,P3,seval,initFr,clsA,ra2,na,a_load1v,t1]
  refine⟨k2.get _ blt,?_⟩
  refine callQ (t44 (on.sl:TL K2 vn (namesL L)) (by simp only[namesL,List.length_append,List.length_map];have:=hL.s;have:=hL.p;have:=hL.g;have:=hL.r;omega) (ws.getD 1 [])) ?_
  have gl2:=k2.at_ gl
  have gr2:=k2.at_ gr
  rcases ixV_n L (ws.getD 1 [])with⟨en,ev⟩|⟨ix,en,ev⟩
  rotate_left
  ·rw[ev]
   have c5:(0:Int)≤((ix:Nat):Int):=by omega
   simp(disch:=first|assumption|omega|(simp only[LN]<;>omega)|(simp(disch:=first|assumption|omega|(simp only[LN]<;>omega))only[row_alloc,row_set];assumption))only[W_block,P3,seval,initFr,clsA,gl2,gr2,ll,ho]
   exact fail _ _ 41 rfl rfl (by rw[ed,en];rfl) (by decide) k2
  rw[ev]
  simp only[en,Bool.false_eq_true,if_false]at ed
  have c5:¬(0:Int)≤(-1:Int):=by omega
  have J2:=J1.keeps k2
  have h2':=h1.keeps k2
  have rb2:=(Keeps.row k2 bwv (v:=v) (j:=2) (esz:=1)).trans rb
  simp(disch:=first|assumption|omega)only[W_block,P3,seval,initFr,clsA,r02,rb2,na,a_load1v,t0,t2,q2,gl2,V4.l]
  refine callQ (t44 h2'.ly.s (by have:=hL.s;omega) (ws.getD 2 [])) ?_
  rcases ixV_s L (ws.getD 2 [])with⟨es,ev⟩|⟨ix,es,ev⟩
  ·rw[ev]
   simp only[es]at ed
   have c6:(-1:Int)<0:=by omega
   have hob:(u.s.oneCell'&&(u.p.oneCell'&&(u.g.oneCell'&&u.r.oneCell')))=true:=by rw[Sl.one h1.ly.s,Sl.one h1.ly.p,Sl.one h1.ly.g,Sl.one h1.ly.r];rfl
   simp(disch:=first|assumption|omega|(simp only[LN]<;>omega)|(simp(disch:=first|assumption|omega|(simp only[LN]<;>omega))only[row_alloc,row_set];assumption))only[W_block,P3,seval,initFr,clsA,gl2,gr2,V4.l,ll,hob]
   exact fail _ _ 42 rfl rfl (by rw[ed]) (by decide) k2
  rw[ev]
  simp only[es]at ed
  have c6:¬((ix:Nat):Int)<0:=by omega
  have hfa:fillA [.string ByteArray.empty,.int .i64 0] [(0,1,.string ⟨(ws.getD 1 []).toArray⟩),(1,1,.int .i64 ((ix:Nat):Int))]=some [.string ⟨(ws.getD 1 []).toArray⟩,.int .i64 ((ix:Nat):Int)]:=rfl
  have hfb:fillA [.string ByteArray.empty,.int .i64 0] [(0,2,.agg #[.string ⟨(ws.getD 1 []).toArray⟩,.int .i64 ((ix:Nat):Int)])]=some [.string ⟨(ws.getD 1 []).toArray⟩,.int .i64 ((ix:Nat):Int)]:=rfl
  simp(disch:=first|assumption|omega)only[W_block,P3,seval,initFr,clsA,r02,ra2,na,a_load1v,t0,t1,q3,gl2,V4.l,hfa,hfb]
  have J3:=J2.keeps ((Keeps.refl K2).alloc (.cells true false 2 [.string ⟨(ws.getD 1 []).toArray⟩,.int .i64 ((ix:Nat):Int)] 47))
  have a8:AP _ 47 2 u.g L.g.length (L.g.map pRow).flatten:=J3.at_ 4 rfl
  have hLk:=hL.g
  refine appGD a8 ⟨_,_,rfl⟩ (elems_new rfl rfl) rfl ⟨by omega,by omega⟩ ?_
  intro v' K9 a9 c9 hb9
  have ov:v'.oneCell'=true:=by obtain⟨a,rfl⟩:=a9.shape;rfl
  have ow:one1 v'=True:=by simp[one1,ov]
  have J9:=J3.upd (l:=[_,_,_,_]) (r:=_::_::ex) (t':=thA 47 2 v' (L.g.length+1) ((L.g.map pRow).flatten++[Value.string ⟨(ws.getD 1 []).toArray⟩,.int .i64 ((ix:Nat):Int)])) c9 a9 (fun y hy=>by
   rcases hb9 with e|e
   ·left;have:=mem_blkL.1 hy;rw[e]at this;exact mem_blkL.2 this
   ·right;have:=mem_blkL.1 hy;rw[e]at this;cases this;exact Nat.le_refl _)
  have gl9:K9.get K.n=some (.cells true false 4 [u.s,u.p,u.g,u.r] 30):=J9.at_ 1 rfl
  have gr9:K9.get (K.n+1)=some (.cells true false 4 [.slice none 0 0,.slice none 0 0,.slice none 0 0,.slice none 0 0] 30):=J9.at_ 0 rfl
  have n9:=AHeap.get_lt gr9
  have hou:[u.s,u.p,v',u.r].all Value.oneCell'=true:=by
   simp only[List.all_cons,List.all_nil,Sl.one h1.ly.s,Sl.one h1.ly.p,Sl.one h1.ly.g,Sl.one h1.ly.r,ov];rfl
  simp(disch:=first|assumption|omega|(simp only[LN]<;>omega)|(simp(disch:=first|assumption|omega|(simp only[LN]<;>omega))only[row_alloc,row_set];assumption))only[W_block,P3,seval,initFr,clsA,gl9,gr9,ow,ov,hou]
  have JA:=J9.u1 (t':=thB K.n (lO [u.s,u.p,v',u.r])) (Chg.set K9 (AHeap.get_lt gl9) _) (AHeap.get_set_same gl9 _) (fun y hy=>.inl hy)
  have grA:_=some (AO.cells true false 4 [.slice none 0 0,.slice none 0 0,.slice none 0 0,.slice none 0 0] 30):=JA.at_ 0 rfl
  have JB:=JA.u0 (t':=thB (K.n+1) (lO [u.s,u.p,v',u.r])) (Chg.set _ (AHeap.get_lt grA) _) (AHeap.get_set_same grA _) (fun y hy=>.inl hy)
  refine hq2 _ _ ⟨_,resL rfl rfl (JB.at_ 0 rfl) rfl,JB.k,⟨u.s,u.p,v',u.r⟩,by rw[ed];rfl,hou,fun _=>⟨xs,?_⟩,fun e=>absurd (by rw[ed]) e⟩
  rw[ed]
  refine⟨?_,h.e⟩
  have JC:=JB.tail.tail
  have ef:(L.g.map pRow).flatten++[Value.string ⟨(ws.getD 1 []).toArray⟩,.int .i64 ((ix:Nat):Int)]=((L.g++[(ws.getD 1 [],((ix:Nat):Int))]).map pRow).flatten:=by simp[pRow]
  rw[ef]at JC
  have:L.g.length+1=(L.g++[(ws.getD 1 [],((ix:Nat):Int))]).length:=by simp
  rw[this]at JC
  exact JC
 rw[decide_eq_false hG]at n4
 have ed:lineD0 L ws=(40,L):=by unfold lineD0;rw[if_neg hR,if_neg hS,if_neg hP,if_neg hG]
 simp(disch:=first|assumption|omega|(simp only[LN]<;>omega)|(simp(disch:=first|assumption|omega|(simp only[LN]<;>omega))only[row_alloc,row_set];assumption))only[W_block,P3,seval,initFr,clsA,r0,na,a_load1v,t0,q1,q2,n2,n3,n4,la,gl,gr,ll,ho]
 exact fail _ _ 40 rfl rfl (by rw[ed]) (by decide) (Keeps.refl _)
end Go.AM.Fd

namespace Go.AM.Fd
open Nat (reduceAdd reduceEqDiff reduceLT reduceLeDiff reduceMul reduceSub)
open Go.Proofs Go.AM.F
theorem t25(H:AHeap)(s:List UInt8)(hl:s.length≤1000000):∃w K,ARun Tryz.prog 4 25 [.string ⟨s.toArray⟩] H w K∧Keeps H K∧AP K 9 1 w (splitB 10 s).length (txs (splitB 10 s))∧Fresh H.n w:=by
 refine walk2 f25_ok f25_n ?_
 intro Q hq1 hq2
 simp(disch:=first|assumption|omega)only[f25,P3,seval,initFr,clsA]
 rw[W_block]
 refine W_loop2 (fun k fr M=>∃i f ts v x5 x6,fr=[.string ⟨s.toArray⟩,.slice none 0 0,v,.int .i64 ((f:Nat):Int),.int .i64 ((i:Nat):Int),x5,x6]∧
  Keeps H M∧AP M 9 1 v ts.length (txs ts)∧Fresh H.n v∧f≤i∧i≤s.length∧k=s.length-i∧ts.length≤i∧(∀j,f≤j→j<i→s.getD j 0≠10)∧splitB 10 s=ts++splitB 10 (s.drop f)) s.length
  ⟨0,0,[],_,_,_,rfl,Keeps.refl H,.inl ⟨rfl,rfl,rfl⟩,(fun b hb=>by cases hb),Nat.le_refl _,by omega,rfl,by simp,fun j h1 h2=>absurd h2 (by omega),by simp⟩ ?_
 rintro Q2 k fr M ⟨i,f,ts,v,x5,x6,rfl,km,ha,hfr,hfi,hi,rfl,htl,hns,hws⟩ hn2 hx2 hret2
 have hw:IntKind.i64.wrap ((i:Int)+1)=((i+1:Nat):Int):=by rw[wrap_i64 (by omega) (by omega)];simp
 have hkn:=km.n
 by_cases hlt:i<s.length
 ·have h3:(i:Int)<((s.length:Nat):Int):=by omega
  have e0:((((s.getD i 0).toNat:Nat):Int)==10)=(s.getD i 0==10):=u8_eqi (s.getD i 0) 10 (by omega)
  by_cases he:s.getD i 0=10
  ·have e1:(s.getD i 0==10)=true:=by simpa using he
   rw[e1]at e0
   have hix:=ixB_drop hfi hlt he hns
   have hsp:splitB 10 (s.drop f)=(s.take i).drop f::splitB 10 (s.drop (i+1)):=by
    rw[splitB_ix,hix]
    simp only
    rw[List.drop_drop,show f+(i-f+1)=i+1 by omega,List.drop_take]
   have hfl:fillA [.string ByteArray.empty] [(0,1,.string ⟨((s.take i).drop f).toArray⟩)]=some [.string ⟨((s.take i).drop f).toArray⟩]:=rfl
   have k4:=(Keeps.refl M).alloc (.cells true false 1 [.string ⟨((s.take i).drop f).toArray⟩] 9)
   simp(disch:=first|assumption|omega)only[W_block,P3,seval,initFr,clsA,a_idxS,e0,a_slsM,hfl]
   refine appG (ha.keeps k4) ⟨_,_,rfl⟩ (elems_new rfl rfl) rfl (by omega) ?_
   intro v' M2 a2 c2 b2
   simp(disch:=first|assumption|omega)only[W_block,P3,seval,initFr,clsA,hw]
   have hk2:Keeps H M2:=(km.trans k4).chg_trans c2 (hfr.L)
   refine hn2 _ _ _ ⟨i+1,i+1,ts++[(s.take i).drop f],v',_,_,rfl,hk2,?_,hfr.app (by simp[AHeap.alloc];omega) b2,Nat.le_refl _,by omega,rfl,by simp;omega,fun j h1 h2=>absurd h2 (by omega),?_⟩ (by omega)
   ·simpa[txs_app]using a2
   ·rw[hws,hsp];simp
  ·have e1:(s.getD i 0==10)=false:=by simpa using he
   rw[e1]at e0
   simp(disch:=first|assumption|omega)only[W_block,P3,seval,initFr,clsA,a_idxS,e0,hw]
   refine hn2 _ _ _ ⟨i+1,f,ts,v,_,_,rfl,km,ha,hfr,by omega,by omega,rfl,by omega,fun j h1 h2=>?_,hws⟩ (by omega)
   rcases Nat.lt_or_ge j i with h|h
   ·exact hns j h1 h
   ·rw[show j=i by omega];exact he
 ·have h3:¬(i:Int)<((s.length:Nat):Int):=by omega
  have hsp:splitB 10 (s.drop f)=[s.drop f]:=by
   rw[splitB_ix,ixB_drop_no (fun j h1 h2=>hns j h1 (by omega))]
  have hfs:f≤s.length:=by omega
  have hfl:fillA [.string ByteArray.empty] [(0,1,.string ⟨(s.drop f).toArray⟩)]=some [.string ⟨(s.drop f).toArray⟩]:=rfl
  have k4:=(Keeps.refl M).alloc (.cells true false 1 [.string ⟨(s.drop f).toArray⟩] 9)
  simp(disch:=first|assumption|omega)only[W_block,P3,seval,initFr,clsA]
  refine hx2 0 _ _ ?_
  simp(disch:=first|assumption|omega)only[W_block,P3,seval,initFr,clsA,a_slsT,hfl]
  refine appG (ha.keeps k4) ⟨_,_,rfl⟩ (elems_new rfl rfl) rfl (by omega) ?_
  intro v' M2 a2 c2 b2
  simp(disch:=first|assumption|omega)only[W_block,P3,seval,initFr,clsA]
  have hk2:Keeps H M2:=(km.trans k4).chg_trans c2 (hfr.L)
  refine hq2 _ _ ⟨_,rfl,hk2,?_,hfr.app (by simp[AHeap.alloc];omega) b2⟩
  rw[hws,hsp]
  simpa[txs_app,txs,tupV]using a2
def joinB{α:Type}(c:α):List (List α)→List α
 |[]=>[]
 |[t]=>t
 |t::u::r=>t++c::joinB c (u::r)
theorem join_split(c:UInt8):∀l:List UInt8,joinB c (splitB c l)=l
 |[]=>rfl
 |x::l=>by
  have ih:=join_split c l
  simp only[splitB]
  split
  ·rename_i h
   subst h
   cases hs:splitB x l with
   |nil=>exact absurd hs (splitB_ne x l)
   |cons p r=>rw[hs]at ih;simp[joinB,ih]
  ·split
   ·rename_i p r hs
    rw[hs]at ih
    cases r with
    |nil=>simp only[joinB]at ih ⊢;rw[ih]
    |cons q r=>simp only[joinB]at ih ⊢;rw[←ih];rfl
   ·rename_i hs;exact absurd hs (splitB_ne c l)
theorem joinB_snoc{α:Type}(c:α):∀(a:List (List α)) (t:List α),a≠[]→joinB c (a++[t])=joinB c a++c::t
 |[],t,h=>absurd rfl h
 |[x],t,_=>rfl
 |x::y::r,t,_=>by
  have:=joinB_snoc c (y::r) t (by simp)
  simp only[List.cons_append,joinB]at this ⊢
  rw[this];simp
end Go.AM.Fd

namespace Go.AM.Fd
open Nat (reduceAdd reduceEqDiff reduceLT reduceLeDiff reduceMul reduceSub)
open Go.Proofs Go.AM.F
def lineDW(L:Ly)(ws:List (List UInt8)):Int×Ly:=
 if ws.length=0 then(0,L)else if(lineD0 L ws).1 =0 then(if fullB (lineD0 L ws).2 then(3,L)else lineD0 L ws)else((lineD0 L ws).1,L)
def lineD(L:Ly)(l:List UInt8):Int×Ly:=if okW (aheadB l)then lineDW L (wordsB (aheadB l))else(30,L)
def parseD(s:List UInt8):Ly×Int×Nat:=if 16384<s.length then(ly0,3,0)else parseG lineD ly0 (splitB 10 s) 0
theorem getD_len{ws:List (List UInt8)}{i n:Nat}(hw:∀w∈ws,w.length≤n):(ws.getD i []).length≤n:=by
 by_cases h:i<ws.length
 ·exact hw _ (getD_mem h)
 ·simp[List.getD,List.getElem?_eq_none (Nat.le_of_not_lt h)]
theorem mem_app1{α:Type}{l:List α}{x:α}{p:α→Prop}(h1:∀y∈l,p y)(h2:p x):∀y∈l++[x],p y:=fun y hy=>by
 rcases List.mem_append.1 hy with hy|hy
 ·exact h1 y hy
 ·rw[List.mem_singleton]at hy;subst hy;exact h2
theorem routeD_fit{L:Ly}(h:LyFit L)(hL:LyLim L){ws:List (List UInt8)}(hw:∀w∈ws,w.length≤1000000000)(e:(routeD L ws).1 =0):LyFit (routeD L ws).2 :=by
 unfold routeD at e ⊢
 split
 ·unfold routeQD at e ⊢
  split
  ·exact h
  ·split
   ·exact h
   ·split
    ·split
     ·exact h
     ·rename_i hl
      refine⟨h.s,h.p,h.g,⟨by have:=hL.r;simp;omega,mem_app1 h.r.2 ?_⟩⟩
      simp only[not_or,Nat.not_lt]at hl
      have:=getD_len (i:=1) hw
      exact⟨by simp only;omega,by simp only;omega,by simp only;omega,by simp only;omega,by simp only;omega⟩
    ·exact h
 ·exact h
theorem lineD0_fit{L:Ly}(h:LyFit L)(hL:LyLim L){ws:List (List UInt8)}(hw:∀w∈ws,w.length≤1000000000)(e:(lineD0 L ws).1 =0):LyFit (lineD0 L ws).2 :=by
 have hg:=getD_len (i:=1) hw
 have hs:=hL.s
 have hp:=hL.p
 have hg2:=hL.g
 unfold lineD0 at e ⊢
 split
 ·rename_i h1
  rw[if_pos h1]at e
  split
  ·exact h
  ·rename_i h2;rw[if_neg h2]at e;exact routeD_fit h hL hw e
 ·split
  ·split
   ·exact h
   ·split
    ·exact h
    ·exact⟨⟨by simp;omega,mem_app1 h.s.2 (by omega)⟩,h.p,h.g,h.r⟩
  ·split
   ·split
    ·exact h
    ·split
     ·exact h
     ·split
      ·exact h
      ·exact⟨h.s,⟨by simp;omega,mem_app1 h.p.2 (by simp only;omega)⟩,h.g,h.r⟩
   ·split
    ·split
     ·exact h
     ·split
      ·exact h
      ·split
       ·exact h
       ·exact⟨h.s,h.p,⟨by simp;omega,mem_app1 h.g.2 (by simp only;omega)⟩,h.r⟩
    ·exact h
theorem ly0_fit:LyFit ly0:=⟨⟨by simp[ly0],by simp[ly0]⟩,⟨by simp[ly0],by simp[ly0]⟩,⟨by simp[ly0],by simp[ly0]⟩,⟨by simp[ly0],by simp[ly0]⟩⟩
theorem DR.lyS{B K K':AHeap}{u:V4}{xs:List RV}{L:Ly}{ex:List Th}{S:List Nat}(h:DR B K u xs L ex)(c:Chg S K K')(hS:∀y∈S,y<B.n):LyR K' u xs L:=by
 have key:∀(i:Nat) (t:Th),(dT u xs L ex)[i]? =some t→t.P K':=fun i t hi=>by
  have hp:=h.sep.at_ i hi
  refine t.st K K' hp c.n (fun y hy=>c.get y (t.lt K hp y hy) (fun hm=>?_))
  have h1:=h.sep.gei i hi hy
  have h2:=hS y hm
  omega
 exact ly_of (key 0 _ rfl) (key 1 _ rfl) (key 2 _ rfl) (key 3 _ rfl) (key 4 _ rfl) h.e
set_option maxHeartbeats 4000000 in
theorem t14(H:AHeap)(s:List UInt8):
 ∃w K,ARun Tryz.prog 4 14 [.string ⟨s.toArray⟩] H w K∧Keeps H K∧∃u xs,w=.tuple #[.agg u.l.toArray,.int .i64 (parseD s).2.1,.int .i64 ((parseD s).2.2 :Nat)]∧LyR K u xs (parseD s).1 :=by
 refine walk2 f14_ok f14_n ?_
 intro Q hq1 hq2
 have kh:Keeps H (H.alloc (lO [.slice none 0 0,.slice none 0 0,.slice none 0 0,.slice none 0 0])):=(Keeps.refl H).alloc _
 have gh:(H.alloc (lO [.slice none 0 0,.slice none 0 0,.slice none 0 0,.slice none 0 0])).get H.n=_:=AHeap.get_alloc_new _ _
 simp only[lO]at kh gh
 by_cases hlen:16384<s.length
 ·have e1:(16384:Int)<((s.length:Nat):Int):=by omega
  have ep:parseD s=(ly0,3,0):=by unfold parseD;rw[if_pos hlen]
  simp(disch:=first|assumption|omega|(simp only[LN]<;>omega)|(simp(disch:=first|assumption|omega|(simp only[LN]<;>omega))only[row_alloc,row_set];assumption))only[f14,W_block,P3,seval,initFr,clsA,a_lens]
  refine hq2 _ _ ⟨_,resP rfl rfl rfl gh rfl,kh,nil4,[],by rw[ep];rfl,by rw[ep];exact lyR0 _⟩
 have e1:¬(16384:Int)<((s.length:Nat):Int):=by omega
 have ep:parseD s=parseG lineD ly0 (splitB 10 s) 0:=by unfold parseD;rw[if_neg hlen]
 simp(disch:=first|assumption|omega)only[f14,W_block,P3,seval,initFr,clsA,a_lens]
 refine callK (t25 _ s (by omega)) ?_
 rintro vl K1 ⟨k1,al,fl⟩
 have la:lenS vl=(splitB 10 s).length:=(AP.tl al).len
 have ia:=Sl.is (AP.tl al)
 have nl:(splitB 10 s).length≤s.length+1:=splitB_len 10 s
 simp(disch:=first|assumption|omega|(simp only[LN]<;>omega)|(simp(disch:=first|assumption|omega|(simp only[LN]<;>omega))only[row_alloc,row_set];assumption))only[P3,seval,initFr,clsA,la]
 rw[W_block]
 have b0:SepH K1 _ [thB K1.n (lO nil4.l)]:=(SepH.nil K1).box _
 have R0:DR K1 _ nil4 [] ly0 [thB K1.n (lO nil4.l)]:=⟨(b0.adds (us:=[thA 9 1 (.slice none 0 0) 0 [],thA 46 2 (.slice none 0 0) 0 [],thA 47 2 (.slice none 0 0) 0 [],thA 44 6 (.slice none 0 0) 0 [],thI []]) (by
  intro t ht
  simp only[List.mem_cons,List.not_mem_nil,or_false]at ht
  rcases ht with rfl|rfl|rfl|rfl|rfl
  ·exact⟨.inl ⟨rfl,rfl,rfl⟩,rfl⟩
  ·exact⟨.inl ⟨rfl,rfl,rfl⟩,rfl⟩
  ·exact⟨.inl ⟨rfl,rfl,rfl⟩,rfl⟩
  ·exact⟨.inl ⟨rfl,rfl,rfl⟩,rfl⟩
  ·exact⟨by intro x hx;simp at hx,rfl⟩)).perm (List.perm_append_comm (l₁:=[_]) (l₂:=[_,_,_,_,_])),rfl⟩
 have kh1:=kh.trans k1
 have gh1:=k1.at_ gh
 have hv:=AP.tl al
 refine W_loop2 (fun k fr K=>∃i u xs L x7 x8 x9 x11 x12 x13 x14 x15,fr=[.string ⟨s.toArray⟩,ptr H.n 0,.int .i64 0,.int .i64 0,vl,ptr K1.n 0,.int .i64 ((i:Nat):Int),x7,x8,x9,.bool false,x11,x12,x13,x14,x15]∧DR K1 K u xs L [thB K1.n (lO u.l)]∧LyLim L∧LyFit L∧parseD s=parseG lineD L ((splitB 10 s).drop i) i∧i≤(splitB 10 s).length∧k=(splitB 10 s).length - i) (splitB 10 s).length
  ⟨0,_,_,_,_,_,_,_,_,_,_,_,rfl,R0,ly0_lim,ly0_fit,by rw[ep,List.drop_zero],by omega,rfl⟩ ?_
 rintro Q' k fr K ⟨i,u,xs,L,x7,x8,x9,x11,x12,x13,x14,x15,rfl,R,hL,hF,hp,hi,rfl⟩ hn hx hret
 have gK:=R.sep.k.at_ gh1
 have kK:=kh1.trans R.sep.k
 have hvK:TL K vl (splitB 10 s):=Sl.keeps hv R.sep.k
 have gl:K.get K1.n=some (.cells true false 4 u.l 30):=R.sep.at_ 5 rfl
 have hlt1:=AHeap.get_lt gh1
 have fail:∀(fr:List Value) (X:AHeap) (e:Int) (n:Nat),fr.getD 1 undef=ptr H.n 0→fr.getD 2 undef=.int .i64 e→fr.getD 3 undef=.int .i64 (n:Int)→parseD s=(ly0,e,n)→Keeps K1 X→Q .ret fr (X.set H.n (.cells true false 4 [.slice none 0 0,.slice none 0 0,.slice none 0 0,.slice none 0 0] 30)):=fun fr X e n f1 f2 f3 hd kx=>by
  have gx:=kx.at_ gh1
  refine hq2 _ _ ⟨_,resP f1 f2 f3 (AHeap.get_set_same gx _) rfl,(kh1.trans kx).set (Nat.le_refl _) (AHeap.get_lt gx) _,nil4,[],by rw[hd];rfl,by rw[hd];exact lyR0 _⟩
 by_cases hlt:i<(splitB 10 s).length
 ·obtain⟨na,ra⟩:=hvK.at_ hlt
  have h0:(0:Int)≤(i:Int):=by omega
  have h1:(i:Int)<((lenS vl:Nat):Int):=by omega
  have h3:(i:Int)<(((splitB 10 s).length:Nat):Int):=by omega
  have hw:IntKind.i64.wrap ((i:Int)+1)=((i+1:Nat):Int):=by rw[wrap_i64 (by omega) (by omega)];simp
  have hll:=splitB_lines hlt
  rw[parseG_step hlt]at hp
  unfold tRow at ra
  generalize(splitB 10 s).getD i []=l at*
  simp(disch:=first|assumption|omega)only[W_block,P3,seval,initFr,clsA,la,ra,na,a_load1v]
  refine callK (t26 K l (by omega)) ?_
  rintro _ K2 ⟨k2,hwd⟩
  have gl2:=k2.at_ gl
  have gK2:=k2.at_ gK
  unfold lineD at hp
  cases hok:okW (aheadB l)with
  |false=>
   simp only[hok,Bool.false_eq_true,if_false]at hwd hp
   subst hwd
   have e0:((30:Int) != 0)=true:=rfl
   simp(disch:=first|assumption|omega|(simp only[LN]<;>omega)|(simp(disch:=first|assumption|omega|(simp only[LN]<;>omega))only[row_alloc,row_set];assumption))only[W_block,P3,seval,initFr,clsA,e0,fill0,gK2,hw]
   exact hret _ _ (fail _ _ 30 (i+1) rfl rfl rfl (by rw[hp];rfl) (R.sep.k.trans k2))
  |true=>
  simp only[hok,if_true]at hwd hp
  obtain⟨v,rfl,av,fv⟩:=hwd
  have hv2:TL K2 v _:=AP.tl av
  have hwl:=wordsB_len (aheadB l)
  have hal:=ahead_len l
  have hwm:∀w∈wordsB (aheadB l),w.length≤1000000000:=fun w hm=>by have:=wordsB_mem hm;omega
  generalize wordsB (aheadB l)=ws at*
  have iv:=Sl.is hv2
  have lv:=hv2.len
  have e0:((0:Int) != 0)=false:=rfl
  unfold lineDW at hp
  by_cases hz:ws.length=0
  ·have ez:(((ws.length:Nat):Int)==0)=true:=beqi_yes (by omega)
   simp only[hz,if_true]at hp
   simp(disch:=first|assumption|omega)only[W_block,P3,seval,initFr,clsA,e0,lv,ez,hw]
   exact hn _ _ _ ⟨i+1,_,_,_,_,_,_,_,_,_,_,_,rfl,R.keeps k2,hL,hF,hp,by omega,rfl⟩ (by omega)
  have ez:(((ws.length:Nat):Int)==0)=false:=beqi_no (by omega)
  simp only[hz,if_false]at hp
  have R2:=R.keeps k2
  have ho:=ly_ones R2.ly
  have ll:u.l.length=4:=rfl
  simp(disch:=first|assumption|omega)only[W_block,P3,seval,initFr,clsA,e0,lv,ez,gl2,ll]
  refine callK (t27 R2 hF hL hv2 (by omega) (by omega) hwm) ?_
  rintro _ X ⟨kx,u',rfl,o',r',f'⟩
  have l':u'.l.length=4:=rfl
  have kXm:∀o,Keeps X (X.alloc o):=fun o=>(Keeps.refl X).alloc o
  have gm:(X.alloc (.cells true false 4 u'.l 30)).get X.n=some (.cells true false 4 u'.l 30):=AHeap.get_alloc_new _ _
  by_cases he:(lineD0 L ws).1 =0
  rotate_left
  ·simp only[he,if_false]at hp
   have e1:((lineD0 L ws).1 ==0)=false:=beqi_no he
   have e2:((lineD0 L ws).1 != 0)=true:=bnei_yes he
   have gx:(X.alloc (.cells true false 4 u'.l 30)).get H.n=_:=((f' he).alloc _).at_ gK2
   simp(disch:=first|assumption|omega|(simp only[LN]<;>omega)|(simp(disch:=first|assumption|omega|(simp only[LN]<;>omega))only[row_alloc,row_set];assumption))only[W_block,P3,seval,initFr,clsA,l',o',e1,e2,hw,fill0,gx]
   exact hret _ _ (fail _ _ _ (i+1) rfl rfl rfl (by rw[hp]) ((kx.trans (kXm _))))
  obtain⟨xs',R'⟩:=r' he
  simp only[he,if_true]at hp
  have e1:((lineD0 L ws).1 ==0)=true:=beqi_yes he
  rw[he]
  have R3:=R'.keeps (kXm (.cells true false 4 u'.l 30))
  have gx:(X.alloc (.cells true false 4 u'.l 30)).get H.n=_:=(kx.trans (kXm _)).at_ gh1
  have e10:((0:Int)==0)=true:=rfl
  simp(disch:=first|assumption|omega|(simp only[LN]<;>omega)|(simp(disch:=first|assumption|omega|(simp only[LN]<;>omega))only[row_alloc,row_set];assumption))only[W_block,P3,seval,initFr,clsA,l',o',e10,gm]
  refine callQ (t28 R3.ly) ?_
  cases hfl:fullB (lineD0 L ws).2 with
  |true=>
   simp only[hfl,if_true]at hp
   have e3:((3:Int) != 0)=true:=rfl
   simp(disch:=first|assumption|omega|(simp only[LN]<;>omega)|(simp(disch:=first|assumption|omega|(simp only[LN]<;>omega))only[row_alloc,row_set];assumption))only[W_block,P3,seval,initFr,clsA,e3,hw,fill0,gx]
   exact hret _ _ (fail _ _ 3 (i+1) rfl rfl rfl (by rw[hp];rfl) ((kx.trans (kXm _))))
  |false=>
  simp only[hfl,Bool.false_eq_true,if_false,he,if_true]at hp
  have gl3:(X.alloc (.cells true false 4 u'.l 30)).get K1.n=some (.cells true false 4 u.l 30):=R3.sep.at_ 5 rfl
  simp(disch:=first|assumption|omega)only[W_block,P3,seval,initFr,clsA,e0,hw,gm,gl3,l',o',ll]
  have R4:=R3.sep.upd (l:=[_,_,_,_,_]) (r:=[]) (t':=thB K1.n (lO u'.l)) (Chg.set _ (AHeap.get_lt gl3) _) (AHeap.get_set_same gl3 _) (fun y hy=>.inl hy)
  exact hn _ _ _ ⟨i+1,_,_,_,_,_,_,_,_,_,_,_,rfl,⟨R4,R3.e⟩,full_not hfl,lineD0_fit hF hL hwm he,hp,by omega,rfl⟩ (by omega)
 ·have h3:¬(i:Int)<(((splitB 10 s).length:Nat):Int):=by omega
  simp(disch:=first|assumption|omega)only[W_block,P3,seval,initFr,clsA,la]
  refine hx 0 _ _ ?_
  rw[List.drop_of_length_le (by omega)]at hp
  have ho:=ly_ones R.ly
  have ll:u.l.length=4:=rfl
  simp(disch:=first|assumption|omega|(simp only[LN]<;>omega)|(simp(disch:=first|assumption|omega|(simp only[LN]<;>omega))only[row_alloc,row_set];assumption))only[W_block,P3,seval,initFr,clsA,gl,gK,ho,ll]
  refine hq2 _ _ ⟨_,resP rfl rfl rfl (AHeap.get_set_same gK _) rfl,kK.set (Nat.le_refl _) (AHeap.get_lt gK) _,u,xs,by rw[hp];rfl,?_⟩
  rw[hp]
  exact R.lyS (Chg.set K (AHeap.get_lt gK) _) (fun y hy=>by
   simp only[List.mem_singleton]at hy;subst hy;exact hlt1)
end Go.AM.Fd

namespace Go.AM.Fd
open Nat (reduceAdd reduceEqDiff reduceLT reduceLeDiff reduceMul reduceSub)
open Go.Proofs Go.AM.F
theorem q_str(s:ByteArray):binA .eql (.string s) (.string s)=some (.bool true):=by rw[b_seql];simp
theorem q_ib(a:Int)(b:Bool)(X:AHeap):asem (.eqs [1,0] true (.agg #[.int .i64 a,.bool b]) (.agg #[.int .i64 a,.bool b])) X=some (.bool false,X):=by simp[asem,eqCs,eqC]
theorem q_si(a:ByteArray)(b:Int)(X:AHeap):asem (.eqs [2,1] true (.agg #[.string a,.int .i64 b]) (.agg #[.string a,.int .i64 b])) X=some (.bool false,X):=by simp[asem,eqCs,eqC]
theorem t56{H:AHeap}{v u:Value}{l:List Int}(ha:IL H v l)(hb:IL H u l)(hl:l.length≤9223372036854775807):∃w H',ARun Tryz.prog 4 56 [v,u] H w H'∧w=.bool true∧H'=H:=by
 refine walk2 f56_ok f56_n ?_
 intro Q hq1 hq2
 have ia:=Sl.is ha
 have ib:=Sl.is hb
 have la:=ha.len
 have lb:=hb.len
 have e1:(((l.length:Nat):Int) != ((l.length:Nat):Int))=false:=bnei_no rfl
 simp(disch:=first|assumption|omega)only[f56,P3,seval,initFr,clsA,la,lb,e1]
 rw[W_block]
 refine W_loop2 (fun k fr K=>∃i x2 x5 x6,fr=[v,u,x2,.int .i64 ((i:Nat):Int),.bool false,x5,x6]∧K=H∧i≤l.length∧k=l.length-i) l.length
  ⟨0,_,_,_,rfl,rfl,by omega,rfl⟩ ?_
 rintro Q' k fr K ⟨i,x2,x5,x6,rfl,rfl,hi,rfl⟩ hn hx hret
 by_cases hlt:i<l.length
 ·obtain⟨na,ra⟩:=ha.at_ hlt
  obtain⟨nb,rb⟩:=hb.at_ hlt
  have h0:(0:Int)≤(i:Int):=by omega
  have h1:(i:Int)<((lenS v:Nat):Int):=by omega
  have h2:(i:Int)<((lenS u:Nat):Int):=by omega
  have h3:(i:Int)<((l.length:Nat):Int):=by omega
  have hw:IntKind.i64.wrap ((i:Int)+1)=((i+1:Nat):Int):=by rw[wrap_i64 (by omega) (by omega)];simp
  generalize l.getD i 0=n at*
  have e2:∀n:Int,(n != n)=false:=fun n=>bnei_no rfl
  simp(disch:=first|assumption|omega)only[W_block,P3,seval,initFr,clsA,la,lb,ra,rb,na,nb,a_load1v,a_loadnvf,e2,q_ib,hw]
  exact hn _ _ _ ⟨i+1,_,_,_,rfl,rfl,by omega,rfl⟩ (by omega)
 ·have h3:¬(i:Int)<((l.length:Nat):Int):=by omega
  simp(disch:=first|assumption|omega)only[W_block,P3,seval,initFr,clsA,la,lb]
  refine hx 0 _ _ ?_
  simp(disch:=first|assumption|omega)only[W_block,P3,seval,initFr,clsA]
  exact hq2 _ _ ⟨_,rfl,rfl,rfl⟩
theorem t57{H:AHeap}{v u:Value}{l:List (Int×Bool)}(ha:NL H v l)(hb:NL H u l)(hl:l.length≤9223372036854775807):∃w H',ARun Tryz.prog 4 57 [v,u] H w H'∧w=.bool true∧H'=H:=by
 refine walk2 f57_ok f57_n ?_
 intro Q hq1 hq2
 have ia:=Sl.is ha
 have ib:=Sl.is hb
 have la:=ha.len
 have lb:=hb.len
 have e1:(((l.length:Nat):Int) != ((l.length:Nat):Int))=false:=bnei_no rfl
 simp(disch:=first|assumption|omega)only[f57,P3,seval,initFr,clsA,la,lb,e1]
 rw[W_block]
 refine W_loop2 (fun k fr K=>∃i x2 x5 x6,fr=[v,u,x2,.int .i64 ((i:Nat):Int),.bool false,x5,x6]∧K=H∧i≤l.length∧k=l.length-i) l.length
  ⟨0,_,_,_,rfl,rfl,by omega,rfl⟩ ?_
 rintro Q' k fr K ⟨i,x2,x5,x6,rfl,rfl,hi,rfl⟩ hn hx hret
 by_cases hlt:i<l.length
 ·obtain⟨na,ra⟩:=ha.at_ hlt
  obtain⟨nb,rb⟩:=hb.at_ hlt
  have h0:(0:Int)≤(i:Int):=by omega
  have h1:(i:Int)<((lenS v:Nat):Int):=by omega
  have h2:(i:Int)<((lenS u:Nat):Int):=by omega
  have h3:(i:Int)<((l.length:Nat):Int):=by omega
  have hw:IntKind.i64.wrap ((i:Int)+1)=((i+1:Nat):Int):=by rw[wrap_i64 (by omega) (by omega)];simp
  generalize l.getD i (0,false)=n at*
  have e2:∀n:Int,(n != n)=false:=fun n=>bnei_no rfl
  simp(disch:=first|assumption|omega)only[W_block,P3,seval,initFr,clsA,la,lb,ra,rb,na,nb,a_load1v,a_loadnvf,e2,q_ib,hw]
  exact hn _ _ _ ⟨i+1,_,_,_,rfl,rfl,by omega,rfl⟩ (by omega)
 ·have h3:¬(i:Int)<((l.length:Nat):Int):=by omega
  simp(disch:=first|assumption|omega)only[W_block,P3,seval,initFr,clsA,la,lb]
  refine hx 0 _ _ ?_
  simp(disch:=first|assumption|omega)only[W_block,P3,seval,initFr,clsA]
  exact hq2 _ _ ⟨_,rfl,rfl,rfl⟩
set_option maxHeartbeats 1000000 in
theorem t30{H:AHeap}{x y:RV}(hx:x.ok H)(hy:y.ok H)(e:x.r=y.r)(h1:x.r.path.length≤9223372036854775807)(h2:x.r.pts.length≤9223372036854775807)(h3:x.r.ov.length≤9223372036854775807)(h4:x.r.fl.length≤9223372036854775807):
 ∃w H',ARun Tryz.prog 4 30 [.agg x.row.toArray,.agg y.row.toArray] H w H'∧w=.bool true∧Keeps H H':=by
 refine walk2 f30_ok f30_n ?_
 intro Q hq1 hq2
 obtain⟨r,xp,xq,xo,xf⟩:=x
 obtain⟨r',yp,yq,yo,yf⟩:=y
 simp only at e
 subst e
 have k:∀o o',Keeps H ((H.alloc o).alloc o'):=fun o o'=>((Keeps.refl H).alloc o).alloc o'
 have hx2:=hx.keeps (k (.cells true false 6 [.string ⟨r.n.toArray⟩,.int .i64 r.g,xp,xq,xo,xf] 44) (.cells true false 6 [.string ⟨r.n.toArray⟩,.int .i64 r.g,yp,yq,yo,yf] 44))
 have hy2:=hy.keeps (k (.cells true false 6 [.string ⟨r.n.toArray⟩,.int .i64 r.g,xp,xq,xo,xf] 44) (.cells true false 6 [.string ⟨r.n.toArray⟩,.int .i64 r.g,yp,yq,yo,yf] 44))
 have a1:[.string ⟨r.n.toArray⟩,.int .i64 r.g,xp,xq,xo,xf].all Value.oneCell'=true:=by
  simp only[List.all_cons,List.all_nil,Sl.one hx.p,Sl.one hx.q,Sl.one hx.o,Sl.one hx.f];rfl
 have a2:[.string ⟨r.n.toArray⟩,.int .i64 r.g,yp,yq,yo,yf].all Value.oneCell'=true:=by
  simp only[List.all_cons,List.all_nil,Sl.one hy.p,Sl.one hy.q,Sl.one hy.o,Sl.one hy.f];rfl
 have g1:=k (.cells true false 6 [.string ⟨r.n.toArray⟩,.int .i64 r.g,xp,xq,xo,xf] 44) (.cells true false 6 [.string ⟨r.n.toArray⟩,.int .i64 r.g,yp,yq,yo,yf] 44)
 have eq1:∀n:Int,(n==n)=true:=fun n=>beqi_yes rfl
 simp only[RV.row]at*
 simp(disch:=first|assumption|omega|(simp only[LN]<;>omega)|(simp(disch:=first|assumption|omega|(simp only[LN]<;>omega))only[row_alloc,row_set];assumption))only[f30,W_block,P3,seval,initFr,clsA,a1,a2,q_str,eq1]
 refine callQ (t56 hx2.p hy2.p h1) ?_
 simp(disch:=first|assumption|omega|(simp only[LN]<;>omega)|(simp(disch:=first|assumption|omega|(simp only[LN]<;>omega))only[row_alloc,row_set];assumption))only[W_block,P3,seval,initFr,clsA]
 refine callQ (t57 hx2.q hy2.q h2) ?_
 simp(disch:=first|assumption|omega|(simp only[LN]<;>omega)|(simp(disch:=first|assumption|omega|(simp only[LN]<;>omega))only[row_alloc,row_set];assumption))only[W_block,P3,seval,initFr,clsA]
 refine callQ (t56 hx2.o hy2.o h3) ?_
 simp(disch:=first|assumption|omega|(simp only[LN]<;>omega)|(simp(disch:=first|assumption|omega|(simp only[LN]<;>omega))only[row_alloc,row_set];assumption))only[W_block,P3,seval,initFr,clsA]
 refine callQ (t57 hx2.f hy2.f h4) ?_
 simp(disch:=first|assumption|omega)only[W_block,P3,seval,initFr,clsA]
 exact hq2 _ _ ⟨_,rfl,rfl,g1⟩
end Go.AM.Fd

namespace Go.AM.Fd
open Nat (reduceAdd reduceEqDiff reduceLT reduceLeDiff reduceMul reduceSub)
open Go.Proofs Go.AM.F
set_option maxHeartbeats 4000000 in
theorem t15{H:AHeap}{u u':V4}{xs xs':List RV}{L:Ly}(ha:LyR H u xs L)(hb:LyR H u' xs' L)(hf:LyIn 9223372036854775807 L):
 ∃w H',ARun Tryz.prog 4 15 [.agg u.l.toArray,.agg u'.l.toArray] H w H'∧w=.bool true∧Keeps H H':=by
 refine walk2 f15_ok f15_n ?_
 intro Q hq1 hq2
 have o1:=ly_ones ha
 have o2:=ly_ones hb
 have k0:Keeps H ((H.alloc (lO u.l)).alloc (lO u'.l)):=((Keeps.refl H).alloc _).alloc _
 have g1:((H.alloc (lO u.l)).alloc (lO u'.l)).get H.n=some (.cells true false 4 u.l 30):=(AHeap.get_alloc_old _ _ (by simp[AHeap.alloc])).trans (AHeap.get_alloc_new _ _)
 have g2:((H.alloc (lO u.l)).alloc (lO u'.l)).get (H.n+1)=some (.cells true false 4 u'.l 30):=AHeap.get_alloc_new _ _
 have a1:=ha.keeps k0
 have b1:=hb.keeps k0
 simp only[lO]at k0 g1 g2 a1 b1
 have ll:∀u:V4,u.l.length=4:=fun _=>rfl
 have s1:=Sl.is ha.p
 have s2:=Sl.is hb.p
 have s3:=Sl.is ha.g
 have s4:=Sl.is hb.g
 have s5:=Sl.is ha.r
 have s6:=Sl.is hb.r
 have l1:=ha.p.len
 have l2:=hb.p.len
 have l3:=ha.g.len
 have l4:=hb.g.len
 have l5:lenS u.r=L.r.length:=by rw[ha.r.len,ha.rlen]
 have l6:lenS u'.r=L.r.length:=by rw[hb.r.len,hb.rlen]
 have ne1:∀n:Int,(n != n)=false:=fun n=>bnei_no rfl
 obtain⟨us,up,ug,ur⟩:=u
 obtain⟨vs,vp,vg,vr⟩:=u'
 simp only[V4.l]at*
 simp(disch:=first|assumption|omega|(simp only[LN]<;>omega)|(simp(disch:=first|assumption|omega|(simp only[LN]<;>omega))only[row_alloc,row_set];assumption))only[f15,W_block,P3,seval,initFr,clsA,o1,o2]
 generalize(H.alloc (.cells true false 4 [us,up,ug,ur] 30)).alloc (.cells true false 4 [vs,vp,vg,vr] 30)=K0 at*
 have n1:=AHeap.get_lt g1
 have n2:=AHeap.get_lt g2
 refine callK (t29 a1.s b1.s hf.s.1) ?_
 rintro _ X ⟨rfl,hX⟩
 rw[hX,decide_eq_true rfl]
 simp(disch:=first|assumption|omega)only[P3,seval,initFr,clsA,g1,g2,l1,l2,l3,l4,l5,l6,ne1]
 rw[W_block]
 refine W_loop2 (fun k fr K=>∃i x6 x7 x9 x10 x11 x12 x13 x14,fr=[.agg #[us,up,ug,ur],.agg #[vs,vp,vg,vr],ptr H.n 0,ptr (H.n+1) 0,.bool false,.int .i64 ((i:Nat):Int),x6,x7,.bool false,x9,x10,x11,x12,x13,x14]∧K0=K∧i≤L.p.length∧k=L.p.length-i) L.p.length
  ⟨0,_,_,_,_,_,_,_,_,rfl,rfl,by omega,rfl⟩ ?_
 rintro Q5 k fr K ⟨i,x6,x7,x9,x10,x11,x12,x13,x14,rfl,rfl,hi,rfl⟩ hn hx hret
 by_cases hlt:i<L.p.length
 ·obtain⟨na,ra⟩:=a1.p.at_ hlt
  obtain⟨nb,rb⟩:=b1.p.at_ hlt
  have h0:(0:Int)≤(i:Int):=by omega
  have h1:(i:Int)<((lenS up:Nat):Int):=by omega
  have h2:(i:Int)<((lenS vp:Nat):Int):=by omega
  have h3:(i:Int)<((L.p.length:Nat):Int):=by omega
  have hfl:=hf.p.1
  have hw:IntKind.i64.wrap ((i:Int)+1)=((i+1:Nat):Int):=by rw[wrap_i64 (by omega) (by omega)];simp
  simp(disch:=first|assumption|omega)only[W_block,P3,seval,initFr,clsA,g1,g2,l1,l2,ra,rb,na,nb,a_loadnvf,q_si,hw]
  exact hn _ _ _ ⟨i+1,_,_,_,_,_,_,_,_,rfl,rfl,by omega,rfl⟩ (by omega)
 have h3:¬(i:Int)<((L.p.length:Nat):Int):=by omega
 simp(disch:=first|assumption|omega)only[W_block,P3,seval,initFr,clsA,g1,g2,l1]
 refine hx 0 _ _ ?_
 clear hn hx hret
 simp(disch:=first|assumption|omega)only[P3,seval,initFr,clsA]
 rw[W_block]
 refine W_loop2 (fun k fr K=>∃i x5 x7 x9 x10 x11 x12 x13 x14,fr=[.agg #[us,up,ug,ur],.agg #[vs,vp,vg,vr],ptr H.n 0,ptr (H.n+1) 0,.bool false,x5,.int .i64 ((i:Nat):Int),x7,.bool false,x9,x10,x11,x12,x13,x14]∧K0=K∧i≤L.g.length∧k=L.g.length-i) L.g.length
  ⟨0,_,_,_,_,_,_,_,_,rfl,rfl,by omega,rfl⟩ ?_
 rintro Q6 k fr K ⟨i,x5,x7,x9,x10,x11,x12,x13,x14,rfl,rfl,hi,rfl⟩ hn hx hret
 by_cases hlt:i<L.g.length
 ·obtain⟨na,ra⟩:=a1.g.at_ hlt
  obtain⟨nb,rb⟩:=b1.g.at_ hlt
  have h0:(0:Int)≤(i:Int):=by omega
  have h1:(i:Int)<((lenS ug:Nat):Int):=by omega
  have h2:(i:Int)<((lenS vg:Nat):Int):=by omega
  have h3:(i:Int)<((L.g.length:Nat):Int):=by omega
  have hfl:=hf.g.1
  have hw:IntKind.i64.wrap ((i:Int)+1)=((i+1:Nat):Int):=by rw[wrap_i64 (by omega) (by omega)];simp
  simp(disch:=first|assumption|omega)only[W_block,P3,seval,initFr,clsA,g1,g2,l3,l4,ra,rb,na,nb,a_loadnvf,q_si,hw]
  exact hn _ _ _ ⟨i+1,_,_,_,_,_,_,_,_,rfl,rfl,by omega,rfl⟩ (by omega)
 have h3:¬(i:Int)<((L.g.length:Nat):Int):=by omega
 simp(disch:=first|assumption|omega)only[W_block,P3,seval,initFr,clsA,g1,g2,l3]
 refine hx 2 _ _ ?_
 clear hn hx hret
 simp(disch:=first|assumption|omega)only[P3,seval,initFr,clsA]
 rw[W_block]
 refine W_loop2 (fun k fr K=>∃i x5 x6 x9 x10 x11 x12 x13 x14,fr=[.agg #[us,up,ug,ur],.agg #[vs,vp,vg,vr],ptr H.n 0,ptr (H.n+1) 0,.bool false,x5,x6,.int .i64 ((i:Nat):Int),.bool false,x9,x10,x11,x12,x13,x14]∧Keeps K0 K∧i≤L.r.length∧k=L.r.length-i) L.r.length
  ⟨0,_,_,_,_,_,_,_,_,rfl,Keeps.refl _,by omega,rfl⟩ ?_
 rintro Q7 k fr K ⟨i,x5,x6,x9,x10,x11,x12,x13,x14,rfl,kk,hi,rfl⟩ hn hx hret
 have g1k:=kk.at_ g1
 have g2k:=kk.at_ g2
 by_cases hlt:i<L.r.length
 ·have hlt1:i<xs.length:=by rw[ha.rlen];exact hlt
  have hlt2:i<xs'.length:=by rw[hb.rlen];exact hlt
  obtain⟨na,ra⟩:=RL.at_ (a1.keeps kk).r hlt1
  obtain⟨nb,rb⟩:=RL.at_ (b1.keeps kk).r hlt2
  obtain⟨xok,xr⟩:=(a1.keeps kk).rat hlt
  obtain⟨yok,yr⟩:=(b1.keeps kk).rat hlt
  have h0:(0:Int)≤(i:Int):=by omega
  have h1:(i:Int)<((lenS ur:Nat):Int):=by omega
  have h2:(i:Int)<((lenS vr:Nat):Int):=by omega
  have h3:(i:Int)<((L.r.length:Nat):Int):=by omega
  have hfl:=hf.r.1
  obtain⟨f1,f2,f3,f4,f5⟩:=hf.r.2 _ (getD_mem (d:=rv0.r) hlt)
  rw[←xr]at f1 f2 f3 f4 f5
  have hw:IntKind.i64.wrap ((i:Int)+1)=((i+1:Nat):Int):=by rw[wrap_i64 (by omega) (by omega)];simp
  have exy:=xr.trans yr.symm
  generalize xs.getD i rv0=x at*
  generalize xs'.getD i rv0=y at*
  simp(disch:=first|assumption|omega)only[W_block,P3,seval,initFr,clsA,g1k,g2k,l5,l6,ra,rb,na,nb,a_loadnvf]
  refine callK (t30 xok yok exy f2 f3 f4 f5) ?_
  rintro _ X ⟨rfl,kx⟩
  simp(disch:=first|assumption|omega)only[W_block,P3,seval,initFr,clsA,hw]
  exact hn _ _ _ ⟨i+1,_,_,_,_,_,_,_,_,rfl,kk.trans kx,by omega,rfl⟩ (by omega)
 have h3:¬(i:Int)<((L.r.length:Nat):Int):=by omega
 simp(disch:=first|assumption|omega)only[W_block,P3,seval,initFr,clsA,g1k,g2k,l5]
 refine hx 4 _ _ ?_
 simp(disch:=first|assumption|omega)only[W_block,P3,seval,initFr,clsA]
 exact hq2 _ _ ⟨_,rfl,rfl,k0.trans kk⟩
end Go.AM.Fd

namespace Go.AM.Fd
open Nat (reduceAdd reduceEqDiff reduceLT reduceLeDiff reduceMul reduceSub)
open Go.Proofs Go.AM.F Go.AM.Ky
theorem prV_two(L:Ly):∃(s:List UInt8) (e:Int),prV L=.tuple #[.string ⟨s.toArray⟩,.int .i64 e]:=by
 unfold prV
 split
 ·split<;>exact⟨_,_,rfl⟩
 ·exact⟨_,_,rfl⟩
set_option maxHeartbeats 4000000 in
theorem tPrintsL{H:AHeap}{u:V4}{xs:List RV}{L:Ly}(hl:LyR H u xs L)(hi:LyIn 9223372036854775807 L)(hB:LyB xs L):∃w H',ARun Tryz.prog 4 20 [.agg u.l.toArray] H w H'∧w=.bool true:=by
 refine walk2 f20_ok f20_n ?_
 intro Q hq1 hq2
 have hk:=hl.keeps ((Keeps.refl H).alloc (.cells true false 4 u.l 30))
 have ho:=ly_ones hl
 have gl:(H.alloc (.cells true false 4 u.l 30)).get H.n=some (.cells true false 4 u.l 30):=AHeap.get_alloc_new _ _
 have ll:u.l.length=4:=rfl
 simp(disch:=first|assumption|omega)only[f20,W_block,P3,seval,initFr,clsA,ho,gl,ll]
 generalize H.alloc (.cells true false 4 u.l 30)=K0 at*
 refine callK (t16 (top:=1500) (by omega) hk hi) ?_
 rintro _ X ⟨⟨n,rfl⟩,hX⟩
 rw[hX]
 by_cases hn:(1500:Int)<n
 ·simp(disch:=first|assumption|omega)only[W_block,P3,seval,initFr,clsA]
  refine callK (t10 _) ?_
  rintro _ K ⟨rfl,k⟩
  simp(disch:=first|assumption|omega)only[W_block,P3,seval,initFr,clsA]
  exact hq2 _ _ ⟨_,rfl,rfl⟩
 simp(disch:=first|assumption|omega)only[W_block,P3,seval,initFr,clsA,gl,ll]
 refine callK (t41 hk hB) ?_
 rintro _ K1 ⟨k1,u',ys,rfl,cp,hys⟩
 have gl1:=k1.at_ gl
 have hk1:=hk.keeps k1
 have hy1:=cp.ly hys
 have ho':=ly_ones hy1
 have ll':u'.l.length=4:=rfl
 have k2:Keeps K1 (K1.alloc (.cells true false 4 u'.l 30)):=(Keeps.refl K1).alloc _
 have gl2:=k2.at_ gl1
 have gw2:(K1.alloc (.cells true false 4 u'.l 30)).get K1.n=some (.cells true false 4 u'.l 30):=AHeap.get_alloc_new K1 _
 have hk2:=hk1.keeps k2
 have hy2:=hy1.keeps k2
 obtain⟨s,e,hpv⟩:=prV_two L
 simp(disch:=first|assumption|omega|(simp only[LN]<;>omega)|(simp(disch:=first|assumption|omega|(simp only[LN]<;>omega))only[row_alloc,row_set];assumption))only[W_block,P3,seval,initFr,clsA,ho',ll']
 generalize hK2:K1.alloc (.cells true false 4 u'.l 30)=K2 at*
 refine callK (lPrintA hy2 hi) ?_
 rintro _ X ⟨rfl,hX⟩
 rw[hX,hpv]
 simp(disch:=first|assumption|omega)only[W_block,P3,seval,initFr,clsA,gl2,ll]
 refine callK (t11 hk2 hi) ?_
 rintro _ X ⟨rfl,hX⟩
 rw[hX,hpv]
 have es:=b_eqS s s
 rw[decide_eq_true rfl]at es
 simp(disch:=first|assumption|omega)only[W_block,P3,seval,initFr,clsA,es,gl2,gw2,ll,ll']
 refine callK (t15 hy2 hk2 hi) ?_
 rintro _ X ⟨rfl,k3⟩
 simp(disch:=first|assumption|omega)only[W_block,P3,seval,initFr,clsA]
 refine callK (t10 _) ?_
 rintro _ X2 ⟨rfl,k4⟩
 simp(disch:=first|assumption|omega)only[W_block,P3,seval,initFr,clsA]
 exact hq2 _ _ ⟨_,rfl,rfl⟩
end Go.AM.Fd

namespace Go.AM.Fd
open Go.Proofs Go.AM.F
theorem ixT_cat(n:List UInt8):∀(a b:List (List UInt8)),(ixT n (a++b)).isSome=((ixT n a).isSome||(ixT n b).isSome)
 |[],b=>by simp[ixT]
 |x::a,b=>by
  simp only[List.cons_append,ixT]
  split
  ·simp
  ·have:=ixT_cat n a b
   cases h1:ixT n (a++b)<;>cases h2:ixT n a<;>cases h3:ixT n b<;>simp_all
theorem nameOf_ix(L:Ly)(n:List UInt8):(nameOf L n).isSome=(ixT n (namesL L)).isSome:=by
 unfold namesL nameOf
 rw[ixT_cat,ixT_cat,ixT_cat]
 cases ixT n L.s with
 |some i=>simp
 |none=>
  cases ixT n (L.p.map (·.1))with
  |some i=>simp
  |none=>
   cases ixT n (L.g.map (·.1))with
   |some i=>simp
   |none=>cases ixT n (L.r.map (·.n))<;>simp
structure Dj (L:Ly):Prop where
 p:∀n,(ixT n (L.p.map (·.1))).isSome=true→ixT n L.s=none
 g:∀n,(ixT n (L.g.map (·.1))).isSome=true→ixT n L.s=none∧ixT n (L.p.map (·.1))=none
theorem Dj.kp{L:Ly}(h:Dj L)(n:List UInt8):kN 81 L n=pIx L n:=by
 have h1:=h.p n
 unfold kN nameOf pIx
 cases hp:ixT n (L.p.map (·.1))with
 |some i=>
  rw[hp]at h1
  rw[h1 rfl];rfl
 |none=>
  cases hs:ixT n L.s with
  |some i=>rfl
  |none=>
   cases hg:ixT n (L.g.map (·.1))with
   |some i=>rfl
   |none=>cases hr:ixT n (L.r.map (·.n))<;>rfl
theorem Dj.kg{L:Ly}(h:Dj L)(n:List UInt8):kN 83 L n=gIx L n:=by
 have h1:=h.g n
 unfold kN nameOf gIx
 cases hg:ixT n (L.g.map (·.1))with
 |some i=>
  rw[hg]at h1
  rw[(h1 rfl).1,(h1 rfl).2];rfl
 |none=>
  cases hs:ixT n L.s with
  |some i=>rfl
  |none=>
   cases hp:ixT n (L.p.map (·.1))with
   |some i=>rfl
   |none=>cases hr:ixT n (L.r.map (·.n))<;>rfl
theorem nameOf_no{L:Ly}{n:List UInt8}(h:nameOf L n=none):ixT n L.s=none∧ixT n (L.p.map (·.1))=none∧ixT n (L.g.map (·.1))=none:=by
 unfold nameOf at h
 cases hs:ixT n L.s with
 |some i=>rw[hs]at h;cases h
 |none=>
  cases hp:ixT n (L.p.map (·.1))with
  |some i=>rw[hs,hp]at h;cases h
  |none=>
   cases hg:ixT n (L.g.map (·.1))with
   |some i=>rw[hs,hp,hg]at h;cases h
   |none=>exact⟨rfl,rfl,rfl⟩
theorem ix_ne{n m:List UInt8}{l:List (List UInt8)}(h:ixT n l=none)(k:(ixT m l).isSome=true):n≠m:=fun e=>by subst e;rw[h]at k;cases k
theorem Dj.addS{L:Ly}(h:Dj L){n:List UInt8}(hn:nameOf L n=none):Dj {L with s:=L.s++[n]}:=by
 obtain⟨h1,h2,h3⟩:=nameOf_no hn
 refine⟨fun m hm=>?_,fun m hm=>⟨?_,(h.g m hm).2⟩⟩
 ·show ixT m (L.s++[n])=none
  rw[ixT_app,h.p m hm,if_neg (ix_ne h2 hm)]
 ·show ixT m (L.s++[n])=none
  rw[ixT_app,(h.g m hm).1,if_neg (ix_ne h3 hm)]
theorem Dj.addP{L:Ly}(h:Dj L){n:List UInt8}(i:Int)(hn:nameOf L n=none):Dj {L with p:=L.p++[(n,i)]}:=by
 obtain⟨h1,h2,h3⟩:=nameOf_no hn
 have e:(L.p++[(n,i)]).map (·.1)=L.p.map (·.1)++[n]:=by simp
 refine⟨fun m hm=>?_,fun m hm=>⟨(h.g m hm).1,?_⟩⟩
 ·have hm':(ixT m ((L.p++[(n,i)]).map (·.1))).isSome=true:=hm
  rw[e,ixT_app]at hm'
  cases hp:ixT m (L.p.map (·.1))with
  |some j=>exact h.p m (by rw[hp];rfl)
  |none=>
   rw[hp]at hm'
   by_cases enm:n=m
   ·subst enm;exact h1
   ·simp[enm]at hm'
 ·show ixT m ((L.p++[(n,i)]).map (·.1))=none
  rw[e,ixT_app,(h.g m hm).2,if_neg (ix_ne h3 hm)]
theorem Dj.addG{L:Ly}(h:Dj L){n:List UInt8}(i:Int)(hn:nameOf L n=none):Dj {L with g:=L.g++[(n,i)]}:=by
 obtain⟨h1,h2,h3⟩:=nameOf_no hn
 have e:(L.g++[(n,i)]).map (·.1)=L.g.map (·.1)++[n]:=by simp
 refine⟨h.p,fun m hm=>?_⟩
 have hm':(ixT m ((L.g++[(n,i)]).map (·.1))).isSome=true:=hm
 rw[e,ixT_app]at hm'
 cases hp:ixT m (L.g.map (·.1))with
 |some j=>exact h.g m (by rw[hp];rfl)
 |none=>
  rw[hp]at hm'
  by_cases enm:n=m
  ·subst enm;exact⟨h1,h2⟩
  ·simp[enm]at hm'
def EqL(a b:Int×Ly):Prop:=a.1=b.1∧(a.1=0→a.2=b.2∧Dj a.2)
theorem EqL.err{L M:Ly}{e:Int}(h:e≠0):EqL (e,L) (e,M):=⟨rfl,fun x=>absurd x h⟩
def fulD(L:Ly)(a:Int×Ly):Int×Ly:=if a.1=0 then(if fullB a.2 then(3,L)else a)else(a.1,L)
theorem full_s{L:Ly}(h:LyLim L)(n:List UInt8):fullB {L with s:=L.s++[n]}=decide (L.s.length=64):=by
 have h1:=h.s;have h2:=h.p;have h3:=h.g;have h4:=h.r
 simp only[fullB,List.length_append,List.length_singleton]
 by_cases e:L.s.length=64
 ·simp[e]
 ·simp[e];omega
theorem full_p{L:Ly}(h:LyLim L)(n:List UInt8×Int):fullB {L with p:=L.p++[n]}=decide (L.p.length=32):=by
 have h1:=h.s;have h2:=h.p;have h3:=h.g;have h4:=h.r
 simp only[fullB,List.length_append,List.length_singleton]
 by_cases e:L.p.length=32
 ·simp[e]
 ·simp[e];omega
theorem full_g{L:Ly}(h:LyLim L)(n:List UInt8×Int):fullB {L with g:=L.g++[n]}=decide (L.g.length=32):=by
 have h1:=h.s;have h2:=h.p;have h3:=h.g;have h4:=h.r
 simp only[fullB,List.length_append,List.length_singleton]
 by_cases e:L.g.length=32
 ·simp[e]
 ·simp[e];omega
theorem full_r{L:Ly}(h:LyLim L)(n:Ro):fullB {L with r:=L.r++[n]}=decide (L.r.length=64):=by
 have h1:=h.s;have h2:=h.p;have h3:=h.g;have h4:=h.r
 simp only[fullB,List.length_append,List.length_singleton]
 by_cases e:L.r.length=64
 ·simp[e]
 ·simp[e];omega
theorem fulD_err{L M:Ly}{e:Int}(h:e≠0):fulD L (e,M)=(e,L):=by simp[fulD,h]
theorem fulD_ok{L M:Ly}:fulD L (0,M)=if fullB M then(3,L)else(0,M):=by simp[fulD]
theorem EqL.fe{L:Ly}(e:Int)(h:e≠0):EqL (e,L) (fulD L (e,L)):=by rw[fulD_err h];exact .err h
theorem eq_routeQ{L:Ly}(hL:LyLim L)(hd:Dj L)(ws g0 g1 g2 g3 g4:List (List UInt8)):EqL (routeQ L ws g0 g1 g2 g3 g4) (fulD L (routeQD L ws g0 g1 g2 g3 g4)):=by
 unfold routeQ routeQD
 split
 ·exact .fe 40 (by decide)
 ·rw[nameOf_ix]
  split
  ·exact .fe 41 (by decide)
  ·rename_i hnm
   have e1:∀l,oAll (kN 80 L) l=oAll (sIx L) l:=fun l=>oAll_congr fun x _=>kN_s L x
   have e2:∀l,oAll (ne2 L) l=oAll (nIx L) l:=fun l=>oAll_congr fun x _=>by unfold ne2 nIx;rw[hd.kp]
   rw[e1,e1,e2,e2,hd.kg]
   cases gIx L (ws.getD 2 [])with
   |none=>exact .fe 42 (by decide)
   |some s=>
   cases oAll (sIx L) g1 with
   |none=>exact .fe 42 (by decide)
   |some p=>
   cases oAll (nIx L) g2 with
   |none=>exact .fe 42 (by decide)
   |some q=>
   cases oAll (sIx L) g3 with
   |none=>exact .fe 42 (by decide)
   |some o=>
   cases oAll (nIx L) g4 with
   |none=>exact .fe 42 (by decide)
   |some f=>
   simp only
   by_cases h16:16<p.length∨16<q.length∨16<o.length∨16<f.length
   ·rw[if_pos (by omega),if_pos h16];exact .fe 3 (by decide)
   ·rw[if_neg h16,fulD_ok,full_r hL]
    by_cases h64:L.r.length=64
    ·rw[if_pos (by omega),decide_eq_true h64];exact .err (by decide)
    ·rw[if_neg (by omega),decide_eq_false h64]
     exact⟨rfl,fun _=>⟨rfl,⟨hd.p,hd.g⟩⟩⟩
theorem eq_route{L:Ly}(hL:LyLim L)(hd:Dj L)(ws:List (List UInt8)):EqL (routeP L ws) (fulD L (routeD L ws)):=by
 unfold routeP routeD
 generalize groupsB ws=gs
 rcases gs with _|⟨g0,_|⟨g1,_|⟨g2,_|⟨g3,_|⟨g4,_|⟨g5,gs⟩⟩⟩⟩⟩⟩
 case cons.cons.cons.cons.cons.nil=>exact eq_routeQ hL hd ws g0 g1 g2 g3 g4
 all_goals exact .fe 40 (by decide)
theorem bnone{α:Type}{o:Option α}(h:¬o.isSome=true):o=none:=by cases o<;>simp_all
theorem eq_sec{L:Ly}(hL:LyLim L)(hd:Dj L)(ws:List (List UInt8)):EqL (secP L ws) (fulD L (if ws.length≠2∨rightB (ws.getD 1 [])=false then(40,L)else if(ixT (ws.getD 1 []) (namesL L)).isSome then(41,L)else(0,{L with s:=L.s++[ws.getD 1 []]}))):=by
 unfold secP
 split
 ·rw[fulD_err (by decide)];exact .err (by decide)
 ·rw[nameOf_ix]
  split
  ·rw[fulD_err (by decide)];exact .err (by decide)
  ·rename_i hnm
   rw[←nameOf_ix]at hnm
   rw[fulD_ok,full_s hL]
   by_cases h64:L.s.length=64
   ·rw[if_pos h64,decide_eq_true h64];exact .err (by decide)
   ·rw[if_neg h64,decide_eq_false h64]
    exact⟨rfl,fun _=>⟨rfl,hd.addS (bnone hnm)⟩⟩
theorem eq_point{L:Ly}(hL:LyLim L)(hd:Dj L)(ws:List (List UInt8))(hw:ws.getD 0 []=wPoint):EqL (partP L ws) (fulD L (if ws.length≠3∨rightB (ws.getD 1 [])=false then(40,L)else if(ixT (ws.getD 1 []) (namesL L)).isSome then(41,L)else match sIx L (ws.getD 2 [])with
 |none=>(42,L)
 |some i=>(0,{L with p:=L.p++[(ws.getD 1 [],i)]}))):=by
 unfold partP
 split
 ·rw[fulD_err (by decide)];exact .err (by decide)
 ·rw[nameOf_ix]
  split
  ·rw[fulD_err (by decide)];exact .err (by decide)
  ·rename_i hnm
   rw[←nameOf_ix]at hnm
   rw[kN_s]
   cases sIx L (ws.getD 2 [])with
   |none=>simp only;rw[fulD_err (by decide)];exact .err (by decide)
   |some i=>
    simp only[hw,if_true]
    rw[fulD_ok,full_p hL]
    by_cases h64:L.p.length=32
    ·rw[if_pos h64,decide_eq_true h64];exact .err (by decide)
    ·rw[if_neg h64,decide_eq_false h64]
     exact⟨rfl,fun _=>⟨rfl,hd.addP i (bnone hnm)⟩⟩
theorem eq_signal{L:Ly}(hL:LyLim L)(hd:Dj L)(ws:List (List UInt8))(hw:ws.getD 0 []≠wPoint):EqL (partP L ws) (fulD L (if ws.length≠3∨rightB (ws.getD 1 [])=false then(40,L)else if(ixT (ws.getD 1 []) (namesL L)).isSome then(41,L)else match sIx L (ws.getD 2 [])with
 |none=>(42,L)
 |some i=>(0,{L with g:=L.g++[(ws.getD 1 [],i)]}))):=by
 unfold partP
 split
 ·rw[fulD_err (by decide)];exact .err (by decide)
 ·rw[nameOf_ix]
  split
  ·rw[fulD_err (by decide)];exact .err (by decide)
  ·rename_i hnm
   rw[←nameOf_ix]at hnm
   rw[kN_s]
   cases sIx L (ws.getD 2 [])with
   |none=>simp only;rw[fulD_err (by decide)];exact .err (by decide)
   |some i=>
    simp only[hw,if_false]
    rw[fulD_ok,full_g hL]
    by_cases h64:L.g.length=32
    ·rw[if_pos h64,decide_eq_true h64];exact .err (by decide)
    ·rw[if_neg h64,decide_eq_false h64]
     exact⟨rfl,fun _=>⟨rfl,hd.addG i (bnone hnm)⟩⟩
theorem route_short{L:Ly}{ws:List (List UInt8)}(h:ws.length<2):routeP L ws=(40,L):=by
 unfold routeP
 split
 ·rename_i g0 g1 g2 g3 g4 e
  have:=(groups_mem (g:=g0) (ts:=ws) (by rw[e];simp)).1
  unfold routeQ
  rw[if_pos (.inl (by omega))]
 ·rfl
theorem eq_line{L:Ly}(hL:LyLim L)(hd:Dj L)(l:List UInt8):EqL (lineP L l) (lineD L l):=by
 unfold lineP lineD
 cases hok:okW (aheadB l)with
 |false=>exact .err (by decide)
 |true=>
 simp only[if_true]
 generalize wordsB (aheadB l)=ws
 unfold lineW lineDW
 by_cases h0:ws.length=0
 ·rw[if_pos h0,if_pos h0];exact⟨rfl,fun _=>⟨rfl,hd⟩⟩
 rw[if_neg h0,if_neg h0]
 have ef:(if(lineD0 L ws).1 =0 then(if fullB (lineD0 L ws).2 then(3,L)else lineD0 L ws)else((lineD0 L ws).1,L))=fulD L (lineD0 L ws):=by unfold fulD;rfl
 rw[ef]
 have nR:wRoute≠wSection∧wRoute≠wPoint∧wRoute≠wSignal∧wSignal≠wPoint:=by decide
 unfold lineD0
 by_cases hR:ws.getD 0 []=wRoute
 ·rw[if_neg (by rw[hR];exact nR.1),if_neg (by rw[hR];exact nR.2.1),if_neg (by rw[hR];exact nR.2.2.1),if_pos hR,if_pos hR]
  by_cases h2:ws.length<2
  ·rw[if_pos h2,fulD_err (by decide),route_short h2];exact .err (by decide)
  ·rw[if_neg h2];exact eq_route hL hd ws
 rw[if_neg hR,if_neg hR]
 by_cases hS:ws.getD 0 []=wSection
 ·rw[if_pos hS,if_pos hS];exact eq_sec hL hd ws
 rw[if_neg hS,if_neg hS]
 by_cases hP:ws.getD 0 []=wPoint
 ·rw[if_pos hP,if_pos hP];exact eq_point hL hd ws hP
 rw[if_neg hP,if_neg hP]
 by_cases hG:ws.getD 0 []=wSignal
 ·rw[if_pos hG,if_pos hG];exact eq_signal hL hd ws hP
 rw[if_neg hG,if_neg hG,fulD_err (by decide)]
 exact .err (by decide)
theorem eq_parseG:∀(ls:List (List UInt8)) (L:Ly) (i:Nat),LyLim L→Dj L→parseG lineP L ls i=parseG lineD L ls i
 |[],L,i,_,_=>rfl
 |l::ls,L,i,hL,hd=>by
  have h:=eq_line hL hd l
  simp only[parseG,h.1]
  by_cases e:(lineD L l).1 =0
  ·have e':=h.1.trans e
   rw[if_pos e,if_pos e,(h.2 e').1]
   refine eq_parseG ls _ (i+1) ?_ ?_
   ·rw[←(h.2 e').1];exact lineP_lim hL l e'
   ·rw[←(h.2 e').1];exact(h.2 e').2
  ·rw[if_neg e,if_neg e]
theorem eq_parse(s:List UInt8):parseP s=parseD s:=by
 unfold parseP parseD
 split
 ·rfl
 ·exact eq_parseG _ _ _ ly0_lim ⟨fun n h=>by simp[ly0,ixT]at h,fun n h=>by simp[ly0,ixT]at h⟩
end Go.AM.Fd

namespace Go.AM.Fd
open Nat (reduceAdd reduceEqDiff reduceLT reduceLeDiff reduceMul reduceSub)
open Go.Proofs Go.AM.F
theorem LyFit.in_{L:Ly}(h:LyFit L):LyIn 9223372036854775807 L:=
 ⟨⟨by have:=h.s.1;omega,h.s.2⟩,⟨by have:=h.p.1;omega,h.p.2⟩,⟨by have:=h.g.1;omega,h.g.2⟩,⟨by have:=h.r.1;omega,h.r.2⟩⟩
theorem lineD_fit{L:Ly}(h:LyFit L)(hL:LyLim L){l:List UInt8}(hl:l.length≤1000000000)(e:(lineD L l).1 =0):LyFit (lineD L l).2 ∧LyLim (lineD L l).2 :=by
 have hw:∀w∈wordsB (aheadB l),w.length≤1000000000:=fun w hm=>by have:=wordsB_mem hm;have:=ahead_len l;omega
 unfold lineD at e ⊢
 split
 ·rename_i hok
  rw[if_pos hok]at e
  unfold lineDW at e ⊢
  split
  ·exact⟨h,hL⟩
  ·rename_i h0
   rw[if_neg h0]at e
   split
   ·rename_i h1
    rw[if_pos h1]at e
    split
    ·exact⟨h,hL⟩
    ·rename_i h2;exact⟨lineD0_fit h hL hw h1,full_not (by simpa using h2)⟩
   ·exact⟨h,hL⟩
 ·exact⟨h,hL⟩
theorem parseG_fit:∀(ls:List (List UInt8)) (L:Ly) (i:Nat),(∀l∈ls,l.length≤1000000000)→LyFit L→LyLim L→LyFit (parseG lineD L ls i).1
 |[],L,i,_,h,_=>h
 |l::ls,L,i,hl,h,hL=>by
  simp only[parseG]
  split
  ·rename_i e
   have:=lineD_fit h hL (hl l (by simp)) e
   exact parseG_fit ls _ _ (fun x hx=>hl x (by simp[hx])) this.1 this.2
  ·exact ly0_fit
theorem parseD_fit(s:List UInt8):LyFit (parseD s).1 :=by
 unfold parseD
 split
 ·exact ly0_fit
 ·refine parseG_fit _ _ _ (fun l hl=>?_) ly0_fit ly0_lim
  have:=splitB_le 10 s l hl
  omega
set_option maxHeartbeats 1000000 in
theorem t5L(H:AHeap){s:List UInt8}(hs:s.length≤9223372036854775807):∃w H',ARun Tryz.prog 4 5 [.string ⟨s.toArray⟩] H w H'∧w=.bool true:=by
 refine walk2 f5_ok f5_n ?_
 intro Q hq1 hq2
 by_cases hm:1500<s.length∧s.length≤16384
 ·have e1:(1500:Int)<((s.length:Nat):Int):=by omega
  have e2:((s.length:Nat):Int)≤16384:=by omega
  simp(disch:=first|assumption|omega)only[f5,W_block,P3,seval,initFr,clsA,a_lens]
  refine callK (t10 _) ?_
  rintro _ K ⟨rfl,k⟩
  simp(disch:=first|assumption|omega)only[W_block,P3,seval,initFr,clsA]
  exact hq2 _ _ ⟨_,rfl,rfl⟩
 by_cases e1:(1500:Int)<((s.length:Nat):Int)
 ·have e2:¬((s.length:Nat):Int)≤16384:=by omega
  simp(disch:=first|assumption|omega)only[f5,W_block,P3,seval,initFr,clsA,a_lens]
  refine callK (t13 H s) ?_
  rintro _ K1 ⟨k1,u,xs,rfl,y1⟩
  have o1:=ly_ones y1
  have ll:u.l.length=4:=rfl
  simp(disch:=first|assumption|omega|(simp only[LN]<;>omega)|(simp(disch:=first|assumption|omega|(simp only[LN]<;>omega))only[row_alloc,row_set];assumption))only[W_block,P3,seval,initFr,clsA,o1,ll]
  refine callK (t14 _ s) ?_
  rintro _ K2 ⟨k2,u2,xs2,rfl,y2⟩
  have o2:=ly_ones y2
  have ll2:u2.l.length=4:=rfl
  rw[eq_parse]at y1 ⊢
  have hfit:=(parseD_fit s).in_
  have eq1:∀n:Int,(n==n)=true:=fun n=>beqi_yes rfl
  generalize parseD s=r at*
  have g1:K2.get K1.n=some (.cells true false 4 u.l 30):=k2.at_ (AHeap.get_alloc_new _ _)
  have kk:Keeps K1 K2:=((Keeps.refl K1).alloc _).trans k2
  have n1:=AHeap.get_lt g1
  have ka:Keeps K2 (K2.alloc (.cells true false 4 u2.l 30)):=(Keeps.refl K2).alloc _
  have g2:(K2.alloc (.cells true false 4 u2.l 30)).get K1.n=some (.cells true false 4 u.l 30):=ka.at_ g1
  have g3:(K2.alloc (.cells true false 4 u2.l 30)).get K2.n=some (.cells true false 4 u2.l 30):=AHeap.get_alloc_new _ _
  simp(disch:=first|assumption|omega|(simp only[LN]<;>omega)|(simp(disch:=first|assumption|omega|(simp only[LN]<;>omega))only[row_alloc,row_set];assumption))only[W_block,P3,seval,initFr,clsA,o2,ll,ll2,eq1,g2,g3]
  refine callK (t15 (y1.keeps (kk.trans ka)) (y2.keeps ka) hfit) ?_
  rintro _ K3 ⟨rfl,k3⟩
  simp(disch:=first|assumption|omega)only[W_block,P3,seval,initFr,clsA]
  refine callK (t10 _) ?_
  rintro _ K ⟨rfl,k⟩
  simp(disch:=first|assumption|omega)only[W_block,P3,seval,initFr,clsA]
  exact hq2 _ _ ⟨_,rfl,rfl⟩
 ·simp(disch:=first|assumption|omega)only[f5,W_block,P3,seval,initFr,clsA,a_lens]
  refine callK (t13 H s) ?_
  rintro _ K1 ⟨k1,u,xs,rfl,y1⟩
  have o1:=ly_ones y1
  have ll:u.l.length=4:=rfl
  simp(disch:=first|assumption|omega|(simp only[LN]<;>omega)|(simp(disch:=first|assumption|omega|(simp only[LN]<;>omega))only[row_alloc,row_set];assumption))only[W_block,P3,seval,initFr,clsA,o1,ll]
  refine callK (t14 _ s) ?_
  rintro _ K2 ⟨k2,u2,xs2,rfl,y2⟩
  have o2:=ly_ones y2
  have ll2:u2.l.length=4:=rfl
  rw[eq_parse]at y1 ⊢
  have hfit:=(parseD_fit s).in_
  have eq1:∀n:Int,(n==n)=true:=fun n=>beqi_yes rfl
  generalize parseD s=r at*
  have g1:K2.get K1.n=some (.cells true false 4 u.l 30):=k2.at_ (AHeap.get_alloc_new _ _)
  have kk:Keeps K1 K2:=((Keeps.refl K1).alloc _).trans k2
  have n1:=AHeap.get_lt g1
  have ka:Keeps K2 (K2.alloc (.cells true false 4 u2.l 30)):=(Keeps.refl K2).alloc _
  have g2:(K2.alloc (.cells true false 4 u2.l 30)).get K1.n=some (.cells true false 4 u.l 30):=ka.at_ g1
  have g3:(K2.alloc (.cells true false 4 u2.l 30)).get K2.n=some (.cells true false 4 u2.l 30):=AHeap.get_alloc_new _ _
  simp(disch:=first|assumption|omega|(simp only[LN]<;>omega)|(simp(disch:=first|assumption|omega|(simp only[LN]<;>omega))only[row_alloc,row_set];assumption))only[W_block,P3,seval,initFr,clsA,o2,ll,ll2,eq1,g2,g3]
  refine callK (t15 (y1.keeps (kk.trans ka)) (y2.keeps ka) hfit) ?_
  rintro _ K3 ⟨rfl,k3⟩
  simp(disch:=first|assumption|omega)only[W_block,P3,seval,initFr,clsA]
  refine callK (t10 _) ?_
  rintro _ K ⟨rfl,k⟩
  simp(disch:=first|assumption|omega)only[W_block,P3,seval,initFr,clsA]
  exact hq2 _ _ ⟨_,rfl,rfl⟩
end Go.AM.Fd

namespace Go.AM.Fd
open Go.Proofs Go.AM.F
theorem get_at(l:List UInt8)(i:Nat):((⟨l.toArray⟩:ByteArray).get! i)=l.getD i 0:=by
 show l.toArray[i]! =_
 by_cases h:i<l.length
 ·simp[List.getD,List.getElem?_eq_getElem h,h]
 ·simp[List.getD,List.getElem?_eq_none (by omega:l.length≤i),h]
  rfl
def decL(l:List UInt8):Nat×Nat:=
 let a (k:Nat):Nat:=(l.getD k 0).toNat
 let cont (k:Nat):Bool:=k<l.length&&a k / 64==2
 let b0:=a 0
 if b0<0x80 then(b0,1)
 else if b0 / 32==6&&cont 1 then
  let c:=(b0 % 32)*64+a 1 % 64
  if c≥0x80 then(c,2)else(65533,1)
 else if b0 / 16==14&&cont 1&&cont 2 then
  let c:=(b0 % 16)*4096+(a 1 % 64)*64+a 2 % 64
  if c≥0x800&&Utf8.valid c then(c,3)else(65533,1)
 else if b0 / 8==30&&cont 1&&cont 2&&cont 3 then
  let c:=(b0 % 8)*262144+(a 1 % 64)*4096+(a 2 % 64)*64+a 3 % 64
  if c≥0x10000&&Utf8.valid c then(c,4)else(65533,1)
 else(65533,1)
theorem decB_L(l:List UInt8)(p:Nat):decB l p=decL (l.drop p):=by
 unfold decB decL Utf8.decode
 have h1:∀k,((⟨l.toArray⟩:ByteArray).get! (p+k))=(l.drop p).getD k 0:=fun k=>by
  rw[get_at];simp only[List.getD,List.getElem?_drop]
 have h2:∀k,decide (p+k<(⟨l.toArray⟩:ByteArray).size)=decide (k<(l.drop p).length):=fun k=>by
  rw[str_size,List.length_drop,decide_eq_decide];omega
 simp only[h1,h2,Utf8.runeError]
structure GC (c:List UInt8):Prop where
 ne:c≠[]
 dec:∃r,(∀rest,decL (c++rest)=(r,c.length))∧32≤r∧(r=65533→c=[239,191,189])
 asc:(∃b:UInt8,c=[b])∨∀b∈c,128≤b.toNat
theorem dec1{b0:UInt8}(t:List UInt8)(h:b0.toNat<128):decL (b0::t)=(b0.toNat,1):=by
 unfold decL
 simp only[List.getD_cons_zero]
 rw[if_pos h]
theorem dec2{b0 b1:UInt8}(t:List UInt8)(h0:¬b0.toNat<128)(h1:(b0.toNat / 32==6)=true)(h2:(b1.toNat / 64==2)=true)(h3:(b0.toNat % 32)*64+b1.toNat % 64≥128):
 decL (b0::b1::t)=((b0.toNat % 32)*64+b1.toNat % 64,2):=by
 unfold decL
 simp only[List.getD_cons_zero,List.getD_cons_succ]
 rw[if_neg h0,if_pos (by simp only[h1,h2,Bool.and_true,Bool.true_and,decide_eq_true_eq];simp),if_pos h3]
theorem dec3{b0 b1 b2:UInt8}(t:List UInt8)(h0:¬b0.toNat<128)(h1:(b0.toNat / 16==14)=true)(h2:(b1.toNat / 64==2)=true)(h3:(b2.toNat / 64==2)=true)
 (h4:(decide ((b0.toNat % 16)*4096+(b1.toNat % 64)*64+b2.toNat % 64≥2048)&&Utf8.valid ((b0.toNat % 16)*4096+(b1.toNat % 64)*64+b2.toNat % 64:Nat))=true):
 decL (b0::b1::b2::t)=((b0.toNat % 16)*4096+(b1.toNat % 64)*64+b2.toNat % 64,3):=by
 have hx:(b0.toNat / 32==6)=false:=by simp at h1 ⊢;omega
 unfold decL
 simp only[List.getD_cons_zero,List.getD_cons_succ]
 rw[if_neg h0,if_neg (by simp[hx]),if_pos (by simp only[h1,h2,h3,Bool.and_true,Bool.true_and,Bool.and_eq_true,decide_eq_true_eq];constructor<;>simp),if_pos h4]
theorem dec_fffd(t:List UInt8):decL (239::191::189::t)=(65533,3):=dec3 (b0:=239) (b1:=191) (b2:=189) t (by decide) (by decide) (by decide) (by decide) (by decide)
theorem gc_fffd:GC [239,191,189]:=⟨by simp,⟨65533,fun rest=>dec_fffd rest,by omega,fun _=>rfl⟩,.inr (by decide)⟩
theorem dec4{b0 b1 b2 b3:UInt8}(t:List UInt8)(h0:¬b0.toNat<128)(h1:(b0.toNat / 8==30)=true)(h2:(b1.toNat / 64==2)=true)(h3:(b2.toNat / 64==2)=true)(h5:(b3.toNat / 64==2)=true)
 (h4:(decide ((b0.toNat % 8)*262144+(b1.toNat % 64)*4096+(b2.toNat % 64)*64+b3.toNat % 64≥65536)&&Utf8.valid ((b0.toNat % 8)*262144+(b1.toNat % 64)*4096+(b2.toNat % 64)*64+b3.toNat % 64:Nat))=true):
 decL (b0::b1::b2::b3::t)=((b0.toNat % 8)*262144+(b1.toNat % 64)*4096+(b2.toNat % 64)*64+b3.toNat % 64,4):=by
 have hx:(b0.toNat / 32==6)=false:=by simp at h1 ⊢;omega
 have hy:(b0.toNat / 16==14)=false:=by simp at h1 ⊢;omega
 unfold decL
 simp only[List.getD_cons_zero,List.getD_cons_succ]
 rw[if_neg h0,if_neg (by simp[hx]),if_neg (by simp[hy]),if_pos (by simp only[h1,h2,h3,h5,Bool.and_true,Bool.true_and,Bool.and_eq_true,decide_eq_true_eq];refine⟨⟨?_,?_⟩,?_⟩<;>simp),if_pos h4]
theorem cont_at{l:List UInt8}{k:Nat}(h:(decide (k<l.length)&&((l.getD k 0).toNat / 64==2))=true):k<l.length∧((l.getD k 0).toNat / 64==2)=true:=by
 simpa[Bool.and_eq_true]using h
theorem two_of{b0:UInt8}{t:List UInt8}(h:2<(b0::t).length):∃b1 b2 t',t=b1::b2::t':=by
 match t with
 |b1::b2::t=>exact⟨b1,b2,t,rfl⟩
 |[x]=>simp at h
 |[]=>simp at h
theorem three_of{b0:UInt8}{t:List UInt8}(h:3<(b0::t).length):∃b1 b2 b3 t',t=b1::b2::b3::t':=by
 match t with
 |b1::b2::b3::t=>exact⟨b1,b2,b3,t,rfl⟩
 |[x,y]=>simp at h
 |[x]=>simp at h
 |[]=>simp at h
theorem good_head{l:List UInt8}(hne:l≠[])(h32:32≤(decL l).1)(hw:(decL l).1 =65533→[239,191,189].isPrefixOf l=true):∃c rest,l=c++rest∧GC c∧c.length=(decL l).2 :=by
 by_cases hr:(decL l).1 =65533
 ·obtain⟨t,rfl⟩:=List.isPrefixOf_iff_prefix.1 (hw hr)
  exact⟨[239,191,189],t,rfl,gc_fffd,by rw[show([239,191,189]++t:List UInt8)=239::191::189::t from rfl,dec_fffd];rfl⟩
 ·obtain⟨r,w,hd⟩:∃r w,decL l=(r,w):=⟨_,_,rfl⟩
  rw[hd]at h32 hr ⊢
  simp only at h32 hr ⊢
  obtain⟨b0,t,rfl⟩:∃b0 t,l=b0::t:=by
   cases l with
   |nil=>exact absurd rfl hne
   |cons b t=>exact⟨b,t,rfl⟩
  unfold decL at hd
  simp only at hd
  split at hd
  ·rename_i h0
   simp only[Prod.mk.injEq]at hd
   obtain⟨rfl,rfl⟩:=hd
   simp only[List.getD_cons_zero]at h0 h32
   exact⟨[b0],t,rfl,⟨by simp,⟨b0.toNat,fun rest=>dec1 rest h0,h32,fun e=>by omega⟩,.inl ⟨b0,rfl⟩⟩,rfl⟩
  ·rename_i h0
   split at hd
   ·rename_i h1
    rw[Bool.and_eq_true]at h1
    obtain⟨k1,q1⟩:=cont_at h1.2
    split at hd
    ·rename_i h3
     simp only[Prod.mk.injEq]at hd
     obtain⟨rfl,rfl⟩:=hd
     obtain⟨b1,t,rfl⟩:∃b1 t',t=b1::t':=by
      cases t with
      |nil=>simp at k1
      |cons b t=>exact⟨b,t,rfl⟩
     simp only[List.getD_cons_zero,List.getD_cons_succ]at h0 h1 q1 h3 h32 hr ⊢
     refine⟨[b0,b1],t,rfl,⟨by simp,⟨_,fun rest=>dec2 rest h0 h1.1 q1 h3,h32,fun e=>absurd e hr⟩,.inr ?_⟩,rfl⟩
     intro b hb
     simp only[List.mem_cons,List.not_mem_nil,or_false]at hb
     rcases hb with rfl|rfl
     ·omega
     ·simp at q1;omega
    ·simp only[Prod.mk.injEq]at hd;exact absurd hd.1.symm hr
   ·split at hd
    ·rename_i h1
     simp only[Bool.and_eq_true (a:=_&&_)]at h1
     rw[Bool.and_eq_true]at h1
     obtain⟨k1,q1⟩:=cont_at h1.1.2
     obtain⟨k2,q2⟩:=cont_at h1.2
     split at hd
     ·rename_i h3
      simp only[Prod.mk.injEq]at hd
      obtain⟨e1,rfl⟩:=hd
      obtain⟨b1,b2,t,rfl⟩:∃b1 b2 t',t=b1::b2::t':=by
       exact two_of k2
      simp only[List.getD_cons_zero,List.getD_cons_succ]at h0 h1 q1 q2 h3 e1 ⊢
      refine⟨[b0,b1,b2],t,rfl,⟨by simp,⟨r,fun rest=>by rw[←e1];exact dec3 rest h0 h1.1.1 q1 q2 h3,h32,fun e=>absurd e hr⟩,.inr ?_⟩,rfl⟩
      intro b hb
      simp only[List.mem_cons,List.not_mem_nil,or_false]at hb
      rcases hb with rfl|rfl|rfl
      ·omega
      ·simp at q1;omega
      ·simp at q2;omega
     ·simp only[Prod.mk.injEq]at hd;exact absurd hd.1.symm hr
    ·split at hd
     ·rename_i h1
      rw[Bool.and_eq_true,Bool.and_eq_true,Bool.and_eq_true]at h1
      obtain⟨k1,q1⟩:=cont_at h1.1.1.2
      obtain⟨k2,q2⟩:=cont_at h1.1.2
      obtain⟨k3,q3⟩:=cont_at h1.2
      split at hd
      ·rename_i h3
       simp only[Prod.mk.injEq]at hd
       obtain⟨e1,rfl⟩:=hd
       obtain⟨b1,b2,b3,t,rfl⟩:∃b1 b2 b3 t',t=b1::b2::b3::t':=by
        exact three_of k3
       simp only[List.getD_cons_zero,List.getD_cons_succ]at h0 h1 q1 q2 q3 h3 e1 ⊢
       refine⟨[b0,b1,b2,b3],t,rfl,⟨by simp,⟨r,fun rest=>by rw[←e1];exact dec4 rest h0 h1.1.1.1 q1 q2 q3 h3,h32,fun e=>absurd e hr⟩,.inr ?_⟩,rfl⟩
       intro b hb
       simp only[List.mem_cons,List.not_mem_nil,or_false]at hb
       rcases hb with rfl|rfl|rfl|rfl
       ·omega
       ·simp at q1;omega
       ·simp at q2;omega
       ·simp at q3;omega
      ·simp only[Prod.mk.injEq]at hd;exact absurd hd.1.symm hr
     ·simp only[Prod.mk.injEq]at hd;exact absurd hd.1.symm hr
end Go.AM.Fd

namespace Go.AM.Fd
open Go.Proofs Go.AM.F
inductive OkL:List UInt8→Prop
 |nil:OkL []
 |cons {c l:List UInt8} (h:GC c) (t:OkL l):OkL (c++l)
theorem OkL.app{a b:List UInt8}(h:OkL a)(k:OkL b):OkL (a++b):=by
 induction h with
 |nil=>exact k
 |cons h _ ih=>rw[List.append_assoc];exact .cons h ih
theorem gc_blank:GC [32]:=⟨by simp,⟨32,fun rest=>dec1 rest (by decide),by omega,fun e=>by omega⟩,.inl ⟨32,rfl⟩⟩
theorem OkL.blank:OkL [32]:=by simpa using OkL.cons gc_blank .nil
theorem ok_step{l:List UInt8}{p:Nat}(hp:p<l.length)(h:okC l (p,((decB l p).1 :Int))=true):∃c rest,l.drop p=c++rest∧GC c∧c.length=(decB l p).2 ∧l.drop (p+(decB l p).2)=rest:=by
 unfold okC at h
 simp only[Bool.and_eq_true,Bool.not_eq_true',decide_eq_false_iff_not,Bool.and_eq_false_imp,beq_iff_eq,Bool.not_eq_false']at h
 have hne:l.drop p≠[]:=by
  intro e
  have:=congrArg List.length e
  rw[List.length_drop]at this;simp at this;omega
 have e:=decB_L l p
 obtain⟨c,rest,h1,h2,h3⟩:=good_head hne (by rw[←e];omega) (fun e2=>by
  have:=h.2 (by rw[e];omega)
  exact this)
 rw[←e]at h3
 refine⟨c,rest,h1,h2,h3,?_⟩
 rw[←List.drop_drop,h1,←h3,List.drop_left]
theorem okl_of{l:List UInt8}:∀(n p:Nat),l.length-p≤n→(runF l p).all (okC l)=true→OkL (l.drop p)
 |0,p,hn,_=>by rw[List.drop_of_length_le (by omega)];exact .nil
 |n+1,p,hn,h=>by
  by_cases hp:p<l.length
  ·rw[runF_step hp,List.all_cons,Bool.and_eq_true]at h
   obtain⟨c,rest,h1,h2,h3,h4⟩:=ok_step hp h.1
   have h0:=decB_pos (l:=l) (p:=p)
   rw[h1,←h4]
   exact .cons h2 (okl_of n _ (by omega) h.2)
  ·rw[List.drop_of_length_le (by omega)];exact .nil
theorem okW_l{l:List UInt8}(h:okW l=true):OkL l:=by
 have:=okl_of l.length 0 (by omega) h
 simpa using this
theorem okl_to{l:List UInt8}(h:OkL l):∀pre:List UInt8,(runF (pre++l) pre.length).all (okC (pre++l))=true:=by
 induction h with
 |nil=>intro pre;rw[runF_end (by simp)];rfl
 | @cons c l h t ih=>
  intro pre
  obtain⟨r,h1,h2,h3⟩:=h.dec
  have hc:0<c.length:=List.length_pos_iff.2 h.ne
  have hd:decB (pre++(c++l)) pre.length=(r,c.length):=by rw[decB_L,List.drop_left];exact h1 l
  rw[runF_step (by simp;omega),hd,List.all_cons,Bool.and_eq_true]
  refine⟨?_,?_⟩
  ·unfold okC
   by_cases hr:r=65533
   ·have hw:wholeB (pre++(c++l)) pre.length=true:=by
     unfold wholeB
     rw[List.drop_left,h3 hr,List.isPrefixOf_iff_prefix]
     exact⟨l,rfl⟩
    simp only[hw];simp;omega
   ·simp;omega
  ·have:=ih (pre++c)
   rw[List.length_append,List.append_assoc]at this
   exact this
theorem l_okW{l:List UInt8}(h:OkL l):okW l=true:=by
 have:=okl_to h []
 simpa[okW]using this
theorem splitB_pre{c:UInt8}:∀{a:List UInt8} (l:List UInt8),c∉a→∃p r,splitB c l=p::r∧splitB c (a++l)=(a++p)::r
 |[],l,_=>by
  cases h:splitB c l with
  |nil=>exact absurd h (splitB_ne c l)
  |cons p r=>exact⟨p,r,rfl,by simpa using h⟩
 |x::a,l,h=>by
  simp only[List.mem_cons,not_or]at h
  obtain⟨p,r,h1,h2⟩:=splitB_pre l h.2
  refine⟨p,r,h1,?_⟩
  simp only[List.cons_append,splitB,if_neg (Ne.symm h.1),h2]
theorem splitB_sep{c:UInt8}{a:List UInt8}(l:List UInt8)(h:c∉a):splitB c (a++c::l)=a::splitB c l:=by
 obtain⟨p,r,h1,h2⟩:=splitB_pre (c::l) h
 have:splitB c (c::l)=[]::splitB c l:=by simp[splitB]
 rw[this]at h1
 cases h1
 rw[h2];simp
theorem splitB_whole{c:UInt8}{a:List UInt8}(h:c∉a):splitB c a=[a]:=by
 obtain⟨p,r,h1,h2⟩:=splitB_pre [] h
 cases h1
 simpa using h2
theorem ixB_nin{c:UInt8}:∀{a:List UInt8},c∉a→ixB c a=none
 |[],_=>rfl
 |x::a,h=>by
  simp only[List.mem_cons,not_or]at h
  simp only[ixB,if_neg (Ne.symm h.1),ixB_nin h.2];rfl
theorem filt_id:∀(ws:List (List UInt8)),(∀w∈ws,w≠[])→(ws.filter fun t=> !t.isEmpty)=ws
 |[],_=>rfl
 |w::ws,h=>by
  have hw:=h w (by simp)
  rw[List.filter_cons,filt_id ws (fun x hx=>h x (by simp[hx]))]
  cases w with
  |nil=>exact absurd rfl hw
  |cons x w=>rfl
theorem sgn_bytes{l:List UInt8}:∀(n p:Nat),l.length-p≤n→(runF l p).all (fun x=>sgn x.2)=true→∀b∈l.drop p,b.toNat<128→sgn (b.toNat:Int)=true
 |0,p,hn,_=>by rw[List.drop_of_length_le (by omega)];simp
 |n+1,p,hn,h=>by
  by_cases hp:p<l.length
  ·rw[runF_step hp,List.all_cons,Bool.and_eq_true]at h
   have hok:okC l (p,((decB l p).1 :Int))=true:=by
    have h1:=h.1
    unfold sgn at h1
    simp only[Bool.and_eq_true,decide_eq_true_eq,bne_iff_ne,ne_eq]at h1
    unfold okC
    simp only[Bool.and_eq_true,Bool.not_eq_true',decide_eq_false_iff_not,Bool.and_eq_false_imp,beq_iff_eq]
    exact⟨by omega,fun e=>absurd e h1.2⟩
   obtain⟨c,rest,h1,h2,h3,h4⟩:=ok_step hp hok
   have h0:=decB_pos (l:=l) (p:=p)
   have ih:=sgn_bytes n (p+(decB l p).2) (by omega) h.2
   rw[h4]at ih
   rw[h1]
   intro b hb hlt
   rcases List.mem_append.1 hb with hb|hb
   ·rcases h2.asc with⟨b0,rfl⟩|h5
    ·simp at hb;subst hb
     have hd:decB l p=(b.toNat,1):=by rw[decB_L,h1];exact dec1 rest hlt
     have:=h.1
     rw[hd]at this;exact this
    ·have:=h5 b hb;omega
   ·exact ih b hb hlt
  ·rw[List.drop_of_length_le (by omega)];simp
theorem right_words{l:List UInt8}(h:rightB l=true):okW (aheadB l)=true∧wordsB (aheadB l)=[l]:=by
 unfold rightB at h
 simp only[Bool.and_eq_true,decide_eq_true_eq]at h
 have hb:=sgn_bytes l.length 0 (by omega) h.1.1
 rw[List.drop_zero]at hb
 have h35:35∉l:=fun hm=>by have:=hb 35 hm (by decide);revert this;decide
 have h32:32∉l:=fun hm=>by have:=hb 32 hm (by decide);revert this;decide
 have ha:aheadB l=l:=by unfold aheadB;rw[ixB_nin h35]
 rw[ha]
 constructor
 ·unfold okW
  rw[List.all_eq_true]at h ⊢
  intro x hx
  have h1:=h.1.1 x hx
  unfold sgn at h1
  simp only[Bool.and_eq_true,decide_eq_true_eq,bne_iff_ne,ne_eq]at h1
  unfold okC
  simp only[Bool.and_eq_true,Bool.not_eq_true',decide_eq_false_iff_not,Bool.and_eq_false_imp,beq_iff_eq]
  exact⟨by omega,fun e=>absurd e h1.2⟩
 ·unfold wordsB
  rw[splitB_whole h32]
  cases l with
  |nil=>have:=h.1.2;rw[runF_end (by simp)]at this;simp at this
  |cons x l=>rfl
end Go.AM.Fd

namespace Go.AM.Fd
open Go.Proofs Go.AM.F
def dbl:List UInt8→List UInt8
 |[]=>[]
 |x::l=>if x=32 then 32::32::dbl l else x::dbl l
theorem dbl_app:∀a b:List UInt8,dbl (a++b)=dbl a++dbl b
 |[],b=>rfl
 |x::a,b=>by
  simp only[List.cons_append,dbl,dbl_app a b]
  split<;>simp
theorem dbl_no:∀{c:List UInt8},32∉c→dbl c=c
 |[],_=>rfl
 |x::c,h=>by
  simp only[List.mem_cons,not_or]at h
  have hx:¬x=32:=fun e=>h.1 e.symm
  simp only[dbl,if_neg hx,dbl_no h.2]
theorem gc_cases{c:List UInt8}(h:GC c):c=[32]∨32∉c:=by
 rcases h.asc with⟨b,rfl⟩|h2
 ·by_cases e:b=32
  ·subst e;exact .inl rfl
  ·exact .inr (by simpa using fun e2=>e e2.symm)
 ·exact .inr fun hm=>by have:=h2 32 hm;revert this;decide
theorem dbl_okl{a:List UInt8}(h:OkL a):OkL (dbl a):=by
 induction h with
 |nil=>exact .nil
 |cons hc _ ih=>
  rw[dbl_app]
  rcases gc_cases hc with rfl|hn
  ·exact(show OkL ([32]++([32]++dbl _))from OkL.cons gc_blank (OkL.cons gc_blank ih))
  ·rw[dbl_no hn];exact .cons hc ih
theorem okl_inv{m:List UInt8}{x:UInt8}(h:OkL (x::m)):∃c l,x::m=c++l∧GC c∧OkL l:=by
 generalize hxm:x::m=y at h
 cases h with
 |nil=>cases hxm
 |cons hc hl=>exact⟨_,_,rfl,hc,hl⟩
theorem okl_blank{m:List UInt8}(h:OkL (32::m)):OkL m:=by
 obtain⟨c,l,e,hc,hl⟩:=okl_inv h
 cases c with
 |nil=>exact absurd rfl hc.ne
 |cons y c=>
  simp only[List.cons_append,List.cons.injEq]at e
  obtain⟨rfl,rfl⟩:=e
  rcases gc_cases hc with e2|e2
  ·simp only[List.cons.injEq,true_and]at e2;subst e2;exact hl
  ·simp at e2
theorem dbl_pre:∀{c a l:List UInt8},32∉c→dbl a=c++l→∃a',a=c++a'∧l=dbl a'
 |[],a,l,_,h=>⟨a,rfl,h.symm⟩
 |x::c,[],l,_,h=>by simp[dbl]at h
 |x::c,y::a,l,hn,h=>by
  simp only[List.mem_cons,not_or]at hn
  simp only[dbl]at h
  split at h
  ·simp only[List.cons_append,List.cons.injEq]at h;exact absurd h.1 hn.1
  ·simp only[List.cons_append,List.cons.injEq]at h
   obtain⟨rfl,h2⟩:=h
   obtain⟨a',rfl,h3⟩:=dbl_pre hn.2 h2
   exact⟨a',rfl,h3⟩
theorem okl_dbl:∀(n:Nat) (a:List UInt8),a.length≤n→OkL (dbl a)→OkL a
 |_,[],_,_=>.nil
 |0,x::a,h,_=>by simp at h
 |n+1,x::a,hn,h=>by
  by_cases e:x=32
  ·subst e
   simp only[dbl,if_true]at h
   exact OkL.cons gc_blank (okl_dbl n a (by simpa using hn) (okl_blank (okl_blank h)))
  ·have hd:dbl (x::a)=x::dbl a:=by simp[dbl,e]
   rw[hd]at h
   obtain⟨c,l,e2,hc,hl⟩:=okl_inv h
   have hn32:32∉c:=by
    rcases gc_cases hc with rfl|h3
    ·simp only[List.singleton_append,List.cons.injEq]at e2;exact absurd e2.1 e
    ·exact h3
   rw[←hd]at e2
   obtain⟨a',e3,rfl⟩:=dbl_pre hn32 e2
   rw[e3]
   refine .cons hc (okl_dbl n a' ?_ hl)
   have h4:=congrArg List.length e3
   have h5:0<c.length:=List.length_pos_iff.2 hc.ne
   simp only[List.length_append]at h4
   omega
theorem okl_end{m:List UInt8}(h:OkL (m++[32])):OkL m:=by
 generalize hm:m++[32]=y at h
 induction h generalizing m with
 |nil=>simp at hm
 | @cons c l hc hl ih=>
  cases hl':l with
  |nil=>
   rw[hl',List.append_nil]at hm
   rcases gc_cases hc with e|e
   ·rw[e]at hm
    have:m=[]:=by
     cases m with
     |nil=>rfl
     |cons a m=>simp at hm
    rw[this];exact .nil
   ·exact absurd (by rw[←hm];simp) e
  |cons z l2=>
   have hne:l≠[]:=by rw[hl'];simp
   obtain⟨l3,hl3⟩:∃l3,l=l3++[32]:=by
    rcases List.eq_nil_or_concat l with h1|⟨l3,b,h1⟩
    ·exact absurd h1 hne
    ·rw[List.concat_eq_append]at h1
     rw[h1,←List.append_assoc]at hm
     have h2:=congrArg List.getLast? hm
     simp only[List.getLast?_append,List.getLast?_singleton,Option.some_or,Option.some.injEq]at h2
     exact⟨l3,by rw[h1,←h2]⟩
   rw[hl3,←List.append_assoc]at hm
   have hm2:m=c++l3:=List.append_cancel_right hm
   rw[hm2]
   exact .cons hc (ih hl3.symm)
theorem bool_iff{a b:Bool}(h:a=true↔b=true):a=b:=by cases a<;>cases b<;>simp_all
theorem dbl_okW(a:List UInt8):okW (dbl a)=okW a:=bool_iff ⟨fun h=>l_okW (okl_dbl _ a (Nat.le_refl _) (okW_l h)),fun h=>l_okW (dbl_okl (okW_l h))⟩
theorem dbl_okW1(a:List UInt8):okW (dbl a++[32])=okW a:=bool_iff ⟨fun h=>l_okW (okl_dbl _ a (Nat.le_refl _) (okl_end (okW_l h))),fun h=>l_okW ((dbl_okl (okW_l h)).app .blank)⟩
def flt(l:List (List UInt8)):List (List UInt8):=l.filter fun t=> !t.isEmpty
theorem split_dbl:∀a:List UInt8,∃p r r',splitB 32 (dbl a)=p::r∧splitB 32 a=p::r'∧flt r=flt r'
 |[]=>⟨[],[],[],rfl,rfl,rfl⟩
 |x::a=>by
  obtain⟨p,r,r',h1,h2,h3⟩:=split_dbl a
  by_cases e:x=32
  ·subst e
   refine⟨[],[]::splitB 32 (dbl a),splitB 32 a,by simp[dbl,splitB],by simp[splitB],?_⟩
   rw[h1,h2]
   simp only[flt,List.filter_cons,List.isEmpty_nil,Bool.not_true,Bool.false_eq_true,if_false]
   simp only[flt]at h3
   rw[h3]
  ·refine⟨x::p,r,r',by simp[dbl,splitB,e,h1],by simp[splitB,e,h2],h3⟩
theorem dbl_words(a:List UInt8):wordsB (dbl a)=wordsB a:=by
 obtain⟨p,r,r',h1,h2,h3⟩:=split_dbl a
 unfold wordsB
 rw[h1,h2]
 simp only[List.filter_cons]
 simp only[flt]at h3
 rw[h3]
theorem splitB_end(c:UInt8):∀l:List UInt8,splitB c (l++[c])=splitB c l++[[]]
 |[]=>by simp[splitB]
 |x::l=>by
  have ih:=splitB_end c l
  simp only[List.cons_append,splitB,ih]
  split
  ·rfl
  ·cases h:splitB c l with
   |nil=>
    have:splitB c l≠[]:=by
     cases l with
     |nil=>simp[splitB]
     |cons y l=>simp only[splitB];split<;>(try simp);split<;>simp
    exact absurd h this
   |cons p r=>rfl
theorem dbl_words1(a:List UInt8):wordsB (dbl a++[32])=wordsB a:=by
 rw[←dbl_words a]
 unfold wordsB
 rw[splitB_end]
 simp
theorem ahead_cons(x:UInt8)(l:List UInt8):aheadB (x::l)=if x=35 then[]else x::aheadB l:=by
 unfold aheadB
 simp only[ixB]
 by_cases h:x=35
 ·simp[h]
 ·simp only[h,if_false]
  cases ixB 35 l with
  |none=>rfl
  |some i=>rfl
def nSuf:List UInt8:=[32,35,32,120]
theorem ahead_dbl:∀l:List UInt8,aheadB (dbl l)=dbl (aheadB l)
 |[]=>rfl
 |x::l=>by
  by_cases h:x=32
  ·subst h
   simp only[dbl,if_true,ahead_cons,ahead_dbl l]
   simp[dbl]
  ·simp only[dbl,h,if_false,ahead_cons,ahead_dbl l]
   split
   ·rfl
   ·simp[dbl,h]
theorem ahead_dblS:∀l:List UInt8,aheadB (dbl l++nSuf)=dbl (aheadB l)∨aheadB (dbl l++nSuf)=dbl (aheadB l)++[32]
 |[]=>.inr rfl
 |x::l=>by
  by_cases h:x=32
  ·subst h
   simp only[dbl,if_true,List.cons_append,ahead_cons]
   rcases ahead_dblS l with e|e
   ·left;rw[e];simp[dbl]
   ·right;rw[e];simp[dbl]
  ·simp only[dbl,h,if_false,List.cons_append,ahead_cons]
   by_cases h35:x=35
   ·left;simp[h35,dbl]
   ·rcases ahead_dblS l with e|e
    ·left;rw[e];simp[dbl,h,h35]
    ·right;rw[e];simp[dbl,h,h35]
theorem line_dbl(L:Ly)(l:List UInt8):lineP L (dbl l)=lineP L l:=by
 unfold lineP
 rw[ahead_dbl,dbl_okW,dbl_words]
theorem line_dblS(L:Ly)(l:List UInt8):lineP L (dbl l++nSuf)=lineP L l:=by
 unfold lineP
 rcases ahead_dblS l with e|e
 ·rw[e,dbl_okW,dbl_words]
 ·rw[e,dbl_okW1,dbl_words1]
def expL:List (List UInt8)→List (List UInt8)
 |[]=>[]
 |[l]=>[dbl l]
 |l::r=>(dbl l++nSuf)::[32,32]::expL r
def nF(b:UInt8):List UInt8:=if b=10 then[32,35,32,120,10,32,32,10]else if b=32 then[32,32]else[b]
def nPre:List UInt8:=[35,32,97,32,110,111,116,101]
def noted(s:List UInt8):List UInt8:=nPre++[10]++s.flatMap nF
theorem splitB_ne(c:UInt8)(l:List UInt8):∃p r,splitB c l=p::r:=by
 cases l with
 |nil=>exact⟨[],[],rfl⟩
 |cons y l=>
  simp only[splitB]
  split
  ·exact⟨_,_,rfl⟩
  ·split
   ·exact⟨_,_,rfl⟩
   ·exact⟨_,_,rfl⟩
theorem expL_cons(x:UInt8)(p:List UInt8)(r:List (List UInt8)):∃q t,expL (p::r)=q::t∧expL ((x::p)::r)=(dbl [x]++q)::t:=by
 cases r with
 |nil=>exact⟨dbl p,[],rfl,by simp only[expL];rw[show x::p=[x]++p from rfl,dbl_app]⟩
 |cons y r=>exact⟨dbl p++nSuf,[32,32]::expL (y::r),rfl,by simp only[expL];rw[show x::p=[x]++p from rfl,dbl_app,List.append_assoc]⟩
theorem split_noted:∀s:List UInt8,splitB 10 (s.flatMap nF)=expL (splitB 10 s)
 |[]=>rfl
 |x::s=>by
  have ih:=split_noted s
  obtain⟨p,r,h⟩:=splitB_ne 10 s
  by_cases h10:x=10
  ·subst h10
   have e1:splitB 10 (10::s)=[]::splitB 10 s:=by simp[splitB]
   have e2:(10::s).flatMap nF=[32,35,32,120]++10::([32,32]++10::s.flatMap nF):=rfl
   rw[e1,e2,splitB_sep _ (by decide),splitB_sep _ (by decide),ih,h]
   rfl
  ·have e1:splitB 10 (x::s)=(x::p)::r:=by simp[splitB,h10,h]
   obtain⟨q,t,h1,h2⟩:=expL_cons x p r
   rw[e1,h2]
   have ih':splitB 10 (s.flatMap nF)=q::t:=by rw[ih,h,h1]
   by_cases h32:x=32
   ·subst h32
    have e2:(32::s).flatMap nF=32::32::s.flatMap nF:=rfl
    rw[e2]
    simp[splitB,ih',dbl]
   ·have e2:(x::s).flatMap nF=x::s.flatMap nF:=by simp[nF,h10,h32]
    rw[e2]
    simp[splitB,ih',dbl,h32,h10]
def twN(r:Ly×Int×Nat):Ly×Int×Nat:=(r.1,r.2.1,if r.2.1=0 then 0 else 2*r.2.2)
theorem twN_err{e:Int}(h:e≠0)(i:Nat):(ly0,e,2*i+1+1)=twN (ly0,e,i+1):=by
 unfold twN
 simp only[h,if_false]
 rw[show 2*i+1+1=2*(i+1) by omega]
theorem parse_exp:∀(ls:List (List UInt8)) (L:Ly) (i:Nat),ls≠[]→parseG lineP L (expL ls) (2*i+1)=twN (parseG lineP L ls i)
 |[],_,_,h=>absurd rfl h
 |[l],L,i,_=>by
  simp only[expL,parseG,line_dbl]
  split
  ·rfl
  ·rename_i h;exact twN_err h i
 |l::m::r,L,i,_=>by
  have hb:∀L:Ly,lineP L [32,32]=(0,L):=fun L=>rfl
  have ih:=parse_exp (m::r) (lineP L l).2 (i+1) (by simp)
  have e1:∀j,parseG lineP L (expL (l::m::r)) j=if(lineP L l).1 =0 then parseG lineP (lineP L l).2 (expL (m::r)) (j+1+1)else(ly0,(lineP L l).1,j+1):=fun j=>by
   simp only[expL,parseG,line_dblS,hb,if_true]
  have e2:parseG lineP L (l::m::r) i=if(lineP L l).1 =0 then parseG lineP (lineP L l).2 (m::r) (i+1)else(ly0,(lineP L l).1,i+1):=by
   rw[parseG]
  rw[e1,e2]
  by_cases e:(lineP L l).1 =0
  ·rw[if_pos e,if_pos e,show 2*i+1+1+1=2*(i+1)+1 by omega]
   exact ih
  ·rw[if_neg e,if_neg e]
   exact twN_err e i
theorem parse_noted{s:List UInt8}(h1:s.length≤16384)(h2:(noted s).length≤16384):parseP (noted s)=twN (parseP s):=by
 unfold parseP
 rw[if_neg (by omega),if_neg (by omega)]
 have e:splitB 10 (noted s)=nPre::expL (splitB 10 s):=by
  unfold noted
  rw[List.append_assoc,List.singleton_append,splitB_sep _ (by decide),split_noted]
 have hp:∀L:Ly,lineP L nPre=(0,L):=fun L=>rfl
 rw[e]
 simp only[parseG,hp,if_true]
 have hne:splitB 10 s≠[]:=by obtain⟨p,r,h⟩:=splitB_ne 10 s;rw[h];simp
 exact parse_exp (splitB 10 s) ly0 0 hne
end Go.AM.Fd

namespace Go.AM.Fd
open Go.Proofs Go.AM.F
structure Gw (w:List UInt8):Prop where
 ne:w≠[]
 ok:OkL w
 n32:32∉w
 n35:35∉w
 n10:10∉w
theorem gc_asc{b:UInt8}(h0:32≤b.toNat)(h1:b.toNat<128):GC [b]:=⟨by simp,⟨b.toNat,fun rest=>dec1 rest h1,h0,fun e=>by omega⟩,.inl ⟨b,rfl⟩⟩
theorem okl_asc:∀l:List UInt8,(∀b∈l,32≤b.toNat∧b.toNat<128)→OkL l
 |[],_=>.nil
 |b::l,h=>by
  have h1:=h b (by simp)
  exact OkL.cons (c:=[b]) (gc_asc h1.1 h1.2) (okl_asc l fun x hx=>h x (by simp[hx]))
theorem gw_asc{l:List UInt8}(h:l≠[]∧∀b∈l,(32≤b.toNat∧b.toNat<128)∧b≠32∧b≠35∧b≠10):Gw l:=
 ⟨h.1,okl_asc l fun b hb=>(h.2 b hb).1,fun hb=>(h.2 _ hb).2.1 rfl,fun hb=>(h.2 _ hb).2.2.1 rfl,fun hb=>(h.2 _ hb).2.2.2 rfl⟩
theorem right_gw{l:List UInt8}(h:rightB l=true):Gw l:=by
 obtain⟨h1,h2⟩:=right_words h
 unfold rightB at h
 simp only[Bool.and_eq_true,decide_eq_true_eq]at h
 have hb:=sgn_bytes l.length 0 (by omega) h.1.1
 rw[List.drop_zero]at hb
 have h35:35∉l:=fun hm=>by have:=hb 35 hm (by decide);revert this;decide
 have h32:32∉l:=fun hm=>by have:=hb 32 hm (by decide);revert this;decide
 have h10:10∉l:=fun hm=>by have:=hb 10 hm (by decide);revert this;decide
 have ha:aheadB l=l:=by unfold aheadB;rw[ixB_nin h35]
 rw[ha]at h1
 refine⟨?_,okW_l h1,h32,h35,h10⟩
 rintro rfl
 have:=h.1.2
 rw[runF_end (by simp)]at this
 simp at this
theorem Gw.snoc{w:List UInt8}(h:Gw w){b:UInt8}(h0:33≤b.toNat)(h1:b.toNat<128)(h2:b≠35):Gw (w++[b]):=by
 refine⟨by simp,h.ok.app (okl_asc [b] fun x hx=>by simp at hx;subst hx;exact⟨by omega,h1⟩),?_,?_,?_⟩
 ·rw[List.mem_append]
  rintro(k|k)
  ·exact h.n32 k
  ·simp at k;subst k;revert h0;decide
 ·rw[List.mem_append]
  rintro(k|k)
  ·exact h.n35 k
  ·simp at k;exact h2 k.symm
 ·rw[List.mem_append]
  rintro(k|k)
  ·exact h.n10 k
  ·simp at k;subst k;revert h0;decide
theorem split_join{c:UInt8}:∀{ws:List (List UInt8)},ws≠[]→(∀w∈ws,c∉w)→splitB c (joinB c ws)=ws
 |[],h,_=>absurd rfl h
 |[t],_,h=>splitB_whole (h t (by simp))
 |t::u::r,_,h=>by
  show splitB c (t++c::joinB c (u::r))=_
  rw[splitB_sep _ (h t (by simp)),split_join (ws:=u::r) (by simp) fun w hw=>h w (by simp[hw])]
theorem join_mem{c b:UInt8}:∀{ws:List (List UInt8)},b∈joinB c ws→b=c∨∃w∈ws,b∈w
 |[],h=>by cases h
 |[t],h=>.inr ⟨t,by simp,h⟩
 |t::u::r,h=>by
  have h:b∈t++c::joinB c (u::r):=h
  rw[List.mem_append,List.mem_cons]at h
  rcases h with h|rfl|h
  ·exact .inr ⟨t,by simp,h⟩
  ·exact .inl rfl
  ·rcases join_mem h with h|⟨w,hw,h⟩
   ·exact .inl h
   ·exact .inr ⟨w,by simp at hw ⊢;exact .inr hw,h⟩
theorem join_ok:∀{ws:List (List UInt8)},(∀w∈ws,OkL w)→OkL (joinB 32 ws)
 |[],_=>.nil
 |[t],h=>h t (by simp)
 |t::u::r,h=>by
  show OkL (t++32::joinB 32 (u::r))
  exact(h t (by simp)).app (OkL.cons (c:=[32]) gc_blank (join_ok fun w hw=>h w (by simp at hw ⊢;exact .inr hw)))
theorem line_join{ws:List (List UInt8)}(h:∀w∈ws,Gw w):aheadB (joinB 32 ws)=joinB 32 ws∧okW (joinB 32 ws)=true∧wordsB (joinB 32 ws)=ws∧10∉joinB 32 ws:=by
 refine⟨?_,l_okW (join_ok fun w hw=>(h w hw).ok),?_,?_⟩
 ·unfold aheadB
  rw[ixB_nin]
  intro hm
  rcases join_mem hm with e|⟨w,hw,e⟩
  ·revert e;decide
  ·exact(h w hw).n35 e
 ·unfold wordsB
  by_cases hw:ws=[]
  ·subst hw;rfl
  ·rw[split_join hw fun w hw=>(h w hw).n32]
   exact filt_id ws fun w hw=>(h w hw).ne
 ·intro hm
  rcases join_mem hm with e|⟨w,hw,e⟩
  ·revert e;decide
  ·exact(h w hw).n10 e
theorem lineP_join(L:Ly){ws:List (List UInt8)}(h:∀w∈ws,Gw w):lineP L (joinB 32 ws)=lineW L ws:=by
 obtain⟨h1,h2,h3,_⟩:=line_join h
 unfold lineP
 rw[h1,h2,h3]
 rfl
theorem split_lines:∀{ls:List (List UInt8)},(∀l∈ls,10∉l)→splitB 10 (ls.flatMap fun l=>l++[10])=ls++[[]]
 |[],_=>rfl
 |l::ls,h=>by
  rw[List.flatMap_cons,List.append_assoc]
  show splitB 10 (l++10::(ls.flatMap fun l=>l++[10]))=_
  rw[splitB_sep _ (h l (by simp)),split_lines fun x hx=>h x (by simp[hx])]
  rfl
def foldW:Ly→List (List (List UInt8))→Option Ly
 |L,[]=>some L
 |L,ws::r=>if(lineW L ws).1 =0 then foldW (lineW L ws).2 r else none
theorem foldW_app:∀(a b:List (List (List UInt8))) (L:Ly),foldW L (a++b)=(foldW L a).bind fun M=>foldW M b
 |[],b,L=>rfl
 |ws::a,b,L=>by
  simp only[List.cons_append,foldW]
  split
  ·exact foldW_app a b _
  ·rfl
theorem parseG_join:∀(wss:List (List (List UInt8))) (L:Ly) (i:Nat) {M:Ly},(∀ws∈wss,∀w∈ws,Gw w)→foldW L wss=some M→parseG lineP L (wss.map (joinB 32)++[[]]) i=(M,0,0)
 |[],L,i,M,_,h=>by
  simp only[foldW,Option.some.injEq]at h
  subst h
  have e:lineP L []=(0,L):=by
   have:=lineP_join L (ws:=[]) (by simp)
   rw[show joinB (32:UInt8) []=[]from rfl]at this
   rw[this];rfl
  simp only[List.map_nil,List.nil_append,parseG,e,if_true]
 |ws::wss,L,i,M,hg,h=>by
  simp only[foldW]at h
  split at h
  ·rename_i h0
   simp only[List.map_cons,List.cons_append,parseG]
   rw[lineP_join L (hg ws (by simp)),if_pos h0]
   exact parseG_join wss _ _ (fun x hx=>hg x (by simp[hx])) h
  ·cases h
def linesT(wss:List (List (List UInt8))):List UInt8:=wss.flatMap fun ws=>joinB 32 ws++[10]
theorem parse_lines{wss:List (List (List UInt8))}{M:Ly}(hg:∀ws∈wss,∀w∈ws,Gw w)(h:foldW ly0 wss=some M)(hl:(linesT wss).length≤16384):parseP (linesT wss)=(M,0,0):=by
 unfold parseP
 rw[if_neg (by omega)]
 have e:linesT wss=(wss.map (joinB 32)).flatMap fun l=>l++[10]:=by unfold linesT;rw[List.flatMap_map]
 rw[e,split_lines fun l hl=>by
  obtain⟨ws,hw,rfl⟩:=List.mem_map.1 hl
  exact(line_join (hg ws hw)).2.2.2]
 exact parseG_join wss ly0 0 hg h
end Go.AM.Fd

namespace Go.AM.Fd
open Go.Proofs Go.AM.F Go.AM.Ky
theorem join_cons(c:UInt8):∀(w:List UInt8) (ws:List (List UInt8)),joinB c (w::ws)=w++ws.flatMap (fun x=>c::x)
 |w,[]=>by simp[joinB]
 |w,u::r=>by
  show w++c::joinB c (u::r)=_
  rw[join_cons c u r];simp
def ndW(p:List (List UInt8×Int))(x:Int×Bool):List UInt8:=nmAt (p.map (·.1)) x.1++[if x.2 then 45 else 43]
def roW(L:Ly)(x:Ro):List (List UInt8):=[rtW,x.n,nmAt (L.g.map (·.1)) x.g,[58]]++(x.path.map (nmAt L.s)++[58]::(x.pts.map (ndW L.p)++[58]::(x.ov.map (nmAt L.s)++[58]::x.fl.map (ndW L.p))))
def wsL(L:Ly):List (List (List UInt8)):=L.s.map (fun x=>[secW,x])++(L.p.map (fun x=>[ptW,x.1,nmAt L.s x.2])++(L.g.map (fun x=>[sgW,x.1,nmAt L.s x.2])++L.r.map (roW L)))
theorem flatMap_map'{α β:Type}(f:α→β)(g:β→List UInt8)(l:List α):(l.map f).flatMap g=l.flatMap fun x=>g (f x):=by rw[List.flatMap_map]
theorem print_lines(L:Ly):printT L=linesT (wsL L):=by
 unfold printT linesT wsL
 simp only[List.flatMap_append,flatMap_map',List.append_assoc]
 have e1:txS L.s=L.s.flatMap fun x=>joinB 32 [secW,x]++[10]:=by unfold txS;congr 1;try (funext x;simp[joinB])
 have e2:∀W l,txP W L.s l=l.flatMap fun x=>joinB 32 [W,x.1,nmAt L.s x.2]++[10]:=fun W l=>by unfold txP;congr 1;funext x;simp[joinB]
 have e3:txR L L.r=L.r.flatMap fun x=>joinB 32 (roW L x)++[10]:=by
  unfold txR
  congr 1
  funext x
  unfold tx1 roW txI txN
  simp only[List.cons_append,List.nil_append,join_cons,List.flatMap_cons,List.flatMap_append,flatMap_map',ndW,List.append_assoc]
 rw[e1,e2,e2,e3]
theorem ixT_none{n:List UInt8}:∀{l:List (List UInt8)},n∉l→ixT n l=none
 |[],_=>rfl
 |x::l,h=>by
  simp only[List.mem_cons,not_or]at h
  simp only[ixT,if_neg (fun e=>h.1 (Eq.symm e):¬x=n),ixT_none h.2];rfl
theorem ixT_in{n:List UInt8}:∀{l:List (List UInt8)} {i:Nat},l.Nodup→l[i]? =some n→ixT n l=some i
 |[],i,_,h=>by simp at h
 |x::l,0,hd,h=>by
  simp at h;subst h;simp[ixT]
 |x::l,i+1,hd,h=>by
  rw[List.nodup_cons]at hd
  have h:l[i]? =some n:=by simpa using h
  have hx:¬x=n:=fun e=>hd.1 (e ▸ List.mem_of_getElem? h)
  simp only[ixT,if_neg hx,ixT_in hd.2 h];rfl
theorem ixT_some{n:List UInt8}:∀{l:List (List UInt8)},(ixT n l).isSome=true→n∈l
 |[],h=>by simp[ixT]at h
 |x::l,h=>by
  by_cases hx:x=n
  ·subst hx;simp
  ·simp only[ixT,if_neg hx,Option.isSome_map]at h
   exact List.mem_cons_of_mem _ (ixT_some h)
theorem dj_of{M:Ly}(h:(namesL M).Nodup):Dj M:=by
 unfold namesL at h
 rw[List.nodup_append]at h
 have h2:=h.1
 rw[List.nodup_append]at h2
 have h3:=h2.1
 rw[List.nodup_append]at h3
 refine⟨fun n hn=>ixT_none fun hm=>h3.2.2 n hm n (ixT_some hn) rfl,fun n hn=>⟨ixT_none fun hm=>h2.2.2 n (by simp[hm]) n (ixT_some hn) rfl,ixT_none fun hm=>h2.2.2 n (by rw[List.mem_append];exact .inr hm) n (ixT_some hn) rfl⟩⟩
theorem fresh_of{M L:Ly}{n:List UInt8}{t:List (List UInt8)}(h:(namesL L).Nodup)(e:namesL L=namesL M++n::t):nameOf M n=none∧(namesL M).Nodup:=by
 rw[e,List.nodup_append]at h
 refine⟨?_,h.1⟩
 have h1:=nameOf_ix M n
 rw[ixT_none fun hm=>h.2.2 n hm n (by simp) rfl]at h1
 cases hn:nameOf M n with
 |none=>rfl
 |some x=>rw[hn]at h1;cases h1
theorem oAll_map{α:Type}{f:List UInt8→Option α}{g:α→List UInt8}:∀{l:List α},(∀x∈l,f (g x)=some x)→oAll f (l.map g)=some l
 |[],_=>rfl
 |x::l,h=>by
  have ih:=oAll_map (l:=l) fun y hy=>h y (by simp[hy])
  simp only[List.map_cons,oAll,h x (by simp),ih]
  rfl
theorem grp_run:∀(l:List (List UInt8)) (g:List (List UInt8)) (r:List (List (List UInt8))),(∀w∈l,w≠[58])→l.foldl grp (g::r)=(g++l)::r
 |[],g,r,_=>by simp
 |w::l,g,r,h=>by
  rw[List.foldl_cons]
  unfold grp
  rw[if_neg (h w (by simp))]
  have:=grp_run l (g++[w]) r fun x hx=>h x (by simp[hx])
  unfold grp at this
  rw[this];simp
theorem nm_at{l:List (List UInt8)}{y:Int}(h:0≤y∧y<l.length):l[y.toNat]? =some (nmAt l y):=by
 have:y.toNat<l.length:=by omega
 simp[nmAt,List.getD,List.getElem?_eq_getElem this]
theorem nm_mem{l:List (List UInt8)}{y:Int}(h:0≤y∧y<l.length):nmAt l y∈l:=List.mem_of_getElem? (nm_at h)
end Go.AM.Fd

namespace Go.AM.Fd
open Go.Proofs Go.AM.F Go.AM.Ky
theorem fold_stage{α:Type}(l:List α)(f:α→List (List UInt8))(st:Nat→Ly)(h:∀i x,l[i]? =some x→lineW (st i) (f x)=(0,st (i+1))):foldW (st 0) (l.map f)=some (st l.length):=by
 have key:∀k,k≤l.length→foldW (st 0) ((l.take k).map f)=some (st k):=by
  intro k
  induction k with
  |zero=>intro _;rfl
  |succ k ih=>
   intro hk
   have hx:l[k]? =some l[k]:=List.getElem?_eq_getElem (by omega)
   rw[List.take_add_one,hx,List.map_append,foldW_app,ih (by omega)]
   simp only[Option.bind_some,Option.toList_some,List.map_cons,List.map_nil,foldW,h k _ hx,if_true]
 have:=key l.length (Nat.le_refl _)
 rwa [List.take_length]at this
theorem take_next{α:Type}{l:List α}{i:Nat}{x:α}(h:l[i]? =some x):l.take (i+1)=l.take i++[x]:=by
 rw[List.take_add_one,h];rfl
theorem take_split{α:Type}{l:List α}{i:Nat}{x:α}(h:l[i]? =some x):l=l.take i++x::l.drop (i+1):=by
 obtain⟨hi,rfl⟩:=List.getElem?_eq_some_iff.1 h
 rw[←List.drop_eq_getElem_cons hi,List.take_append_drop]
structure MayL (L:Ly):Prop where
 nd:(namesL L).Nodup
 rt:∀n∈namesL L,rightB n=true
 s:L.s.length≤64
 p:L.p.length≤32
 g:L.g.length≤32
 r:L.r.length≤64
 pi:∀x∈L.p,0≤x.2∧x.2<L.s.length
 gi:∀x∈L.g,0≤x.2∧x.2<L.s.length
 ri:∀x∈L.r,(0≤x.g∧x.g<L.g.length)∧(x.path.length≤16∧∀y∈x.path,0≤y∧y<L.s.length)∧(x.pts.length≤16∧∀y∈x.pts,0≤y.1∧y.1<L.p.length)∧
  (x.ov.length≤16∧∀y∈x.ov,0≤y∧y<L.s.length)∧(x.fl.length≤16∧∀y∈x.fl,0≤y.1∧y.1<L.p.length)
theorem may_l{L:Ly}(h:mayB L=true):MayL L:=by
 unfold mayB at h
 simp only[Bool.and_eq_true,Bool.not_eq_true',fullB,Bool.or_eq_false_iff,decide_eq_false_iff_not,okN,List.all_eq_true,roB,needB,decide_eq_true_eq]at h
 obtain⟨⟨⟨⟨hs,hp⟩,hg⟩,hr⟩,⟨hN,hnd⟩,⟨⟨hP,hG⟩,hR⟩⟩:=h
 refine⟨hnd,hN,by omega,by omega,by omega,by omega,fun x hx=>inB_iff (hP x hx),fun x hx=>inB_iff (hG x hx),fun x hx=>?_⟩
 obtain⟨⟨h1,⟨⟨h2,h3⟩,h4⟩,h5⟩,⟨⟨h6,h7⟩,⟨h8,h9⟩⟩⟩:=hR x hx
 exact⟨inB_iff h1,⟨h2,fun y hy=>inB_iff (h4 y hy)⟩,⟨h6,fun y hy=>inB_iff (h7 y hy)⟩,⟨h3,fun y hy=>inB_iff (h5 y hy)⟩,⟨h8,fun y hy=>inB_iff (h9 y hy)⟩⟩
theorem sec_line{M:Ly}{x:List UInt8}(hr:rightB x=true)(hn:nameOf M x=none)(hl:M.s.length≠64):lineW M [secW,x]=(0,{M with s:=M.s++[x]}):=by
 unfold lineW
 rw[if_neg (by simp),List.getD_cons_zero,if_pos (show secW=wSection from rfl)]
 unfold secP
 rw[if_neg (by simp[hr]),if_neg (by simp[hn]),if_neg hl]
 rfl
theorem pt_line{M:Ly}{x z:List UInt8}{k:Int}(hr:rightB x=true)(hn:nameOf M x=none)(hk:kN 80 M z=some k)(hl:M.p.length≠32):lineW M [ptW,x,z]=(0,{M with p:=M.p++[(x,k)]}):=by
 unfold lineW
 rw[if_neg (by simp),List.getD_cons_zero,if_neg (by decide:¬ptW=wSection),if_pos (show ptW=wPoint from rfl)]
 unfold partP
 rw[if_neg (by simp[hr]),if_neg (by simp[hn])]
 simp only[List.getD_cons_succ,List.getD_cons_zero,hk]
 rw[if_pos (show ptW=wPoint from rfl),if_neg hl]
theorem sg_line{M:Ly}{x z:List UInt8}{k:Int}(hr:rightB x=true)(hn:nameOf M x=none)(hk:kN 80 M z=some k)(hl:M.g.length≠32):lineW M [sgW,x,z]=(0,{M with g:=M.g++[(x,k)]}):=by
 unfold lineW
 rw[if_neg (by simp),List.getD_cons_zero,if_neg (by decide:¬sgW=wSection),if_neg (by decide:¬sgW=wPoint),if_pos (show sgW=wSignal from rfl)]
 unfold partP
 rw[if_neg (by simp[hr]),if_neg (by simp[hn])]
 simp only[List.getD_cons_succ,List.getD_cons_zero,hk]
 rw[if_neg (by decide:¬sgW=wPoint),if_neg hl]
theorem kN_at{M:Ly}{y:Int}(hd:M.s.Nodup)(h:0≤y∧y<M.s.length):kN 80 M (nmAt M.s y)=some y:=by
 rw[kN_s]
 unfold sIx
 rw[ixT_in hd (nm_at h)]
 simp;omega
theorem ndS{L:Ly}(h:(namesL L).Nodup):L.s.Nodup∧(L.p.map (·.1)).Nodup∧(L.g.map (·.1)).Nodup:=by
 unfold namesL at h
 rw[List.nodup_append]at h
 have h2:=h.1
 rw[List.nodup_append]at h2
 have h3:=h2.1
 rw[List.nodup_append]at h3
 exact⟨h3.1,h3.2.1,h2.2.1⟩
theorem right58{l:List UInt8}(h:rightB l=true):58∉l:=by
 unfold rightB at h
 simp only[Bool.and_eq_true,decide_eq_true_eq]at h
 have hb:=sgn_bytes l.length 0 (by omega) h.1.1
 rw[List.drop_zero]at hb
 exact fun hm=>by have:=hb 58 hm (by decide);revert this;decide
theorem nd_shp{p:List (List UInt8×Int)}{x:Int×Bool}(h:nmAt (p.map (·.1)) x.1≠[]):shpB (ndW p x)=true∧(ndW p x).take ((ndW p x).length - 1)=nmAt (p.map (·.1)) x.1∧sufB [45] (ndW p x)=x.2∧ndW p x≠[58]:=by
 obtain⟨i,b⟩:=x
 unfold ndW
 simp only at h ⊢
 generalize nmAt (p.map (·.1)) i=n at*
 have hl:0<n.length:=List.length_pos_iff.2 h
 have e1:(n++[if b=true then(45:UInt8)else 43]).length=n.length+1:=by simp
 have e2:(n++[if b=true then(45:UInt8)else 43]).drop n.length=[if b=true then 45 else 43]:=List.drop_left ..
 refine⟨?_,by rw[e1,Nat.add_sub_cancel,List.take_left],?_,?_⟩
 ·unfold shpB sufB
  rw[e1]
  simp only[List.length_cons,List.length_nil,Nat.zero_add,Nat.add_sub_cancel,e2]
  cases b<;>simp<;>omega
 ·unfold sufB
  rw[e1]
  simp only[List.length_cons,List.length_nil,Nat.zero_add,Nat.add_sub_cancel,e2]
  cases b<;>simp
 ·intro e
  have:=congrArg List.length e
  rw[e1]at this
  simp at this
  exact h this
theorem nm58{L:Ly}(h:MayL L){l:List (List UInt8)}(hl:∀x∈l,x∈namesL L){y:Int}(hy:0≤y∧y<l.length):nmAt l y≠[58]∧nmAt l y≠[]:=by
 have h1:=h.rt _ (hl _ (nm_mem hy))
 exact⟨fun e=>right58 h1 (by rw[e];simp),(right_gw h1).ne⟩
theorem ro_groups{L:Ly}(h:MayL L){x:Ro}(hx:x∈L.r):groupsB (roW L x)=[[rtW,x.n,nmAt (L.g.map (·.1)) x.g],x.path.map (nmAt L.s),x.pts.map (ndW L.p),x.ov.map (nmAt L.s),x.fl.map (ndW L.p)]:=by
 obtain⟨h1,⟨h2,h3⟩,⟨h4,h5⟩,⟨h6,h7⟩,⟨h8,h9⟩⟩:=h.ri x hx
 have sS:∀z∈L.s,z∈namesL L:=fun z hz=>by simp[namesL,hz]
 have sP:∀z∈L.p.map (·.1),z∈namesL L:=fun z hz=>by unfold namesL;rw[List.mem_append,List.mem_append,List.mem_append];exact .inl (.inl (.inr hz))
 have sG:∀z∈L.g.map (·.1),z∈namesL L:=fun z hz=>by unfold namesL;rw[List.mem_append,List.mem_append];exact .inl (.inr hz)
 have sR:x.n∈namesL L:=by unfold namesL;rw[List.mem_append];exact .inr (List.mem_map_of_mem hx)
 have w1:∀w∈x.path.map (nmAt L.s),w≠[58]:=fun w hw=>by
  obtain⟨y,hy,rfl⟩:=List.mem_map.1 hw;exact(nm58 h sS (h3 y hy)).1
 have w2:∀w∈x.pts.map (ndW L.p),w≠[58]:=fun w hw=>by
  obtain⟨y,hy,rfl⟩:=List.mem_map.1 hw;exact(nd_shp (nm58 h sP (by simpa using h5 y hy)).2).2.2.2
 have w3:∀w∈x.ov.map (nmAt L.s),w≠[58]:=fun w hw=>by
  obtain⟨y,hy,rfl⟩:=List.mem_map.1 hw;exact(nm58 h sS (h7 y hy)).1
 have w4:∀w∈x.fl.map (ndW L.p),w≠[58]:=fun w hw=>by
  obtain⟨y,hy,rfl⟩:=List.mem_map.1 hw;exact(nd_shp (nm58 h sP (by simpa using h9 y hy)).2).2.2.2
 have w0:∀w∈[rtW,x.n,nmAt (L.g.map (·.1)) x.g],w≠[58]:=fun w hw=>by
  simp only[List.mem_cons,List.not_mem_nil,or_false]at hw
  rcases hw with rfl|rfl|rfl
  ·decide
  ·exact fun e=>right58 (h.rt _ sR) (by rw[e];simp)
  ·exact(nm58 h sG (by simpa using h1)).1
 have st:∀(g:List (List UInt8)) (r:List (List (List UInt8))) (t:List (List UInt8)),([58]::t).foldl grp (g::r)=t.foldl grp ([]::g::r):=fun g r t=>by
  rw[List.foldl_cons];unfold grp;rw[if_pos rfl]
 have e0:roW L x=[rtW,x.n,nmAt (L.g.map (·.1)) x.g]++([58]::(x.path.map (nmAt L.s)++[58]::(x.pts.map (ndW L.p)++[58]::(x.ov.map (nmAt L.s)++[58]::x.fl.map (ndW L.p))))):=rfl
 unfold groupsB
 rw[e0,List.foldl_append,grp_run _ _ _ w0,st,List.foldl_append,grp_run _ _ _ w1,st,List.foldl_append,grp_run _ _ _ w2,st,List.foldl_append,grp_run _ _ _ w3,st,grp_run _ _ _ w4]
 rfl
theorem ro_line{L M:Ly}(h:MayL L){x:Ro}(hx:x∈L.r)(es:M.s=L.s)(ep:M.p=L.p)(eg:M.g=L.g)(hd:(namesL M).Nodup)(hn:nameOf M x.n=none)(hl:M.r.length≠64):lineW M (roW L x)=(0,{M with r:=M.r++[x]}):=by
 have hg:=ro_groups h hx
 obtain⟨h1,⟨h2,h3⟩,⟨h4,h5⟩,⟨h6,h7⟩,⟨h8,h9⟩⟩:=h.ri x hx
 have sR:x.n∈namesL L:=by unfold namesL;rw[List.mem_append];exact .inr (List.mem_map_of_mem hx)
 have sP:∀z∈L.p.map (·.1),z∈namesL L:=fun z hz=>by unfold namesL;rw[List.mem_append,List.mem_append,List.mem_append];exact .inl (.inl (.inr hz))
 obtain⟨n1,n2,n3⟩:=ndS hd
 have dj:=dj_of hd
 have kS:∀y:Int,0≤y∧y<L.s.length→kN 80 M (nmAt L.s y)=some y:=fun y hy=>by
  rw[←es]at hy ⊢
  exact kN_at n1 hy
 have kP:∀y:Int×Bool,0≤y.1∧y.1<L.p.length→ne2 M (ndW L.p y)=some y:=fun y hy=>by
  obtain⟨a1,a2,a3,a4⟩:=nd_shp (x:=y) (nm58 h sP (by simpa using hy)).2
  unfold ne2
  rw[a2,a3,dj.kp]
  unfold pIx
  rw[ep,ixT_in (by rw[←ep];exact n2) (nm_at (by simpa using hy))]
  obtain⟨y,b⟩:=y
  simp at hy ⊢;omega
 have kG:kN 83 M (nmAt (L.g.map (·.1)) x.g)=some x.g:=by
  rw[dj.kg]
  unfold gIx
  rw[eg,ixT_in (by rw[←eg];exact n3) (nm_at (by simpa using h1))]
  simp;omega
 have hsh:∀l:List (Int×Bool),(∀y∈l,0≤y.1∧y.1<L.p.length)→(l.map (ndW L.p)).all shpB=true:=fun l hl=>by
  rw[List.all_eq_true]
  intro w hw
  obtain⟨y,hy,rfl⟩:=List.mem_map.1 hw
  exact(nd_shp (nm58 h sP (by simpa using hl y hy)).2).1
 have g0:(roW L x).getD 0 []=rtW:=rfl
 have g1:(roW L x).getD 1 []=x.n:=rfl
 have g2:(roW L x).getD 2 []=nmAt (L.g.map (·.1)) x.g:=rfl
 unfold lineW
 rw[if_neg (by simp[roW]),g0,if_neg (by decide:¬rtW=wSection),if_neg (by decide:¬rtW=wPoint),if_neg (by decide:¬rtW=wSignal),if_pos (show rtW=wRoute from rfl)]
 unfold routeP
 rw[hg]
 simp only
 rw[routeQ_t rfl (by rw[g1];exact h.rt _ sR) (hsh _ h5) (hsh _ h9),g1,g2,hn,kG,oAll_map fun y hy=>kS y (h3 y hy),oAll_map fun y hy=>kP y (h5 y hy),oAll_map fun y hy=>kS y (h7 y hy),oAll_map fun y hy=>kP y (h9 y hy)]
 simp only[Option.isSome_none,Bool.false_eq_true,if_false]
 rw[if_neg (by omega)]
theorem read_back{L:Ly}(h:MayL L):foldW ly0 (wsL L)=some L:=by
 obtain⟨nS,_,_⟩:=ndS h.nd
 have f1:=fold_stage L.s (fun x=>[secW,x]) (fun i=>⟨L.s.take i,[],[],[]⟩) (fun i x hx=>by
  obtain⟨hn,hd⟩:=fresh_of (M:=⟨L.s.take i,[],[],[]⟩) (n:=x) (t:=L.s.drop (i+1)++L.p.map (·.1)++L.g.map (·.1)++L.r.map (·.n)) h.nd (by
   have:=take_split hx
   unfold namesL
   simp only[List.map_nil,List.append_nil,List.append_assoc]
   conv=>lhs;rw[this]
   simp)
  have hi:=(List.getElem?_eq_some_iff.1 hx).1
  have hs:=h.s
  rw[sec_line (h.rt x (by simp[namesL,List.mem_of_getElem? hx])) hn (by simp;omega),take_next hx])
 have f2:=fold_stage L.p (fun x=>[ptW,x.1,nmAt L.s x.2]) (fun i=>⟨L.s,L.p.take i,[],[]⟩) (fun i x hx=>by
  obtain⟨hn,hd⟩:=fresh_of (M:=⟨L.s,L.p.take i,[],[]⟩) (n:=x.1) (t:=(L.p.drop (i+1)).map (·.1)++L.g.map (·.1)++L.r.map (·.n)) h.nd (by
   have:=congrArg (List.map (·.1)) (take_split hx)
   unfold namesL
   simp only[List.map_nil,List.append_nil,List.append_assoc]
   conv=>lhs;rw[this]
   simp)
  have hi:=(List.getElem?_eq_some_iff.1 hx).1
  have hs:=h.p
  have hm:=List.mem_of_getElem? hx
  rw[pt_line (k:=x.2) (h.rt x.1 (by unfold namesL;rw[List.mem_append,List.mem_append,List.mem_append];exact .inl (.inl (.inr (List.mem_map_of_mem hm))))) hn (kN_at (M:=⟨L.s,L.p.take i,[],[]⟩) nS (h.pi x hm)) (by simp;omega),take_next hx])
 have f3:=fold_stage L.g (fun x=>[sgW,x.1,nmAt L.s x.2]) (fun i=>⟨L.s,L.p,L.g.take i,[]⟩) (fun i x hx=>by
  obtain⟨hn,hd⟩:=fresh_of (M:=⟨L.s,L.p,L.g.take i,[]⟩) (n:=x.1) (t:=(L.g.drop (i+1)).map (·.1)++L.r.map (·.n)) h.nd (by
   have:=congrArg (List.map (·.1)) (take_split hx)
   unfold namesL
   simp only[List.map_nil,List.append_nil,List.append_assoc]
   conv=>lhs;rw[this]
   simp)
  have hi:=(List.getElem?_eq_some_iff.1 hx).1
  have hs:=h.g
  have hm:=List.mem_of_getElem? hx
  rw[sg_line (k:=x.2) (h.rt x.1 (by unfold namesL;rw[List.mem_append,List.mem_append];exact .inl (.inr (List.mem_map_of_mem hm)))) hn (kN_at (M:=⟨L.s,L.p,L.g.take i,[]⟩) nS (h.gi x hm)) (by simp;omega),take_next hx])
 have f4:=fold_stage L.r (roW L) (fun i=>⟨L.s,L.p,L.g,L.r.take i⟩) (fun i x hx=>by
  obtain⟨hn,hd⟩:=fresh_of (M:=⟨L.s,L.p,L.g,L.r.take i⟩) (n:=x.n) (t:=(L.r.drop (i+1)).map (·.n)) h.nd (by
   have:=congrArg (List.map (·.n)) (take_split hx)
   unfold namesL
   simp only[List.append_assoc]
   conv=>lhs;rw[this]
   simp)
  have hi:=(List.getElem?_eq_some_iff.1 hx).1
  have hs:=h.r
  have hm:=List.mem_of_getElem? hx
  rw[ro_line h hm (M:=⟨L.s,L.p,L.g,L.r.take i⟩) rfl rfl rfl hd hn (by simp;omega),take_next hx])
 simp only[List.take_zero,List.take_length]at f1 f2 f3 f4
 unfold wsL ly0
 rw[foldW_app,f1,Option.bind_some,foldW_app,f2,Option.bind_some,foldW_app,f3,Option.bind_some,f4]
end Go.AM.Fd

namespace Go.AM.Fd
open Go.Proofs Go.AM.F Go.AM.Ky
theorem gw_nm{L:Ly}(h:MayL L){l:List (List UInt8)}(hl:∀x∈l,x∈namesL L){y:Int}(hy:0≤y∧y<l.length):Gw (nmAt l y):=right_gw (h.rt _ (hl _ (nm_mem hy)))
theorem inS(L:Ly):∀z∈L.s,z∈namesL L:=fun z hz=>by simp[namesL,hz]
theorem inP(L:Ly):∀z∈L.p.map (·.1),z∈namesL L:=fun z hz=>by unfold namesL;rw[List.mem_append,List.mem_append,List.mem_append];exact .inl (.inl (.inr hz))
theorem inG(L:Ly):∀z∈L.g.map (·.1),z∈namesL L:=fun z hz=>by unfold namesL;rw[List.mem_append,List.mem_append];exact .inl (.inr hz)
theorem inR(L:Ly):∀z∈L.r.map (·.n),z∈namesL L:=fun z hz=>by unfold namesL;rw[List.mem_append];exact .inr hz
theorem gw_w:Gw secW∧Gw ptW∧Gw sgW∧Gw rtW∧Gw [58]:=⟨gw_asc (by decide),gw_asc (by decide),gw_asc (by decide),gw_asc (by decide),gw_asc (by decide)⟩
theorem gw_nd{L:Ly}(h:MayL L){x:Int×Bool}(hx:0≤x.1∧x.1<L.p.length):Gw (ndW L.p x):=by
 have:=gw_nm h (inP L) (y:=x.1) (by simpa using hx)
 unfold ndW
 cases x.2
 ·exact this.snoc (by decide) (by decide) (by decide)
 ·exact this.snoc (by decide) (by decide) (by decide)
theorem wsL_good{L:Ly}(h:MayL L):∀ws∈wsL L,∀w∈ws,Gw w:=by
 intro ws hws w hw
 unfold wsL at hws
 obtain⟨a1,a2,a3,a4,a5⟩:=gw_w
 simp only[List.mem_append,List.mem_map]at hws
 rcases hws with⟨x,hx,rfl⟩|⟨x,hx,rfl⟩|⟨x,hx,rfl⟩|⟨x,hx,rfl⟩
 ·simp only[List.mem_cons,List.not_mem_nil,or_false]at hw
  rcases hw with rfl|rfl
  ·exact a1
  ·exact right_gw (h.rt _ (inS L _ hx))
 ·simp only[List.mem_cons,List.not_mem_nil,or_false]at hw
  rcases hw with rfl|rfl|rfl
  ·exact a2
  ·exact right_gw (h.rt _ (inP L _ (List.mem_map_of_mem hx)))
  ·exact gw_nm h (inS L) (h.pi x hx)
 ·simp only[List.mem_cons,List.not_mem_nil,or_false]at hw
  rcases hw with rfl|rfl|rfl
  ·exact a3
  ·exact right_gw (h.rt _ (inG L _ (List.mem_map_of_mem hx)))
  ·exact gw_nm h (inS L) (h.gi x hx)
 ·obtain⟨h1,⟨h2,h3⟩,⟨h4,h5⟩,⟨h6,h7⟩,⟨h8,h9⟩⟩:=h.ri x hx
  unfold roW at hw
  simp only[List.mem_append,List.mem_cons,List.not_mem_nil,or_false,List.mem_map]at hw
  rcases hw with(rfl|rfl|rfl|rfl)|⟨y,hy,rfl⟩|rfl|⟨y,hy,rfl⟩|rfl|⟨y,hy,rfl⟩|rfl|⟨y,hy,rfl⟩
  ·exact a4
  ·exact right_gw (h.rt _ (inR L _ (List.mem_map_of_mem hx)))
  ·exact gw_nm h (inG L) (by simpa using h1)
  ·exact a5
  ·exact gw_nm h (inS L) (h3 y hy)
  ·exact a5
  ·exact gw_nd h (h5 y hy)
  ·exact a5
  ·exact gw_nm h (inS L) (h7 y hy)
  ·exact a5
  ·exact gw_nd h (h9 y hy)
theorem parse_print{L:Ly}(h:mayB L=true)(hl:(printT L).length≤16384):parseP (printT L)=(L,0,0):=by
 have m:=may_l h
 rw[print_lines]at hl ⊢
 exact parse_lines (wsL_good m) (read_back m) hl
theorem l_may{L:Ly}(h:MayL L):mayB L=true:=by
 unfold mayB
 simp only[Bool.and_eq_true,Bool.not_eq_true',fullB,Bool.or_eq_false_iff,decide_eq_false_iff_not,okN,List.all_eq_true,roB,needB,decide_eq_true_eq]
 have h1:=h.s
 have h2:=h.p
 have h3:=h.g
 have h4:=h.r
 have ib:∀{n x:Int},0≤x∧x<n→inB n x=true:=fun h=>by simpa[inB]using h
 refine⟨⟨⟨⟨by omega,by omega⟩,by omega⟩,by omega⟩,⟨h.rt,h.nd⟩,⟨fun x hx=>ib (h.pi x hx),fun x hx=>ib (h.gi x hx)⟩,fun x hx=>?_⟩
 obtain⟨h1,⟨h2,h3⟩,⟨h4,h5⟩,⟨h6,h7⟩,⟨h8,h9⟩⟩:=h.ri x hx
 exact⟨⟨ib h1,⟨⟨h2,h6⟩,fun y hy=>ib (h3 y hy)⟩,fun y hy=>ib (h7 y hy)⟩,⟨h4,fun y hy=>ib (h5 y hy)⟩,⟨h8,fun y hy=>ib (h9 y hy)⟩⟩
end Go.AM.Fd

namespace Go.AM.Fd
open Go.Proofs Go.AM.F Go.AM.Ky
theorem nm_app{l t:List (List UInt8)}{y:Int}(h:0≤y∧y<l.length):nmAt (l++t) y=nmAt l y:=by
 unfold nmAt
 have:y.toNat<l.length:=by omega
 simp[List.getD,List.getElem?_append_left this]
theorem ixT_inv{n:List UInt8}:∀{l:List (List UInt8)} {i:Nat},ixT n l=some i→l[i]? =some n
 |[],i,h=>by simp[ixT]at h
 |x::l,i,h=>by
  simp only[ixT]at h
  split at h
  ·rename_i e;subst e;cases h;rfl
  ·cases hx:ixT n l with
   |none=>rw[hx]at h;cases h
   |some j=>rw[hx]at h;cases h;simpa using ixT_inv hx
theorem kN_inv{L:Ly}{w:List UInt8}{k:Int}(h:kN 80 L w=some k):nmAt L.s k=w∧0≤k∧k<L.s.length:=by
 rw[kN_s]at h
 unfold sIx at h
 cases hx:ixT w L.s with
 |none=>rw[hx]at h;cases h
 |some i=>
  rw[hx]at h;cases h
  have:=ixT_inv hx
  have hl:=(List.getElem?_eq_some_iff.1 this).1
  refine⟨by simp[nmAt,List.getD,this],?_,?_⟩
  ·show(0:Int)≤(i:Int);omega
  ·show(i:Int)<_;omega
theorem pIx_inv{L:Ly}{n:List UInt8}{k:Int}(h:pIx L n=some k):nmAt (L.p.map (·.1)) k=n∧0≤k∧k<(L.p.map (·.1)).length:=by
 unfold pIx at h
 cases hx:ixT n (L.p.map (·.1))with
 |none=>rw[hx]at h;cases h
 |some i=>
  rw[hx]at h;cases h
  have:=ixT_inv hx
  have hl:=(List.getElem?_eq_some_iff.1 this).1
  refine⟨by simp only[nmAt,Int.toNat_natCast,List.getD,this];rfl,?_,?_⟩
  ·show(0:Int)≤(i:Int);omega
  ·show(i:Int)<_;omega
theorem gIx_inv{L:Ly}{n:List UInt8}{k:Int}(h:gIx L n=some k):nmAt (L.g.map (·.1)) k=n∧0≤k∧k<(L.g.map (·.1)).length:=by
 unfold gIx at h
 cases hx:ixT n (L.g.map (·.1))with
 |none=>rw[hx]at h;cases h
 |some i=>
  rw[hx]at h;cases h
  have:=ixT_inv hx
  have hl:=(List.getElem?_eq_some_iff.1 this).1
  refine⟨by simp only[nmAt,Int.toNat_natCast,List.getD,this];rfl,?_,?_⟩
  ·show(0:Int)≤(i:Int);omega
  ·show(i:Int)<_;omega
theorem oAll_inv{α:Type}{f:List UInt8→Option α}{g:α→List UInt8}{ok:α→Prop}:∀{l:List (List UInt8)} {r:List α},(∀w∈l,∀i,f w=some i→g i=w∧ok i)→oAll f l=some r→l=r.map g∧(∀i∈r,ok i)
 |[],r,_,h=>by simp[oAll]at h;subst h;simp
 |w::l,r,hf,h=>by
  simp only[oAll]at h
  split at h
  ·rename_i i hi
   cases ho:oAll f l with
   |none=>rw[ho]at h;cases h
   |some r'=>
    rw[ho]at h;cases h
    obtain⟨h1,h2⟩:=hf w (by simp) i hi
    obtain⟨h3,h4⟩:=oAll_inv (fun x hx=>hf x (by simp[hx])) ho
    exact⟨by rw[List.map_cons,h1,←h3],fun x hx=>by
     rcases List.mem_cons.1 hx with rfl|hx
     ·exact h2
     ·exact h4 x hx⟩
  ·cases h
theorem grp_ne(acc:List (List (List UInt8)))(t:List UInt8):grp acc t≠[]:=by
 unfold grp
 split
 ·simp
 ·split<;>simp
theorem grp_join:∀(ts:List (List UInt8)) (acc:List (List (List UInt8))),acc≠[]→joinB [58] (ts.foldl grp acc).reverse=joinB [58] acc.reverse++ts
 |[],acc,_=>by simp
 |t::ts,acc,h=>by
  rw[List.foldl_cons,grp_join ts _ (grp_ne acc t)]
  have e:joinB [58] (grp acc t).reverse=joinB [58] acc.reverse++[t]:=by
   unfold grp
   split
   ·rename_i e;subst e
    rw[List.reverse_cons,joinB_snoc _ _ _ (by simpa using h)]
   ·match acc,h with
    |g::r,_=>
     simp only[List.reverse_cons]
     by_cases hr:r=[]
     ·subst hr;rfl
     ·rw[joinB_snoc _ _ _ (by simpa using hr),joinB_snoc _ _ _ (by simpa using hr)];simp
  rw[e];simp
theorem groups_join(ts:List (List UInt8)):joinB [58] (groupsB ts)=ts:=by
 unfold groupsB
 rw[grp_join ts [[]] (by simp)]
 rfl
theorem fresh_no{L:Ly}{n:List UInt8}(h:nameOf L n=none):n∉namesL L:=fun hm=>by
 have h1:=nameOf_ix L n
 rw[h,ixT_mem]at h1
 simp at h1
 exact h1 hm
theorem nd_inv{L:Ly}{w:List UInt8}{x:Int×Bool}(hd:Dj L)(hs:shpB w=true)(h:ne2 L w=some x):ndW L.p x=w∧0≤x.1∧x.1<L.p.length:=by
 unfold ne2 at h
 rw[hd.kp]at h
 cases hp:pIx L (w.take (w.length-1))with
 |none=>rw[hp]at h;cases h
 |some i=>
  rw[hp]at h;cases h
  obtain⟨h1,h2,h3⟩:=pIx_inv hp
  refine⟨?_,h2,by simpa using h3⟩
  unfold ndW
  simp only
  rw[h1]
  unfold shpB at hs
  simp only[Bool.and_eq_true,decide_eq_true_eq,Bool.or_eq_true]at hs
  have key:∀c:UInt8,sufB [c] w=true→w.drop (w.length-1)=[c]:=fun c hc=>by
   unfold sufB at hc
   simp only[Bool.and_eq_true,decide_eq_true_eq,List.length_cons,List.length_nil,Nat.zero_add]at hc
   exact hc.2
  have e:=List.take_append_drop (w.length-1) w
  cases h45:sufB [45] w with
  |true=>
   simp only[if_true]
   rw[←key 45 h45];exact e
  |false=>
   have h43:sufB [43] w=true:=by
    rcases hs.2 with h|h
    ·exact h
    ·rw[h45]at h;cases h
   simp only[Bool.false_eq_true,if_false]
   rw[←key 43 h43];exact e
theorem join_filter(c:UInt8):∀ws:List (List UInt8),(joinB c (ws.filter fun t=> !t.isEmpty)).length≤(joinB c ws).length:=by
 intro ws
 have key:∀ws:List (List UInt8),((ws.filter fun t=> !t.isEmpty).flatMap fun x=>c::x).length≤(ws.flatMap fun x=>c::x).length:=by
  intro ws
  induction ws with
  |nil=>simp
  |cons w ws ih=>
   rw[List.filter_cons]
   split
   ·simp only[List.flatMap_cons,List.length_append];omega
   ·simp only[List.flatMap_cons,List.length_append];omega
 have k2:∀ws:List (List UInt8),(joinB c ws).length+(if ws=[]then 0 else 1)=(ws.flatMap fun x=>c::x).length:=by
  intro ws
  cases ws with
  |nil=>simp[joinB]
  |cons w ws=>rw[join_cons];simp;try omega
 have h1:=key ws
 rw[←k2,←k2]at h1
 by_cases e:(ws.filter fun t=> !t.isEmpty)=[]
 ·rw[e];simp[joinB]
 ·have e2:ws≠[]:=by rintro rfl;simp at e
  rw[if_neg e,if_neg e2]at h1
  omega
theorem words_len(l:List UInt8):(joinB 32 (wordsB l)).length≤l.length:=by
 have:=join_filter 32 (splitB 32 l)
 rw[join_split]at this
 exact this
theorem rows_ext{L:Ly}(h:MayL L)(a:List (List UInt8))(b c:List (List UInt8×Int))(d:List Ro):
 L.p.map (fun x=>[ptW,x.1,nmAt (L.s++a) x.2])=L.p.map (fun x=>[ptW,x.1,nmAt L.s x.2])∧L.g.map (fun x=>[sgW,x.1,nmAt (L.s++a) x.2])=L.g.map (fun x=>[sgW,x.1,nmAt L.s x.2])∧
 L.r.map (roW ⟨L.s++a,L.p++b,L.g++c,d⟩)=L.r.map (roW L):=by
 refine⟨List.map_congr_left fun x hx=>by rw[nm_app (h.pi x hx)],List.map_congr_left fun x hx=>by rw[nm_app (h.gi x hx)],List.map_congr_left fun x hx=>?_⟩
 obtain⟨h1,⟨h2,h3⟩,⟨h4,h5⟩,⟨h6,h7⟩,⟨h8,h9⟩⟩:=h.ri x hx
 have nd:∀l:List (Int×Bool),(∀y∈l,0≤y.1∧y.1<L.p.length)→l.map (ndW (L.p++b))=l.map (ndW L.p):=fun l hl=>List.map_congr_left fun y hy=>by
  unfold ndW
  rw[List.map_append,nm_app (by simpa using hl y hy)]
 have sc:∀l:List Int,(∀y∈l,0≤y∧y<L.s.length)→l.map (nmAt (L.s++a))=l.map (nmAt L.s):=fun l hl=>List.map_congr_left fun y hy=>nm_app (hl y hy)
 unfold roW
 simp only
 rw[List.map_append,nm_app (by simpa using h1),sc _ h3,sc _ h7,nd _ h5,nd _ h9]
structure AddL (L M:Ly) (ws:List (List UInt8)):Prop where
 m:MayL M
 w:∃pre post,wsL L=pre++post∧wsL M=pre++ws::post
theorem may_ext{L:Ly}(h:MayL L)(a:List (List UInt8))(b c:List (List UInt8×Int))(d:List Ro)(n:List UInt8)(hn:nameOf L n=none)(hr:rightB n=true)
 (hp:(namesL ⟨L.s++a,L.p++b,L.g++c,L.r++d⟩).Perm (n::namesL L)):(namesL ⟨L.s++a,L.p++b,L.g++c,L.r++d⟩).Nodup∧∀x∈namesL ⟨L.s++a,L.p++b,L.g++c,L.r++d⟩,rightB x=true:=by
 refine⟨hp.symm.nodup (List.nodup_cons.2 ⟨fresh_no hn,h.nd⟩),fun x hx=>?_⟩
 rcases List.mem_cons.1 (hp.mem_iff.1 hx)with rfl|hx
 ·exact hr
 ·exact h.rt x hx
theorem len2{l:List (List UInt8)}(h:l.length=2):∃a b,l=[a,b]:=by
 match l,h with
 |[a,b],_=>exact⟨a,b,rfl⟩
theorem len3{l:List (List UInt8)}(h:l.length=3):∃a b c,l=[a,b,c]:=by
 match l,h with
 |[a,b,c],_=>exact⟨a,b,c,rfl⟩
theorem sec_ok{L:Ly}(h:MayL L){ws:List (List UInt8)}(h0:ws.getD 0 []=wSection)(e:(secP L ws).1 =0):AddL L (secP L ws).2 ws:=by
 unfold secP at e ⊢
 split at e
 ·cases e
 rename_i c1
 simp only[not_or,Decidable.not_not]at c1
 split at e
 ·cases e
 rename_i c2
 split at e
 ·cases e
 rename_i c3
 rw[if_neg (by simp only[not_or,Decidable.not_not];exact c1),if_neg c2,if_neg c3]
 obtain⟨x,y,rfl⟩:=len2 c1.1
 simp only[List.getD_cons_succ,List.getD_cons_zero]at*
 have hn:nameOf L y=none:=by cases hy:nameOf L y<;>simp_all
 have hr:rightB y=true:=by cases hy:rightB y<;>simp_all
 obtain⟨m1,m2⟩:=may_ext h [y] [] [] [] y hn hr (by
  unfold namesL
  simp only[List.append_nil,List.append_assoc]
  exact List.perm_middle)
 obtain⟨e1,e2,e3⟩:=rows_ext h [y] [] [] L.r
 simp only[List.append_nil]at m1 m2 e3
 have hs:=h.s
 refine⟨⟨m1,m2,by simp;omega,h.p,h.g,h.r,fun x hx=>by have:=h.pi x hx;simp;omega,fun x hx=>by have:=h.gi x hx;simp;omega,fun x hx=>?_⟩,?_⟩
 ·obtain⟨h1,⟨h2,h3⟩,⟨h4,h5⟩,⟨h6,h7⟩,⟨h8,h9⟩⟩:=h.ri x hx
  exact⟨h1,⟨h2,fun y hy=>by have:=h3 y hy;simp;omega⟩,⟨h4,h5⟩,⟨h6,fun y hy=>by have:=h7 y hy;simp;omega⟩,⟨h8,h9⟩⟩
 ·refine⟨L.s.map (fun x=>[secW,x]),_,rfl,?_⟩
  unfold wsL
  simp only[e1,e2,e3,List.map_append,List.map_cons,List.map_nil,List.append_assoc,List.cons_append,List.nil_append]
  rw[h0];rfl
end Go.AM.Fd

namespace Go.AM.Fd
open Go.Proofs Go.AM.F Go.AM.Ky
theorem part_ok{L:Ly}(h:MayL L){ws:List (List UInt8)}(h0:ws.getD 0 []=wPoint∨ws.getD 0 []=wSignal)(e:(partP L ws).1 =0):AddL L (partP L ws).2 ws:=by
 unfold partP at e ⊢
 split at e
 ·cases e
 rename_i c1
 simp only[not_or,Decidable.not_not]at c1
 split at e
 ·cases e
 rename_i c2
 rw[if_neg (by simp only[not_or,Decidable.not_not];exact c1),if_neg c2]
 obtain⟨x,y,z,rfl⟩:=len3 c1.1
 simp only[List.getD_cons_succ,List.getD_cons_zero]at*
 have hn:nameOf L y=none:=by cases hy:nameOf L y<;>simp_all
 have hr:rightB y=true:=by cases hy:rightB y<;>simp_all
 cases hk:kN 80 L z with
 |none=>rw[hk]at e;cases e
 |some k=>
  rw[hk]at e
  simp only at e ⊢
  obtain⟨k1,k2,k3⟩:=kN_inv hk
  by_cases hw:x=wPoint
  ·rw[if_pos hw]at e ⊢
   split at e
   ·cases e
   rename_i c3
   rw[if_neg c3]
   obtain⟨m1,m2⟩:=may_ext h [] [(y,k)] [] [] y hn hr (by
    unfold namesL
    simp only[List.append_nil,List.append_assoc,List.map_append,List.map_cons,List.map_nil,List.cons_append,List.nil_append]
    have:=List.perm_middle (a:=y) (l₁:=L.s++L.p.map (·.1)) (l₂:=L.g.map (·.1)++L.r.map (·.n))
    simpa only[List.append_assoc]using this)
   obtain⟨e1,e2,e3⟩:=rows_ext h [] [(y,k)] [] L.r
   simp only[List.append_nil]at m1 m2 e1 e2 e3
   have hs:=h.p
   refine⟨⟨m1,m2,h.s,by simp;omega,h.g,h.r,fun x hx=>?_,h.gi,fun x hx=>?_⟩,?_⟩
   ·rcases List.mem_append.1 hx with hx|hx
    ·exact h.pi x hx
    ·simp at hx;subst hx;exact⟨k2,k3⟩
   ·obtain⟨h1,⟨h2,h3⟩,⟨h4,h5⟩,⟨h6,h7⟩,⟨h8,h9⟩⟩:=h.ri x hx
    exact⟨h1,⟨h2,h3⟩,⟨h4,fun y hy=>by have:=h5 y hy;simp;omega⟩,⟨h6,h7⟩,⟨h8,fun y hy=>by have:=h9 y hy;simp;omega⟩⟩
   ·refine⟨L.s.map (fun x=>[secW,x])++L.p.map (fun x=>[ptW,x.1,nmAt L.s x.2]),L.g.map (fun x=>[sgW,x.1,nmAt L.s x.2])++L.r.map (roW L),?_,?_⟩
    ·unfold wsL;simp only[List.append_assoc]
    ·unfold wsL
     simp only[e3,List.map_append,List.map_cons,List.map_nil,List.append_assoc,List.cons_append,List.nil_append,k1,hw]
     rfl
  ·have hg:x=wSignal:=by rcases h0 with h0|h0;exact absurd h0 hw;exact h0
   rw[if_neg hw]at e ⊢
   split at e
   ·cases e
   rename_i c3
   rw[if_neg c3]
   obtain⟨m1,m2⟩:=may_ext h [] [] [(y,k)] [] y hn hr (by
    unfold namesL
    simp only[List.append_nil,List.append_assoc,List.map_append,List.map_cons,List.map_nil,List.cons_append,List.nil_append]
    have:=List.perm_middle (a:=y) (l₁:=L.s++(L.p.map (·.1)++L.g.map (·.1))) (l₂:=L.r.map (·.n))
    simpa only[List.append_assoc]using this)
   obtain⟨e1,e2,e3⟩:=rows_ext h [] [] [(y,k)] L.r
   simp only[List.append_nil]at m1 m2 e1 e2 e3
   have hs:=h.g
   refine⟨⟨m1,m2,h.s,h.p,by simp;omega,h.r,h.pi,fun x hx=>?_,fun x hx=>?_⟩,?_⟩
   ·rcases List.mem_append.1 hx with hx|hx
    ·exact h.gi x hx
    ·simp at hx;subst hx;exact⟨k2,k3⟩
   ·obtain⟨h1,h2⟩:=h.ri x hx
    exact⟨by simp;omega,h2⟩
   ·refine⟨L.s.map (fun x=>[secW,x])++(L.p.map (fun x=>[ptW,x.1,nmAt L.s x.2])++L.g.map (fun x=>[sgW,x.1,nmAt L.s x.2])),L.r.map (roW L),?_,?_⟩
    ·unfold wsL;simp only[List.append_assoc]
    ·unfold wsL
     simp only[e3,List.map_append,List.map_cons,List.map_nil,List.append_assoc,List.cons_append,List.nil_append,k1,hg]
     rfl
theorem route_ok{L:Ly}(h:MayL L){ws:List (List UInt8)}(h0:ws.getD 0 []=wRoute)(e:(routeP L ws).1 =0):AddL L (routeP L ws).2 ws:=by
 have hj:=groups_join ws
 have hd:=dj_of h.nd
 unfold routeP at e ⊢
 split at e
 ·rename_i g0 g1 g2 g3 g4 hg
  rw[hg]at hj
  try rw[hg]
  try simp only
  have hj:g0++[58]::(g1++[58]::(g2++[58]::(g3++[58]::g4)))=ws:=hj
  unfold routeQ at e ⊢
  split at e
  ·cases e
  rename_i c1
  split at e
  ·cases e
  rename_i c2
  rw[if_neg c1,if_neg c2]
  simp only[not_or,Decidable.not_not]at c1
  obtain⟨c10,c11,c12,c13⟩:=c1
  obtain⟨x,y,z,rfl⟩:=len3 c10
  have w0:ws.getD 0 []=x:=by rw[←hj];rfl
  have w1:ws.getD 1 []=y:=by rw[←hj];rfl
  have w2:ws.getD 2 []=z:=by rw[←hj];rfl
  rw[w1]at c11 c2
  rw[w1,w2]at e ⊢
  have hn:nameOf L y=none:=by cases hy:nameOf L y<;>simp_all
  have hr:rightB y=true:=by cases hy:rightB y<;>simp_all
  have s2:∀w∈g2,shpB w=true:=by
   have:g2.all shpB=true:=by cases hy:g2.all shpB<;>simp_all
   exact List.all_eq_true.1 this
  have s4:∀w∈g4,shpB w=true:=by
   have:g4.all shpB=true:=by cases hy:g4.all shpB<;>simp_all
   exact List.all_eq_true.1 this
  split at e
  ·rename_i s p q o f ks kp kq ko kf
   split at e
   ·cases e
   rename_i c3
   rw[if_neg c3]
   rw[hd.kg]at ks
   obtain⟨g1',gs2,gs3⟩:=gIx_inv ks
   obtain⟨p1,p2⟩:=oAll_inv (g:=nmAt L.s) (ok:=fun y=>0≤y∧y<L.s.length) (fun w hw i hi=>kN_inv hi) kp
   obtain⟨o1,o2⟩:=oAll_inv (g:=nmAt L.s) (ok:=fun y=>0≤y∧y<L.s.length) (fun w hw i hi=>kN_inv hi) ko
   obtain⟨q1,q2⟩:=oAll_inv (g:=ndW L.p) (ok:=fun y=>0≤y.1∧y.1<L.p.length) (fun w hw i hi=>nd_inv hd (s2 w hw) hi) kq
   obtain⟨f1,f2⟩:=oAll_inv (g:=ndW L.p) (ok:=fun y=>0≤y.1∧y.1<L.p.length) (fun w hw i hi=>nd_inv hd (s4 w hw) hi) kf
   obtain⟨m1,m2⟩:=may_ext h [] [] [] [⟨y,s,p,q,o,f⟩] y hn hr (by
    unfold namesL
    simp only[List.append_nil,List.append_assoc,List.map_append,List.map_cons,List.map_nil,List.cons_append,List.nil_append]
    have:=List.perm_middle (a:=y) (l₁:=L.s++(L.p.map (·.1)++(L.g.map (·.1)++L.r.map (·.n)))) (l₂:=[])
    simpa only[List.append_assoc,List.append_nil]using this)
   obtain⟨e1,e2,e3⟩:=rows_ext h [] [] [] (L.r++[⟨y,s,p,q,o,f⟩])
   simp only[List.append_nil]at m1 m2 e1 e2 e3
   have hs:=h.r
   refine⟨⟨m1,m2,h.s,h.p,h.g,by simp;omega,h.pi,h.gi,fun x hx=>?_⟩,?_⟩
   ·rcases List.mem_append.1 hx with hx|hx
    ·exact h.ri x hx
    ·simp at hx;subst hx
     exact⟨⟨gs2,by simpa using gs3⟩,⟨by simp only;omega,p2⟩,⟨by simp only;omega,q2⟩,⟨by simp only;omega,o2⟩,⟨by simp only;omega,f2⟩⟩
   ·refine⟨wsL L,[],by simp,?_⟩
    have er:roW ⟨L.s,L.p,L.g,L.r++[⟨y,s,p,q,o,f⟩]⟩ ⟨y,s,p,q,o,f⟩=ws:=by
     unfold roW
     simp only
     rw[g1',←p1,←q1,←o1,←f1,←hj,←w0,h0]
     rfl
    unfold wsL
    simp only[e3,List.map_append,List.map_cons,List.map_nil,List.append_assoc,List.cons_append,List.nil_append,er]
  ·cases e
 ·cases e
theorem lineW_ok{L:Ly}(h:MayL L)(ws:List (List UInt8))(e:(lineW L ws).1 =0):(ws=[]∧(lineW L ws).2 =L)∨AddL L (lineW L ws).2 ws:=by
 unfold lineW at e ⊢
 by_cases h0:ws.length=0
 ·rw[if_pos h0];exact .inl ⟨List.length_eq_zero_iff.1 h0,rfl⟩
 rw[if_neg h0]at e ⊢
 by_cases h1:ws.getD 0 []=wSection
 ·rw[if_pos h1]at e ⊢;exact .inr (sec_ok h h1 e)
 rw[if_neg h1]at e ⊢
 by_cases h2:ws.getD 0 []=wPoint
 ·rw[if_pos h2]at e ⊢;exact .inr (part_ok h (.inl h2) e)
 rw[if_neg h2]at e ⊢
 by_cases h3:ws.getD 0 []=wSignal
 ·rw[if_pos h3]at e ⊢;exact .inr (part_ok h (.inr h3) e)
 rw[if_neg h3]at e ⊢
 by_cases h4:ws.getD 0 []=wRoute
 ·rw[if_pos h4]at e ⊢;exact .inr (route_ok h h4 e)
 rw[if_neg h4]at e
 cases e
theorem linesT_add(pre post:List (List (List UInt8)))(ws:List (List UInt8)):(linesT (pre++ws::post)).length=(linesT (pre++post)).length+(joinB 32 ws).length+1:=by
 unfold linesT
 simp only[List.flatMap_append,List.flatMap_cons,List.length_append,List.length_cons,List.length_nil]
 omega
theorem lineP_ok{L:Ly}(h:MayL L)(l:List UInt8)(e:(lineP L l).1 =0):MayL (lineP L l).2 ∧(linesT (wsL (lineP L l).2)).length≤(linesT (wsL L)).length+l.length+1:=by
 unfold lineP at e ⊢
 by_cases ho:okW (aheadB l)=true
 ·rw[if_pos ho]at e ⊢
  have h1:=words_len (aheadB l)
  have h2:=ahead_len l
  rcases lineW_ok h _ e with⟨_,h3⟩|⟨m,pre,post,h4,h5⟩
  ·rw[h3];exact⟨h,by omega⟩
  ·refine⟨m,?_⟩
   rw[h4,h5,linesT_add];omega
 ·rw[if_neg ho]at e;cases e
theorem parseG_ok:∀(ls:List (List UInt8)) (L:Ly) (i:Nat),MayL L→(parseG lineP L ls i).2.1 =0→MayL (parseG lineP L ls i).1 ∧(linesT (wsL (parseG lineP L ls i).1)).length≤(linesT (wsL L)).length+(ls.map fun l=>l.length+1).sum
 |[],L,i,h,_=>⟨h,by simp[parseG]⟩
 |l::ls,L,i,h,e=>by
  simp only[parseG]at e ⊢
  split at e
  ·rename_i h0
   rw[if_pos h0]
   obtain⟨m,hl⟩:=lineP_ok h l h0
   obtain⟨m2,hl2⟩:=parseG_ok ls _ (i+1) m e
   refine⟨m2,?_⟩
   simp only[List.map_cons,List.sum_cons];omega
  ·rename_i h0;exact absurd e h0
theorem sum_join(c:UInt8):∀ls:List (List UInt8),ls≠[]→(ls.map fun l=>l.length+1).sum=(joinB c ls).length+1
 |[],h=>absurd rfl h
 |[t],_=>by simp[joinB]
 |t::u::r,_=>by
  have:=sum_join c (u::r) (by simp)
  show _=(t++c::joinB c (u::r)).length+1
  rw[List.map_cons,List.sum_cons,this,List.length_append,List.length_cons];omega
theorem may0:MayL ly0:=⟨by simp[namesL,ly0],by simp[namesL,ly0],by simp[ly0],by simp[ly0],by simp[ly0],by simp[ly0],by simp[ly0],by simp[ly0],by simp[ly0]⟩
theorem parse_may{s:List UInt8}(e:(parseP s).2.1 =0):mayB (parseP s).1 =true∧(printT (parseP s).1).length≤s.length+1:=by
 unfold parseP at e ⊢
 by_cases hl:16384<s.length
 ·rw[if_pos hl]at e;cases e
 rw[if_neg hl]at e ⊢
 obtain⟨m,h⟩:=parseG_ok (splitB 10 s) ly0 0 may0 e
 rw[sum_join 10 _ (Go.AM.splitB_ne 10 s),join_split]at h
 refine⟨l_may m,?_⟩
 rw[print_lines]
 have:(linesT (wsL ly0)).length=0:=rfl
 omega
end Go.AM.Fd

namespace Go.AM.Fd
open Nat (reduceAdd reduceEqDiff reduceLT reduceLeDiff reduceMul reduceSub)
open Go.Proofs Go.AM.F Go.AM.Ky
theorem prV_ok{L:Ly}(h:mayB L=true)(hl:(printT L).length≤16384):prV L=.tuple #[.string ⟨(printT L).toArray⟩,.int .i64 0]:=by
 unfold prV;rw[if_pos h,if_pos hl]
theorem prV_no{L:Ly}(h:¬(mayB L=true∧(printT L).length≤16384)):∃e:Int,e≠0∧prV L=.tuple #[.string ⟨([]:List UInt8).toArray⟩,.int .i64 e]:=by
 unfold prV
 by_cases h1:mayB L=true
 ·by_cases h2:(printT L).length≤16384
  ·exact absurd ⟨h1,h2⟩ h
  ·rw[if_pos h1,if_neg h2];exact⟨3,by decide,rfl⟩
 ·rw[if_neg h1];exact⟨2,by decide,rfl⟩
def BM(A S:Value)(H:AHeap)(u:V4)(fr:List Value)(K:AHeap):Prop:=
 ∃(x4 x5 x6 x7 x8 x9 x10 x11 x12 x13 x14 x15 x16 x17 x18:Value),fr=[S,A,ptr H.n 0,.bool false,x4,x5,x6,x7,x8,x9,x10,x11,x12,x13,x14,x15,x16,x17,x18]∧Keeps (vB H u) K
theorem parse_fit(s:List UInt8):LyIn 9223372036854775807 (parseP s).1 :=by rw[eq_parse];exact(parseD_fit s).in_
set_option maxHeartbeats 4000000 in
theorem tBackL{H:AHeap}{s:List UInt8}{u:V4}{xs:List RV}{L:Ly}(hs:s.length≤9223372036854775807)(hl:LyR H u xs L)(hi:LyIn 9223372036854775807 L):∃w H',ARun Tryz.prog 4 6 [.string ⟨s.toArray⟩,.agg u.l.toArray] H w H'∧w=.bool true:=by
 refine walk2 f6_ok f6_n ?_
 intro Q hq1 hq2
 have kv:=vB_k H u
 have hv:=hl.keeps kv
 have gv:=vB_g H u
 have ho:=ly_ones hl
 have ll:u.l.length=4:=rfl
 have eq1:∀n:Int,(n==n)=true:=fun n=>beqi_yes rfl
 refine W_part 4 (BM (.agg u.l.toArray) (.string ⟨s.toArray⟩) H u) (by kernel_rfl) ?_ (fun fr K m=>?_)
 ·intro Q' a _ b
  have ret:∀(fr:List Value) (K:AHeap),fr.getD 3 undef=.bool true→Q' .ret fr K:=fun fr K e=>b _ _ (hq2 _ _ ⟨.bool true,by show some (tupV [fr.getD 3 undef])=_;rw[e];rfl,rfl⟩)
  by_cases e1:(1500:Int)<((s.length:Nat):Int)
  ·simp(disch:=first|assumption|omega)only[f6,cpre,W_block,P3,seval,initFr,clsA,ho,ll,a_lens]
   refine callK (t10 _) ?_
   rintro _ K ⟨rfl,k⟩
   simp(disch:=first|assumption|omega)only[W_block,P3,seval,initFr,clsA]
   exact ret _ _ rfl
  have hg:=gv
  unfold vB at hg
  simp(disch:=first|assumption|omega)only[f6,cpre,W_block,P3,seval,initFr,clsA,ho,ll,a_lens]
  refine callK (t16 (top:=1500) (by omega) hv hi) ?_
  rintro _ X ⟨⟨n,rfl⟩,hX⟩
  rw[hX]
  by_cases hn:(1500:Int)<n
  ·simp(disch:=first|assumption|omega)only[W_block,P3,seval,initFr,clsA]
   refine callK (t10 _) ?_
   rintro _ K ⟨rfl,k⟩
   simp(disch:=first|assumption|omega)only[W_block,P3,seval,initFr,clsA]
   exact ret _ _ rfl
  simp(disch:=first|assumption|omega)only[W_block,P3,seval,initFr,clsA]
  refine callK (t13 _ s) ?_
  rintro _ K1 ⟨k1,u1,xs1,rfl,y1⟩
  have o1:=ly_ones y1
  have l1:u1.l.length=4:=rfl
  have hfit:=parse_fit s
  have hpm:=parse_may (s:=s)
  simp(disch:=first|assumption|omega|(simp only[LN]<;>omega)|(simp(disch:=first|assumption|omega|(simp only[LN]<;>omega))only[row_alloc,row_set];assumption))only[W_block,P3,seval,initFr,clsA,o1,l1]
  have g2:(K1.alloc (.cells true false 4 u1.l 30)).get K1.n=some (.cells true false 4 u1.l 30):=AHeap.get_alloc_new _ _
  have kk1:Keeps K1 (K1.alloc (.cells true false 4 u1.l 30)):=(Keeps.refl K1).alloc _
  have kk:Keeps (vB H u) (K1.alloc (.cells true false 4 u1.l 30)):=k1.trans kk1
  have y2:=y1.keeps kk1
  by_cases he:(parseP s).2.1 =0
  ·have hb:((parseP s).2.1 ==0)=true:=by simpa using he
   obtain⟨hm,hpl⟩:=hpm he
   have hpl2:(printT (parseP s).1).length≤16384:=by omega
   have hpr:=prV_ok hm hpl2
   have hpp:=parse_print hm hpl2
   generalize parseP s=r at*
   generalize K1.alloc (.cells true false 4 u1.l 30)=K2 at*
   simp(disch:=first|assumption|omega|(simp only[LN]<;>omega)|(simp(disch:=first|assumption|omega|(simp only[LN]<;>omega))only[row_alloc,row_set];assumption))only[W_block,P3,↓reduceIte,reduceAdd,reduceEqDiff,reduceCtorEq,initFr,reduceLT,clsA,reduceLeDiff,reduceMul,reduceSub,reduceIte,hb,g2,l1]
   refine callK (lPrintA y2 hfit) ?_
   rintro _ X ⟨rfl,hX⟩
   rw[hX,hpr]
   simp(disch:=first|assumption|omega)only[W_block,P3,seval,initFr,clsA]
   refine callK (t13 _ (printT r.1)) ?_
   rintro _ K3 ⟨k3,u3,xs3,rfl,y3⟩
   rw[hpp]at y3 ⊢
   have o3:=ly_ones y3
   have l3:u3.l.length=4:=rfl
   simp(disch:=first|assumption|omega|(simp only[LN]<;>omega)|(simp(disch:=first|assumption|omega|(simp only[LN]<;>omega))only[row_alloc,row_set];assumption))only[W_block,P3,seval,initFr,clsA,o3,l3]
   have kk3:Keeps K3 (K3.alloc (.cells true false 4 u3.l 30)):=(Keeps.refl K3).alloc _
   have g3:(K3.alloc (.cells true false 4 u3.l 30)).get K3.n=some (.cells true false 4 u3.l 30):=AHeap.get_alloc_new _ _
   have g4:=(k3.trans kk3).at_ g2
   have y4:=y2.keeps (k3.trans kk3)
   have y5:=y3.keeps kk3
   have kk5:=kk.trans (k3.trans kk3)
   generalize K3.alloc (.cells true false 4 u3.l 30)=K4 at*
   simp(disch:=first|assumption|omega|(simp only[LN]<;>omega)|(simp(disch:=first|assumption|omega|(simp only[LN]<;>omega))only[row_alloc,row_set];assumption))only[W_block,P3,↓reduceIte,reduceAdd,reduceEqDiff,reduceCtorEq,initFr,reduceLT,clsA,reduceLeDiff,reduceMul,reduceSub,reduceIte,g4,l1]
   refine callK (lMayA y4 hfit) ?_
   rintro _ X ⟨rfl,hX⟩
   rw[hX,hm]
   have z0:((0:Int) != 0)=false:=rfl
   simp(disch:=first|assumption|omega)only[W_block,P3,seval,initFr,clsA,g3,g4,l1,l3,z0]
   refine callK (t15 y4 y5 hfit) ?_
   rintro _ K5 ⟨rfl,k5⟩
   simp(disch:=first|assumption|omega)only[W_block,P3,seval,initFr,clsA]
   exact a _ _ ⟨_,_,_,_,_,_,_,_,_,_,_,_,_,_,_,rfl,kk5.trans k5⟩
  ·have hb:((parseP s).2.1 ==0)=false:=by simpa using he
   simp(disch:=first|assumption|omega)only[W_block,P3,seval,initFr,clsA,hb]
   exact a _ _ ⟨_,_,_,_,_,_,_,_,_,_,_,_,_,_,_,rfl,kk⟩
 ·obtain⟨x4,x5,x6,x7,x8,x9,x10,x11,x12,x13,x14,x15,x16,x17,x18,rfl,hkK⟩:=m
  have gl:=hkK.at_ gv
  have hK:=hv.keeps hkK
  by_cases hp:mayB L=true∧(printT L).length≤16384
  ·have hpr:=prV_ok hp.1 hp.2
   have hpp:=parse_print hp.1 hp.2
   have z0:((0:Int) != 0)=false:=rfl
   simp(disch:=first|assumption|omega)only[f6,cpost,W_block,P3,seval,initFr,clsA,gl,ll]
   refine callK (lPrintA hK hi) ?_
   rintro _ X ⟨rfl,hX⟩
   rw[hX,hpr]
   simp(disch:=first|assumption|omega)only[W_block,P3,seval,initFr,clsA,z0]
   refine callK (t13 _ (printT L)) ?_
   rintro _ K3 ⟨k3,u3,xs3,rfl,y3⟩
   rw[hpp]at y3 ⊢
   have o3:=ly_ones y3
   have l3:u3.l.length=4:=rfl
   simp(disch:=first|assumption|omega|(simp only[LN]<;>omega)|(simp(disch:=first|assumption|omega|(simp only[LN]<;>omega))only[row_alloc,row_set];assumption))only[W_block,P3,seval,initFr,clsA,o3,l3]
   have kk3:Keeps K3 (K3.alloc (.cells true false 4 u3.l 30)):=(Keeps.refl K3).alloc _
   have g3:(K3.alloc (.cells true false 4 u3.l 30)).get K3.n=some (.cells true false 4 u3.l 30):=AHeap.get_alloc_new _ _
   have g4:=(k3.trans kk3).at_ gl
   have y4:=hK.keeps (k3.trans kk3)
   have y5:=y3.keeps kk3
   generalize K3.alloc (.cells true false 4 u3.l 30)=K4 at*
   simp(disch:=first|assumption|omega|(simp only[LN]<;>omega)|(simp(disch:=first|assumption|omega|(simp only[LN]<;>omega))only[row_alloc,row_set];assumption))only[W_block,P3,↓reduceIte,reduceAdd,reduceEqDiff,reduceCtorEq,initFr,reduceLT,clsA,reduceLeDiff,reduceMul,reduceSub,reduceIte,g3,g4,ll,l3,eq1]
   refine callK (t15 y4 y5 hi) ?_
   rintro _ K5 ⟨rfl,k5⟩
   simp(disch:=first|assumption|omega)only[W_block,P3,seval,initFr,clsA]
   refine callK (t10 _) ?_
   rintro _ X2 ⟨rfl,k6⟩
   simp(disch:=first|assumption|omega)only[W_block,P3,seval,initFr,clsA]
   exact hq2 _ _ ⟨_,rfl,rfl⟩
  ·obtain⟨e,he,hpr⟩:=prV_no hp
   have hb:(e != 0)=true:=by simpa using he
   have es:=b_eqS [] []
   rw[decide_eq_true rfl]at es
   simp(disch:=first|assumption|omega)only[f6,cpost,W_block,P3,seval,initFr,clsA,gl,ll]
   refine callK (lPrintA hK hi) ?_
   rintro _ X ⟨rfl,hX⟩
   rw[hX,hpr]
   simp(disch:=first|assumption|omega)only[W_block,P3,seval,initFr,clsA,hb,es]
   refine callK (t10 _) ?_
   rintro _ X2 ⟨rfl,k6⟩
   simp(disch:=first|assumption|omega)only[W_block,P3,seval,initFr,clsA]
   exact hq2 _ _ ⟨_,rfl,rfl⟩
end Go.AM.Fd
