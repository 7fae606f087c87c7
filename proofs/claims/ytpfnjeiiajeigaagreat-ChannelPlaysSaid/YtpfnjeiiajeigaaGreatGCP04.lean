/- Part of the proof. -/
import Derived.Test.YtpfnjeiiajeigaaGreatGCP03
set_option linter.unusedSimpArgs false
set_option linter.unusedVariables false
set_option maxRecDepth 8000
namespace Go.AM.Fd
open Nat (reduceAdd reduceEqDiff reduceLT reduceLeDiff reduceMul reduceSub)
open Go.Proofs Go.AM.F
structure SZ (H:Aaa) (z:Nat) (v:Value) (rows:List (List Value)):Prop where
 s:Sl H z v rows
 b:∀b,blk v=some b→∃o r c T,H.get b=some (.cells o r z c T)
theorem SZ.chg{H K:Aaa}{z:Nat}{v:Value}{rows:List (List Value)}{S:List Nat}(h:SZ H z v rows)(k:Chg S H K)(hS:∀b∈S,∀o r c T,H.get b≠some (.cells o r z c T)):SZ K z v rows:=by
 have hn:∀b,blk v=some b→b∉S:=fun b hb hm=>by
  obtain⟨o,r,c,T,g⟩:=h.b b hb
  exact hS b hm o r c T g
 refine⟨Sl.chg h.s k hn,fun b hb=>?_⟩
 obtain⟨o,r,c,T,g⟩:=h.b b hb
 exact⟨o,r,c,T,k.at_ g (hn b hb)⟩
theorem SZ.keeps{H K:Aaa}{z:Nat}{v:Value}{rows:List (List Value)}(h:SZ H z v rows)(k:Aac H K):SZ K z v rows:=h.chg (k.chg []) (by simp)
theorem SZ.set{H:Aaa}{z y:Nat}{v:Value}{rows:List (List Value)}{b:Nat}{o r:Bool}{c:List Value}{T:Nat}(h:SZ H z v rows)(g:H.get b=some (.cells o r y c T))(hz:y≠z)(x:AO):SZ (H.set b x) z v rows:=
 h.chg (Chg.set H (Aaa.Bp9 g) x) fun b' hb o' r' c' T' g'=>by
  simp only[List.mem_cons,List.not_mem_nil,or_false]at hb
  subst hb;rw[g]at g';injection g' with g';injection g' with _ _ e;exact hz e
theorem _root_.Go.AM.OW.other{e y z:Nat}{H K:Aaa}{v:Value}{rows:List (List Value)}(h:OW e y H K v rows)(hz:y≠z):∀b∈Ahm v,∀o r c T,K.get b≠some (.cells o r z c T):=by
 intro b hb o r c T g
 rw[Abo]at hb
 rcases h.ap with⟨rfl,_,_⟩|⟨b',room,rfl,_,h2⟩
 ·cases hb
 ·cases hb;rw[h2]at g;injection g with g;injection g with _ _ e;exact hz e
theorem WRr.sz{H:Aaa}{e z:Nat}{v:Value}{rows:List (List Value)}(h:WRr H e z v rows):SZ H z v rows:=by
 refine⟨h.sl,fun b hb=>?_⟩
 rcases h.1 with⟨rfl,_,_⟩|⟨b',k,room,d,rfl,_,_,_,g⟩
 ·cases hb
 ·cases hb;exact⟨_,_,_,_,g⟩
theorem _root_.Go.AM.OW.sz{e z:Nat}{H K:Aaa}{v:Value}{rows:List (List Value)}(h:OW e z H K v rows):SZ K z v rows:=by
 refine⟨h.sl,fun b hb=>?_⟩
 rcases h.ap with⟨rfl,_,_⟩|⟨b',room,rfl,_,h2⟩
 ·cases hb
 ·cases hb;exact⟨_,_,_,_,h2⟩
structure V3 where
 t:Value
 n:Value
 c:Value
def Ai7(L:Ly)(i:Nat)(a:V3):List Value:=[.int .i64 ((ro L i).path.getD 0 0),.int .i64 (L.g.getD (ro L i).g.toNat ([],0)).2,a.t,a.n,a.c]
structure AOk (H:Aaa) (L:Ly) (i:Nat) (a:V3):Prop where
 t:SZ H 1 a.t ((trk (ro L i)).map Agw)
 n:SZ H 2 a.n ((nds (ro L i)).map Afq)
 c:SZ H 1 a.c ((cfl L i L.r.length).map Agw)
theorem AOk.keeps{H K:Aaa}{L:Ly}{i:Nat}{a:V3}(h:AOk H L i a)(k:Aac H K):AOk K L i a:=⟨h.t.keeps k,h.n.keeps k,h.c.keeps k⟩
theorem AOk.chg{H K:Aaa}{L:Ly}{i y:Nat}{a:V3}{S:List Nat}(h:AOk H L i a)(k:Chg S H K)(hS:∀z,y≠z→∀b∈S,∀o r c T,H.get b≠some (.cells o r z c T))(hy:2<y):AOk K L i a:=
 ⟨h.t.chg k (hS 1 (by omega)),h.n.chg k (hS 2 (by omega)),h.c.chg k (hS 1 (by omega))⟩
theorem AOk.set{H:Aaa}{L:Ly}{i:Nat}{a:V3}{b:Nat}{o r:Bool}{c:List Value}{T:Nat}(h:AOk H L i a)(g:H.get b=some (.cells o r 4 c T))(x:AO):AOk (H.set b x) L i a:=
 ⟨h.t.set g (by omega) x,h.n.set g (by omega) x,h.c.set g (by omega) x⟩
def Adx(L:Ly)(ls:Nat→V3)(n:Nat):List (List Value):=(List.range n).map fun i=>Ai7 L i (ls i)
theorem A6j(L:Ly)(ls:Nat→V3)(n:Nat)(a:V3):Adx L (fun j=>if j=n then a else ls j) (n+1)=Adx L ls n++[Ai7 L n a]:=by
 unfold Adx
 rw[List.range_succ,List.map_append]
 congr 1
 ·exact List.map_congr_left fun i hi=>by
   have:=List.mem_range.1 hi
   show Ai7 L i (if i=n then a else ls i)=_
   rw[if_neg (by omega)]
 ·simp
def amc(L:Ly)(vl vi:Value):List Value:=[vl,vi,.int .i64 ((L.s.length:Nat):Int),S32 (Aby (L.p.length:Nat))]
def MaX(H:Aaa)(b:Nat)(L:Ly):Prop:=∃vl vi ls own room T,H.get b=some (.cells own room 4 (amc L vl vi) T)∧Sl H 5 vl (Adx L ls L.r.length)∧(∀i,i<L.r.length→AOk H L i (ls i))∧IL H vi (L.p.map (·.2))
structure MaA (H:Aaa) (b:Nat) (L:Ly):Prop where
 x:MaX H b L
 z:∀S K,Chg S H K→(∀z,z=1∨z=2∨z=4∨z=5→∀b∈S,∀o r c T,H.get b≠some (.cells o r z c T))→MaX K b L
theorem MaA.chg{H K:Aaa}{b:Nat}{L:Ly}{S:List Nat}(h:MaA H b L)(k:Chg S H K)(hS:∀z,z=1∨z=2∨z=4∨z=5→∀b∈S,∀o r c T,H.get b≠some (.cells o r z c T)):MaA K b L:=by
 refine⟨h.z S K k hS,fun S' K' k' hS'=>h.z (S++S') K' ((k.mono (T:=S++S') (fun x h=>List.mem_append_left _ h)).trans (k'.mono (T:=S++S') (fun x h=>List.mem_append_right _ h)) (fun x h=>.inl h)) fun z hz c hc o r C T g=>?_⟩
 by_cases hm:c∈S
 ·exact hS z hz c hm o r C T g
 ·rcases List.mem_append.1 hc with hc|hc
  ·exact hm hc
  ·exact hS' z hz c hc o r C T (k.at_ g hm)
theorem MaA.keeps{H K:Aaa}{b:Nat}{L:Ly}(h:MaA H b L)(k:Aac H K):MaA K b L:=h.chg (k.chg []) (fun _ _ b hb=>by cases hb)
theorem MaA.of{H:Aaa}{b:Nat}{L:Ly}{vl vi:Value}{ls:Nat→V3}{own room:Bool}{T:Nat}(g:H.get b=some (.cells own room 4 (amc L vl vi) T))(s:SZ H 5 vl (Adx L ls L.r.length))(a:∀i,i<L.r.length→AOk H L i (ls i))(i:SZ H 1 vi ((L.p.map (·.2)).map Agw)):MaA H b L:=by
 refine⟨⟨vl,vi,ls,own,room,T,g,s.s,a,i.s⟩,fun S K k hS=>⟨vl,vi,ls,own,room,T,k.at_ g (fun hm=>hS 4 (by omega) b hm _ _ _ _ g),(s.chg k (hS 5 (by omega))).s,fun j hj=>?_,(i.chg k (hS 1 (by omega))).s⟩⟩
 have:=a j hj
 exact⟨this.t.chg k (hS 1 (by omega)),this.n.chg k (hS 2 (by omega)),this.c.chg k (hS 1 (by omega))⟩
theorem Bmy{x y:Int}{c d e:Value}(hc:isS c=true)(hd:isS d=true)(he:isS e=true):Aa4 [.int .i64 0,.int .i64 0,.slice none 0 0,.slice none 0 0,.slice none 0 0] [(0,1,.int .i64 x),(1,1,.int .i64 y),(2,1,c),(3,1,d),(4,1,e)]=some [.int .i64 x,.int .i64 y,c,d,e]:=by
 cases c with
 |slice p n k=>cases d with
  |slice q m j=>cases e with
   |slice q m j=>rfl
   |_=>cases he
  |_=>cases hd
 |_=>cases hc
theorem Bf5(a b c d e:Value):Aa4 [.int .i64 0,.int .i64 0,.slice none 0 0,.slice none 0 0,.slice none 0 0] [(0,5,.agg #[a,b,c,d,e])]=some [a,b,c,d,e]:=rfl
theorem Bf6(n:Int):Aa4 [.slice none 0 0,.slice none 0 0,.int .i64 0,.int .u32 0] [(2,1,.int .i64 n)]=some [.slice none 0 0,.slice none 0 0,.int .i64 n,.int .u32 0]:=rfl
set_option maxHeartbeats 4000000 in
theorem t10{H:Aaa}{u:V4}{xs:List RV}{L:Ly}(h:LyR H u xs L)(hf:Aih 9223372036854775807 L)(he:Aar L=0):
 ∃w H',Aau Tryz.prog 0 10 [.agg u.l.toArray] H w H'∧Aac H H'∧∃b,w=.tuple #[ptr b 0,.int .i64 0]∧MaA H' b L:=by
 refine Aaq Az4 Bcw ?_
 intro Q hq1 hq2
 have os:=Sl.one h.s
 have op:=Sl.one h.p
 have og:=Sl.one h.g
 have or:=Sl.one h.r
 have is:=Sl.is h.s
 have ip:=Sl.is h.p
 have ig:=Sl.is h.g
 have ir:=Sl.is h.r
 have hul:u.l=[u.s,u.p,u.g,u.r]:=rfl
 have hmay:=Aav he
 have hL:=Aa8 hmay
 have hLs:=hL.s
 have hLp:=hL.p
 have hLg:=hL.g
 have hLr:=hL.r
 have hrl:=h.rlen
 have lr:=h.r.len
 have ls_:=h.s.len
 have lp:=h.p.len
 have lg:=h.g.len
 rw[hrl]at lr
 obtain⟨K0,hK0⟩:∃X,X=H.alloc (.cells true false 4 [u.s,u.p,u.g,u.r] 27):=⟨_,rfl⟩
 have k0:Aac H K0:=by rw[hK0];exact(Aac.refl H).alloc _
 have n0:K0.n=H.n+1:=by rw[hK0];rfl
 have gl0:K0.get H.n=some (.cells true false 4 [u.s,u.p,u.g,u.r] 27):=by rw[hK0];exact Aaa.Bp6 H _
 have tC:=t30 (h.keeps k0) hf
 simp only[hul]at tC ⊢
 simp(disch:=first|assumption|omega|(simp only[LN]<;>omega)|(simp(disch:=first|assumption|omega|(simp only[LN]<;>omega))only[Aab,Aad];assumption))only[f10,P4,seval,os,op,og,or]
 simp only[←hK0]
 refine Aag tC ?_
 rintro _ X ⟨hX,ie,rfl⟩
 rw[hX,he]
 obtain⟨K1,hK1⟩:∃X,X=K0.alloc (.cells true false 4 [.slice none 0 0,.slice none 0 0,.int .i64 ((L.s.length:Nat):Int),.int .u32 0] 102):=⟨_,rfl⟩
 have k1:Aac K0 K1:=by rw[hK1];exact(Aac.refl K0).alloc _
 have n1:K1.n=H.n+2:=by rw[hK1];show K0.n+1=_;omega
 have gm1:K1.get (H.n+1)=some (.cells true false 4 [.slice none 0 0,.slice none 0 0,.int .i64 ((L.s.length:Nat):Int),.int .u32 0] 102):=by rw[hK1,←n0];exact Aaa.Bp6 K0 _
 have gl1:=k1.at_ gl0
 simp(disch:=first|assumption|omega)only[P3,seval,Aak,Aat,gl0,ls_,is,lr,ir,Bf6]
 rw[←hK1,Aah,n0]
 have hA:=(h.keeps k0).keeps k1
 refine Aan (fun q fr M=>∃i vl x6 x7 x14,fr=[.agg #[u.s,u.p,u.g,u.r],ptr H.n 0,.pointer none,.int .i64 0,.int .i64 0,ptr (H.n+1) 0,x6,x7,undef,undef,.bool false,u.r,.int .i64 ((L.r.length:Nat):Int),.int .i64 ((i:Nat):Int),x14,undef,undef,undef,undef]∧
  Chg [H.n+1] K1 M∧M.get (H.n+1)=some (.cells true false 4 [vl,.slice none 0 0,.int .i64 ((L.s.length:Nat):Int),.int .u32 0] 102)∧
  (∃as_,OW 107 5 K0 M vl (Adx L as_ i)∧∀j,j<i→AOk M L j (as_ j))∧i≤L.r.length∧q=L.r.length-i) L.r.length
  ⟨0,_,_,_,_,rfl,Chg.refl _ _,gm1,⟨fun _=>⟨undef,undef,undef⟩,OW.nil _ _ k1,fun j hj=>absurd hj (by omega)⟩,by omega,rfl⟩ ?_
 rintro Q' q fr M ⟨i,vl,x6,x7,x14,rfl,km,gm,⟨as_,ow,ok⟩,hi,rfl⟩ hn' hx' hret
 have gl2:=km.at_ gl1 (by simp)
 by_cases hlt:i<L.r.length
 ·obtain⟨hyr,hyo⟩:=Agn h (i:=i) hlt
  have hHM:Aac H M:=(k0.trans k1).Bqa km (by simp)
  have hM:=h.keeps hHM
  obtain⟨na,ra⟩:=hM.r.at_ (i:=i) (by omega)
  have hgood:=Aa2 he (List.getElem_mem hlt)
  rw[←Ac4 hlt,←hyr]at hgood
  have arw:∀a:V3,Ai7 L i a=[.int .i64 ((ro L i).path.getD 0 0),.int .i64 (L.g.getD (ro L i).g.toNat ([],0)).2,a.t,a.n,a.c]:=fun a=>rfl
  rw[←hyr]at arw
  have mkA:∀{K:Aaa} {a:V3},SZ K 1 a.t ((trk (xs.getD i rv0).r).map Agw)→SZ K 2 a.n ((nds (xs.getD i rv0).r).map Afq)→SZ K 1 a.c ((cfl L i L.r.length).map Agw)→AOk K L i a:=fun h1 h2 h3=>⟨by rw[←hyr];exact h1,by rw[←hyr];exact h2,h3⟩
  generalize xs.getD i rv0=y at*
  have hlim:=hgood.lim
  have lP:=hlim.p
  have lO:=hlim.o
  have lQ:=hlim.q
  have lF:=hlim.f
  have h0:(0:Int)≤(i:Int):=by omega
  have h1:(i:Int)<((L.r.length:Nat):Int):=by omega
  have hw:IntKind.i64.wrap ((i:Int)+1)=((i+1:Nat):Int):=by rw[Aae (by omega) (by omega)];simp
  have rowy:y.row=[.string ⟨y.r.n.toArray⟩,.int .i64 y.r.g,y.vp,y.vq,y.vo,y.vf]:=rfl
  obtain⟨a3,a4,a5,a6⟩:=RV.ones hyo
  have a1:one1 (Value.int .i64 y.r.g)=True:=by simp[one1,Aax]
  have a2:one1 (Value.string ⟨y.r.n.toArray⟩)=True:=by simp[one1,Abe]
  obtain⟨M1,hM1⟩:∃X,X=M.alloc (.cells true false 6 y.row 87):=⟨_,rfl⟩
  have m1:M1.n=M.n+1:=by rw[hM1];rfl
  have kM1:Aac M M1:=by rw[hM1];exact(Aac.refl M).alloc _
  have gy1:M1.get M.n=some (.cells true false 6 y.row 87):=by rw[hM1];exact Aaa.Bp6 M _
  have gm1':=kM1.at_ gm
  have gl3:=kM1.at_ gl2
  have hHM1:=hHM.trans kM1
  have yo1:=hyo.keeps hHM1
  have tTr:=t31 yo1 (by omega)
  -- what is read ahead of the calls
  have iy:=Sl.is hyo.p
  have lpt:=hyo.p.len
  obtain⟨nap,rap1⟩:=yo1.p.at_ (i:=0) hgood.ne
  have p0:(0:Int)<((y.r.path.length:Nat):Int):=by have:=hgood.ne;omega
  have q1:=Af8 rap1
  obtain⟨n,hn⟩:∃n:Nat,y.r.g=(n:Int):=⟨y.r.g.toNat,by have:=hlim.g.1;omega⟩
  have hnl:n<L.g.length:=by have:=hlim.g.2;omega
  obtain⟨nag,rag1⟩:=(h.g.keeps hHM1).at_ hnl
  have q5:=Af8 rag1
  have g0:(0:Int)≤(n:Int):=by omega
  have g1:(n:Int)<((L.g.length:Nat):Int):=by omega
  have t0:Int.toNat 0=0:=rfl
  have b1:=Aaa.Bp9 gm1'
  have b2:=Aaa.Bp9 gy1
  have b3:=Aaa.Bp9 gl3
  simp only[rowy]at ra hM1 gy1 tTr
  simp(disch:=first|assumption|omega)only[P3,seval,Aak,Aat,h1]
  rw[Aah]
  simp(disch:=first|assumption|omega|(simp only[LN]<;>omega)|(simp(disch:=first|assumption|omega|(simp only[LN]<;>omega))only[Aab,Aad];assumption))only[P3,seval,Aak,Aat,lr,ra,na,Aai,a1,a2,a3,a4,a5,a6]
  rw[←hM1]
  simp(disch:=first|assumption|omega|(simp only[LN]<;>omega)|(simp(disch:=first|assumption|omega|(simp only[LN]<;>omega))only[Aab,Aad];assumption))only[P3,seval,Aak,Aat,gm1',gl3,gy1,iy,lpt,nap,rap1,p0,t0,Aal,nag,rag1,g0,g1,ig,lg,hn,q1,q5,b1,b2,b3]
  simp only[hn]at gy1 tTr
  refine Aag tTr ?_
  rintro tv M2 ⟨htv,kM2,ftv⟩
  have gy2:=kM2.at_ gy1
  have gm2':=kM2.at_ gm1'
  have gl4:=kM2.at_ gl3
  have c1:=kM2.get _ q1
  have c2:=kM2.get _ q5
  have m2:=kM2.n
  have l1:=Aaa.Bp9 gm2'
  have l2:=Aaa.Bp9 gy2
  have l3:=Aaa.Bp9 gl4
  have l4:bn y.vp-1<M2.n:=by omega
  have l5:bn u.g-1<M2.n:=by omega
  simp(disch:=first|assumption|omega|(simp only[LN]<;>omega)|(simp(disch:=first|assumption|omega|(simp only[LN]<;>omega))only[Aab,Aad];assumption))only[P3,seval,Aak,Aat,gy1,gy2,gm1',gm2',gl3,gl4,c1,c2,l1,l2,l3,l4,l5,q1,q5,b1,b2,b3]
  have tN:=t32 (yo1.keeps kM2) (by omega)
  simp only[rowy,hn]at tN
  refine⟨by simp,Aag tN ?_⟩
  rintro nv M3 ⟨hnv,kM3,fnv⟩
  have gy3:=kM3.at_ gy2
  have gm3':=kM3.at_ gm2'
  have gl5:=kM3.at_ gl4
  have c3:=kM3.get _ l4
  have c4:=kM3.get _ l5
  have m3:=kM3.n
  have o1:=Aaa.Bp9 gm3'
  have o2:=Aaa.Bp9 gy3
  have o3:=Aaa.Bp9 gl5
  have o4:bn y.vp-1<M3.n:=by omega
  have o5:bn u.g-1<M3.n:=by omega
  have tO:=t33 (((h.keeps hHM1).keeps kM2).keeps kM3) he hf hlt
  simp only[hul]at tO
  simp(disch:=first|assumption|omega|(simp only[LN]<;>omega)|(simp(disch:=first|assumption|omega|(simp only[LN]<;>omega))only[Aab,Aad];assumption))only[P3,seval,Aak,Aat,gy1,gy2,gy3,gm1',gm2',gm3',gl3,gl4,gl5,c1,c2,c3,c4,l1,l2,l3,l4,l5,q1,q5,b1,b2,b3,o1,o2,o3,o4,o5]
  refine⟨by simp,Aag tO ?_⟩
  rintro cv M4 owc
  have kM4:=owc.k
  have gy4:=kM4.at_ gy3
  have gm4':=kM4.at_ gm3'
  have gl6:=kM4.at_ gl5
  have d3:=kM4.get _ o4
  have d4:=kM4.get _ o5
  have m4:=kM4.n
  have r1:=Aaa.Bp9 gm4'
  have r2:=Aaa.Bp9 gy4
  have r3:=Aaa.Bp9 gl6
  have r4:bn y.vp-1<M4.n:=by omega
  have r5:bn u.g-1<M4.n:=by omega
  have fL:=Bmy (x:=y.r.path.getD 0 0) (y:=(L.g.getD n ([],0)).2) (Sl.is htv.sl) (Sl.is hnv.sl) owc.is
  have w1:=Sl.one htv.sl
  have w2:=Sl.one hnv.sl
  have w3:=owc.one
  have w4:=Aas (Sl.is htv.sl)
  have w5:=Aas (Sl.is hnv.sl)
  have w6:=Aas owc.is
  have isv:=ow.is
  simp(disch:=first|assumption|omega)only[P3,seval,Aak,Aat,gy1,gy2,gy3,gy4,gm1',gm2',gm3',gm4',gl3,gl4,gl5,gl6,c1,c2,c3,c4,d3,d4,l1,l2,l3,l4,l5,q1,q5,b1,b2,b3,o1,o2,o3,o4,o5,r1,r2,r3,r4,r5,fL,Bf5,w1,w2,w3,w4,w5,w6,isv]
  have kMB:=(((kM1.trans kM2).trans kM3).trans kM4).alloc (.cells true false 5 [.int .i64 (y.r.path.getD 0 0),.int .i64 (L.g.getD n ([],0)).2,tv,nv,cv] 107)
  have owB:=ow.keeps kMB
  have bv:=ow.sep gm (by omega)
  have lvl:=ow.len
  have lar:(Adx L as_ i).length=i:=by simp[Adx]
  refine⟨by simp,OW.appD owB (Sl.one1 (row:=[.int .i64 (y.r.path.getD 0 0),.int .i64 (L.g.getD n ([],0)).2,tv,nv,cv]) rfl rfl) (by simp[lar];omega) ?_⟩
  intro v' K' ow' c'
  have gmK:=c'.at_ (kMB.at_ gm) (Ahc bv)
  have hbK:=Aaa.Bp9 gmK
  have bv':=ow'.sep gmK (by omega)
  have ov':=ow'.one
  simp(disch:=first|assumption|omega)only[P4,seval,gmK,hbK,ov',hw,h1]
  have kTB:Aac M2 (M4.alloc (.cells true false 5 [.int .i64 (y.r.path.getD 0 0),.int .i64 (L.g.getD n ([],0)).2,tv,nv,cv] 107)):=(kM3.trans kM4).alloc _
  have kNB:Aac M3 (M4.alloc (.cells true false 5 [.int .i64 (y.r.path.getD 0 0),.int .i64 (L.g.getD n ([],0)).2,tv,nv,cv] 107)):=kM4.alloc _
  have oth:=fun z (hz:5≠z)=>owB.other hz
  have new:AOk (M4.alloc (.cells true false 5 [.int .i64 (y.r.path.getD 0 0),.int .i64 (L.g.getD n ([],0)).2,tv,nv,cv] 107)) L i ⟨tv,nv,cv⟩:=mkA (htv.sz.keeps kTB) (hnv.sz.keeps kNB) (owc.sz.keeps ((Aac.refl M4).alloc _))
  have cK:Chg [H.n+1] K1 K':=(km.trans (kMB.chg [H.n+1]) (by simp)).trans c' (fun b hb=>.inr (by
   have e1:=ow.f b (Abo.1 hb)
   have e2:b≠H.n+1:=fun e=>Ahc bv (e ▸ hb)
   omega))
  refine hn' _ _ _ ⟨i+1,v',_,_,_,rfl,cK.trans (Chg.set K' hbK _) (by simp),Aaa.Bp7 gmK _,⟨fun j=>if j=i then⟨tv,nv,cv⟩else as_ j,?_,?_⟩,by omega,rfl⟩ (by omega)
  ·rw[A6j,arw]
   have:(ro L i).g=y.r.g:=by rw[←hyr]
   have e:=ow'.set bv' (by omega) hbK (o:=.cells true false 4 [v',.slice none 0 0,.int .i64 ((L.s.length:Nat):Int),.int .u32 0] 102)
   have hnt:(Int.toNat (n:Int))=n:=by omega
   simp only[hn,hnt]
   exact e
  ·intro j hj
   by_cases e:j=i
   ·subst e
    simp only[if_pos rfl]
    exact(new.chg c' oth (by omega)).set gmK _
   ·simp only[if_neg e]
    exact(((ok j (by omega)).keeps kMB).chg c' oth (by omega)).set gmK _
 ·have hie:i=L.r.length:=by omega
  subst hie
  have h1:¬((L.r.length:Nat):Int)<((L.r.length:Nat):Int):=by omega
  simp(disch:=first|assumption|omega)only[P4,seval,h1]
  refine hx' _ _ _ ?_
  simp(disch:=first|assumption|omega)only[P3,seval,Aak,Aat,gl2,lp,ip]
  rw[Aah]
  have pZ:Value.int .u32 0=S32 (Aby ((0:Nat):Int)):=by rw[Afn];congr 1
  rw[pZ]at gm
  refine Aan (fun q fr N=>∃i vi x8 x9 x18,fr=[.agg #[u.s,u.p,u.g,u.r],ptr H.n 0,.pointer none,.int .i64 0,.int .i64 0,ptr (H.n+1) 0,x6,x7,x8,x9,.bool false,u.r,.int .i64 ((L.r.length:Nat):Int),.int .i64 ((L.r.length:Nat):Int),.bool false,u.p,.int .i64 ((L.p.length:Nat):Int),.int .i64 ((i:Nat):Int),x18]∧
   Chg [H.n+1] M N∧N.get (H.n+1)=some (.cells true false 4 [vl,vi,.int .i64 ((L.s.length:Nat):Int),S32 (Aby (i:Nat))] 102)∧OW 3 1 K0 N vi (((L.p.map (·.2)).take i).map Agw)∧Acy M.n vi∧i≤L.p.length∧q=L.p.length-i) L.p.length
   ⟨0,.slice none 0 0,_,_,_,rfl,Chg.refl _ _,gm,OW.nil _ _ (k1.Bqa km (by simp;omega)),fun b hb=>(by cases hb),by omega,rfl⟩ ?_
  rintro Q2 q fr N ⟨i,vi,x8,x9,x18,rfl,cN,gmN,owl,fri,hi,rfl⟩ hn2 hx2 hret2
  have hHN:Aac H N:=((k0.trans k1).Bqa km (by simp)).Bqa cN (by simp)
  by_cases hlt:i<L.p.length
  ·obtain⟨np,rp⟩:=(h.p.keeps hHN).at_ hlt
   have h0:(0:Int)≤(i:Int):=by omega
   have h2:(i:Int)<((L.p.length:Nat):Int):=by omega
   have hw:IntKind.i64.wrap ((i:Int)+1)=((i+1:Nat):Int):=by rw[Aae (by omega) (by omega)];simp
   have htk:(L.p.map (·.2)).take (i+1)=(L.p.map (·.2)).take i++[(L.p.getD i ([],0)).2]:=by
    rw[List.take_add_one,List.getElem?_map,List.getElem?_eq_getElem hlt,List.getD_eq_getElem?_getD,List.getElem?_eq_getElem hlt];rfl
   generalize L.p.getD i ([],0)=z at*
   have w1:one1 (Value.int .i64 z.2)=True:=by simp[one1,Aax]
   have w2:one1 (Value.string ⟨z.1.toArray⟩)=True:=by simp[one1,Abe]
   have isl:=owl.is
   have sh:=Alh (show i<32 by omega)
   obtain⟨N1,hN1⟩:∃X,X=N.alloc (.cells true false 2 [.string ⟨z.1.toArray⟩,.int .i64 z.2] 89):=⟨_,rfl⟩
   have kN1:Aac N N1:=by rw[hN1];exact(Aac.refl N).alloc _
   have gmN1:=kN1.at_ gmN
   have gpN1:N1.get N.n=some (.cells true false 2 [.string ⟨z.1.toArray⟩,.int .i64 z.2] 89):=by rw[hN1];exact Aaa.Bp6 N _
   have t1:=Aaa.Bp9 gmN1
   have t2:=Aaa.Bp9 gpN1
   simp(disch:=first|assumption|omega)only[P3,seval,Aak,Aat,h2,lp,np,rp,Aai,w1,w2]
   rw[Aah]
   simp(disch:=first|assumption|omega|(simp only[LN]<;>omega)|(simp(disch:=first|assumption|omega|(simp only[LN]<;>omega))only[Aab,Aad];assumption))only[P3,seval,Aak,Aat,h2,lp,np,rp,Aai,w1,w2]
   rw[←hN1]
   simp(disch:=first|assumption|omega)only[P3,seval,Aak,Aat,gmN1,gpN1,isl,t1,t2]
   have bv:=owl.sep gmN (by omega)
   have kNB:=kN1.alloc (.cells true false 1 [.int .i64 z.2] 3)
   have ltk:((L.p.map (·.2)).take i).length≤32:=by simp;omega
   have hx1:Sl (N1.alloc (.cells true false 1 [.int .i64 z.2] 3)) 1 (slc N1.n 0 1 1) [[.int .i64 z.2]]:=Sl.one1 (row:=[.int .i64 z.2]) rfl rfl
   have owlB:=owl.keeps kNB
   refine A1m owlB.ap hx1.sh hx1.el (Aco hx1.row) (by simp;omega) (fun v' K' a' c' hb'=>?_)
   have ow':=owlB.grow a' hx1.row c' hb'
   have fri':Acy M.n v':=fun b hb=>by
    rcases hb' with e|e
    ·exact fri b (by rw[←e];exact hb)
    ·rw[e]at hb;cases hb
     have:=cN.n;have:=kNB.n;omega
   have gmK:=c'.at_ (kNB.at_ gmN) (Ahc bv)
   have gpK:=c'.at_ (((Aac.refl N1).alloc (.cells true false 1 [.int .i64 z.2] 3)).at_ gpN1)
   have hbK:=Aaa.Bp9 gmK
   have bv':=ow'.sep gmK (by omega)
   have ov':=ow'.one
   simp(disch:=first|assumption|omega)only[P4,seval,gmK,hbK,ov',hw,h2,sh,Anj,Afs,Ab8]
   have elow:(S32 fun j=>Aby ((i:Nat):Int) j||decide (j=i))=S32 (Aby ((i+1:Nat):Int)):=by
    congr 1;funext j;unfold Aby
    by_cases e:j=i
    ·subst e;simp;omega
    ·have:decide (((j:Nat):Int)<((i:Nat):Int))=decide (((j:Nat):Int)<((i+1:Nat):Int)):=by rw[decide_eq_decide];omega
     simp only[this,e,decide_false,Bool.or_false]
   rw[elow]
   have cK:Chg [H.n+1] M K':=(cN.trans (kNB.chg [H.n+1]) (by simp)).trans c' (fun b hb=>.inr (fri b (Abo.1 hb)))
   exact hn2 _ _ _ ⟨i+1,v',_,_,_,rfl,cK.trans (Chg.set K' hbK _) (by simp),Aaa.Bp7 gmK _,by rw[htk,List.map_append];exact ow'.set bv' (by omega) hbK,fri',by omega,rfl⟩ (by omega)
  ·have hie:i=L.p.length:=by omega
   subst hie
   have h2:¬((L.p.length:Nat):Int)<((L.p.length:Nat):Int):=by omega
   simp(disch:=first|assumption|omega)only[P4,seval,h2]
   refine hx2 _ _ _ ?_
   simp(disch:=first|assumption|omega)only[P4,seval]
   have hb4:∀z,4≠z→∀b∈[H.n+1],∀o r c T,M.get b≠some (.cells o r z c T):=by
    intro z hz b hb o r c T g
    simp only[List.mem_cons,List.not_mem_nil,or_false]at hb
    subst hb;rw[gm]at g;injection g with g;injection g with _ _ e;exact hz e
   have sv:=owl.sz
   rw[List.take_of_length_le (by simp)]at sv
   exact hq2 _ _ ⟨_,rfl,hHN,_,rfl,MaA.of gmN (ow.sz.chg cN (hb4 5 (by omega))) (fun j hj=>(ok j hj).chg cN hb4 (by omega)) sv⟩
theorem u10{H:Aaa}{u:V4}{xs:List RV}{L:Ly}(h:LyR H u xs L)(hf:Aih 9223372036854775807 L)(he:Aar L≠0):
 ∃w H',Aau Tryz.prog 0 10 [.agg u.l.toArray] H w H'∧Aac H H'∧w=.tuple #[.pointer none,.int .i64 (Aar L)]:=by
 refine Aaq Az4 Bcw ?_
 intro Q hq1 hq2
 have os:=Sl.one h.s
 have op:=Sl.one h.p
 have og:=Sl.one h.g
 have or:=Sl.one h.r
 have hul:u.l=[u.s,u.p,u.g,u.r]:=rfl
 have kA:=(Aac.refl H).alloc (.cells true false 4 [u.s,u.p,u.g,u.r] 27)
 have tC:=t30 (h.keeps kA) hf
 simp only[hul]at tC ⊢
 simp(disch:=first|assumption|omega|(simp only[LN]<;>omega)|(simp(disch:=first|assumption|omega|(simp only[LN]<;>omega))only[Aab,Aad];assumption))only[f10,P4,seval,os,op,og,or]
 refine Aag tC ?_
 rintro _ X ⟨hX,ie,rfl⟩
 rw[hX]
 have ne:(Aar L != 0)=true:=by simp[he]
 simp(disch:=first|assumption|omega)only[P4,seval,ne]
 exact hq2 _ _ ⟨_,rfl,kA,rfl⟩
end Go.AM.Fd

set_option maxRecDepth 8000
namespace Go.AM.Fd
open Nat (reduceAdd reduceEqDiff reduceLT reduceLeDiff reduceMul reduceSub)
open Go.Proofs Go.AM.F
theorem Ac0(L:Ly):(Ajy L).length=L.r.length:=by simp[Ajy]
theorem Ahd{L:Ly}{i:Nat}(h:i<L.r.length){h':i<(Ajy L).length}:(Ajy L)[i]=Ae0 L i:=by simp[Ajy]
set_option maxHeartbeats 1000000 in
theorem Bpq{H:Aaa}{v0 v1 v2 v3 v4:Value}{L:Ly}{f:Nat→Bool}{fn:Nat}{g:Nat→Nat→Bool}(hs:Sl H 6 v0 (Ajy L))(hl:L.r.length≤64)
 (h1:v1.oneCell'=true) (h2:v2.oneCell'=true) (h3:v3.oneCell'=true) (h4:v4.oneCell'=true)
 (hF:∀(K:Aaa) i,i<L.r.length→∃w K',Aau Tryz.prog 0 fn [.agg (Ae0 L i).toArray] K w K'∧w=S32 (g i)∧K'=K):
 ∃w H',Aau Tryz.prog 0 185 [.agg #[v0,v1,v2,v3,v4],S64 f,.func (.func fn) #[] #[]] H w H'∧w=S32 (fun p=>(List.range L.r.length).any fun i=>f i&&g i p)∧H'=H:=by
 refine gci ?_
 refine Aaq A39 Bbn ?_
 intro Q hq1 hq2
 have h0:=Sl.one hs
 have is0:=Sl.is hs
 have len:=hs.len
 rw[Ac0]at len
 have k0:=(Aac.refl H).alloc (.cells true false 5 [v0,v1,v2,v3,v4] 167)
 simp(disch:=first|assumption|omega)only[Bn6,P3,seval,Aak,Aat,h0,h1,h2,h3,h4,is0,len]
 rw[Aah]
 refine Aan (fun q fr K=>∃i x6 x7 x11 x12,fr=[.agg #[v0,v1,v2,v3,v4],S64 f,.func (.func fn) #[] #[],ptr H.n 0,.int .u32 0,S32 (fun p=>(List.range i).any fun i=>f i&&g i p),x6,x7,v0,.int .i64 ((L.r.length:Nat):Int),.int .i64 ((i:Nat):Int),x11,x12]∧
  Aac H K∧i≤L.r.length∧q=L.r.length-i) L.r.length
  ⟨0,_,_,_,_,by rw[Afn];rfl,k0,by omega,rfl⟩ ?_
 rintro Q' q fr K ⟨i,x6,x7,x11,x12,rfl,kK,hi,rfl⟩ hn' hx' hret
 by_cases hlt:i<L.r.length
 ·obtain⟨na,ra⟩:=(hs.keeps kK).at_ (by omega) (i:=i) (by rw[Ac0];exact hlt)
  rw[Ahd hlt]at ra
  have e0:(0:Int)≤(i:Int):=by omega
  have e1:(i:Int)<((L.r.length:Nat):Int):=by omega
  have hw:IntKind.i64.wrap ((i:Int)+1)=((i+1:Nat):Int):=by rw[Aae (by omega) (by omega)];simp
  have hasE:Ab2 f (i:Int)=f i:=by
   have a:(i:Int)<64:=by omega
   simp[Ab2,a]
  have hf:=fun K=>hF K i hlt
  unfold Ae0 at ra hf
  have kA:=(Aac.refl K).alloc (.cells true false 6 (Ae0 L i) 207)
  have ext:(S32 fun p=>(List.range (i+1)).any fun i=>f i&&g i p)=S32 (fun p=>((List.range i).any fun i=>f i&&g i p)||(f i&&g i p)):=by
   congr 1;funext p;rw[List.range_succ,List.any_append];simp
  unfold Ae0 at kA
  simp(disch:=first|assumption|omega|(simp only[LN]<;>omega)|(simp(disch:=first|assumption|omega|(simp only[LN]<;>omega))only[Aab,Aad];assumption))only[P4,seval,e1,len,na,ra,Aai,O4]
  refine Aag (Bha f _) ?_
  rintro _ X ⟨rfl,hX⟩
  rw[hX,hasE]
  cases hfi:f i with
  |false=>
   rw[hfi]at ext
   simp(disch:=first|assumption|omega)only[P4,seval,hw]
   exact hn' _ _ _ ⟨i+1,_,_,_,_,by rw[ext];simp;exact⟨rfl,rfl,rfl,rfl⟩,kK.trans kA,by omega,rfl⟩ (by omega)
  |true=>
   rw[hfi]at ext
   simp(disch:=first|assumption|omega|(simp only[LN]<;>omega)|(simp(disch:=first|assumption|omega|(simp only[LN]<;>omega))only[Aab,Aad];assumption))only[P4,seval,O4,Ac7,List.nil_append,List.append_nil,Adg]
   refine Aaw (hf _) ?_
   simp(disch:=first|assumption|omega)only[P4,seval,hw,Anj,O4]
   exact hn' _ _ _ ⟨i+1,_,_,_,_,by rw[ext];simp;exact⟨rfl,rfl,rfl,rfl⟩,kK.trans kA,by omega,rfl⟩ (by omega)
 ·have e1:¬((i:Nat):Int)<((L.r.length:Nat):Int):=by omega
  have hie:i=L.r.length:=by omega
  subst hie
  simp(disch:=first|assumption|omega)only[P4,seval,e1]
  refine hx' _ _ _ ?_
  simp(disch:=first|assumption|omega)only[P4,seval]
  exact hq2 _ _ ⟨_,rfl,rfl,kK⟩
set_option maxHeartbeats 1000000 in
theorem t188{H:Aaa}{v0 v1 v2 v3 v4:Value}{L:Ly}{f:Nat→Bool}{fn:Nat}{g:Nat→Nat→Bool}(hs:Sl H 6 v0 (Ajy L))(hl:L.r.length≤64)
 (h1:v1.oneCell'=true) (h2:v2.oneCell'=true) (h3:v3.oneCell'=true) (h4:v4.oneCell'=true)
 (hF:∀(K:Aaa) i,i<L.r.length→∃w K',Aau Tryz.prog 0 fn [.agg (Ae0 L i).toArray] K w K'∧w=S64 (g i)∧K'=K):
 ∃w H',Aau Tryz.prog 0 188 [.agg #[v0,v1,v2,v3,v4],S64 f,.func (.func fn) #[] #[]] H w H'∧w=S64 (fun p=>(List.range L.r.length).any fun i=>f i&&g i p)∧H'=H:=by
 refine gci ?_
 refine Aaq A4c Bbq ?_
 intro Q hq1 hq2
 have h0:=Sl.one hs
 have is0:=Sl.is hs
 have len:=hs.len
 rw[Ac0]at len
 have k0:=(Aac.refl H).alloc (.cells true false 5 [v0,v1,v2,v3,v4] 167)
 simp(disch:=first|assumption|omega)only[Bn9,P3,seval,Aak,Aat,h0,h1,h2,h3,h4,is0,len]
 rw[Aah]
 refine Aan (fun q fr K=>∃i x6 x7 x11 x12,fr=[.agg #[v0,v1,v2,v3,v4],S64 f,.func (.func fn) #[] #[],ptr H.n 0,.int .u64 0,S64 (fun p=>(List.range i).any fun i=>f i&&g i p),x6,x7,v0,.int .i64 ((L.r.length:Nat):Int),.int .i64 ((i:Nat):Int),x11,x12]∧
  Aac H K∧i≤L.r.length∧q=L.r.length-i) L.r.length
  ⟨0,_,_,_,_,by rw[Ac2];rfl,k0,by omega,rfl⟩ ?_
 rintro Q' q fr K ⟨i,x6,x7,x11,x12,rfl,kK,hi,rfl⟩ hn' hx' hret
 by_cases hlt:i<L.r.length
 ·obtain⟨na,ra⟩:=(hs.keeps kK).at_ (by omega) (i:=i) (by rw[Ac0];exact hlt)
  rw[Ahd hlt]at ra
  have e0:(0:Int)≤(i:Int):=by omega
  have e1:(i:Int)<((L.r.length:Nat):Int):=by omega
  have hw:IntKind.i64.wrap ((i:Int)+1)=((i+1:Nat):Int):=by rw[Aae (by omega) (by omega)];simp
  have hasE:Ab2 f (i:Int)=f i:=by
   have a:(i:Int)<64:=by omega
   simp[Ab2,a]
  have hf:=fun K=>hF K i hlt
  unfold Ae0 at ra hf
  have kA:=(Aac.refl K).alloc (.cells true false 6 (Ae0 L i) 207)
  have ext:(S64 fun p=>(List.range (i+1)).any fun i=>f i&&g i p)=S64 (fun p=>((List.range i).any fun i=>f i&&g i p)||(f i&&g i p)):=by
   congr 1;funext p;rw[List.range_succ,List.any_append];simp
  unfold Ae0 at kA
  simp(disch:=first|assumption|omega|(simp only[LN]<;>omega)|(simp(disch:=first|assumption|omega|(simp only[LN]<;>omega))only[Aab,Aad];assumption))only[P4,seval,e1,len,na,ra,Aai,O4]
  refine Aag (Bha f _) ?_
  rintro _ X ⟨rfl,hX⟩
  rw[hX,hasE]
  cases hfi:f i with
  |false=>
   rw[hfi]at ext
   simp(disch:=first|assumption|omega)only[P4,seval,hw]
   exact hn' _ _ _ ⟨i+1,_,_,_,_,by rw[ext];simp;exact⟨rfl,rfl,rfl,rfl⟩,kK.trans kA,by omega,rfl⟩ (by omega)
  |true=>
   rw[hfi]at ext
   simp(disch:=first|assumption|omega|(simp only[LN]<;>omega)|(simp(disch:=first|assumption|omega|(simp only[LN]<;>omega))only[Aab,Aad];assumption))only[P4,seval,O4,Ac7,List.nil_append,List.append_nil,Adg]
   refine Aaw (hf _) ?_
   simp(disch:=first|assumption|omega)only[P4,seval,hw,Ahh,O4]
   exact hn' _ _ _ ⟨i+1,_,_,_,_,by rw[ext];simp;exact⟨rfl,rfl,rfl,rfl⟩,kK.trans kA,by omega,rfl⟩ (by omega)
 ·have e1:¬((i:Nat):Int)<((L.r.length:Nat):Int):=by omega
  have hie:i=L.r.length:=by omega
  subst hie
  simp(disch:=first|assumption|omega)only[P4,seval,e1]
  refine hx' _ _ _ ?_
  simp(disch:=first|assumption|omega)only[P4,seval]
  exact hq2 _ _ ⟨_,rfl,rfl,kK⟩
def nor(L:Ly)(i:Nat):Nat→Bool:=ndP (nds (ro L i)) false
def rev(L:Ly)(i:Nat):Nat→Bool:=ndP (nds (ro L i)) true
theorem t186{H:Aaa}(L:Ly)(i:Nat):∃w K',Aau Tryz.prog 0 186 [.agg (Ae0 L i).toArray] H w K'∧w=S32 (nor L i)∧K'=H:=by
 refine gci ?_
 refine Aaq A4a Bbo ?_
 intro Q hq1 hq2
 have k:=(Aac.refl H).alloc (.cells true false 6 (Ae0 L i) 207)
 unfold Ae0 at k ⊢
 simp(disch:=first|assumption|omega)only[Bn7,P4,seval,O4]
 exact hq2 _ _ ⟨_,rfl,rfl,k⟩
theorem t187{H:Aaa}(L:Ly)(i:Nat):∃w K',Aau Tryz.prog 0 187 [.agg (Ae0 L i).toArray] H w K'∧w=S32 (rev L i)∧K'=H:=by
 refine gci ?_
 refine Aaq A4b Bbp ?_
 intro Q hq1 hq2
 have k:=(Aac.refl H).alloc (.cells true false 6 (Ae0 L i) 207)
 unfold Ae0 at k ⊢
 simp(disch:=first|assumption|omega)only[Bn8,P4,seval,O4]
 exact hq2 _ _ ⟨_,rfl,rfl,k⟩
theorem t189{H:Aaa}(L:Ly)(i:Nat):∃w K',Aau Tryz.prog 0 189 [.agg (Ae0 L i).toArray] H w K'∧w=S64 (Ain L i)∧K'=H:=by
 refine gci ?_
 refine Aaq A4d Bbr ?_
 intro Q hq1 hq2
 have k:=(Aac.refl H).alloc (.cells true false 6 (Ae0 L i) 207)
 unfold Ae0 at k ⊢
 simp(disch:=first|assumption|omega)only[Boa,P4,seval,O4]
 exact hq2 _ _ ⟨_,rfl,rfl,k⟩
def Ah5(L:Ly)(f:Nat→Bool)(g:Nat→Nat→Bool)(p:Nat):Bool:=(List.range L.r.length).any fun i=>f i&&g i p
structure MsR (H:Aaa) (vr vl:Value) (L:Ly):Prop where
 r:Sl H 6 vr (Ajy L)
 l:Sl H 1 vl (Bfc L)
theorem MsR.keeps{H K:Aaa}{vr vl:Value}{L:Ly}(h:MsR H vr vl L)(k:Aac H K):MsR K vr vl L:=⟨h.r.keeps k,h.l.keeps k⟩
theorem Bpr{H:Aaa}{vr vl:Value}{L:Ly}{f:Nat→Bool}(h:MsR H vr vl L)(hl:L.r.length≤64):
 ∃w K',Aau Tryz.prog 0 174 [.agg (Abm L vr vl).toArray,S64 f] H w K'∧w=.tuple #[S32 (Ah5 L f (nor L)),S32 (Ah5 L f (rev L))]∧K'=H:=by
 suffices h':∃w K',Aau Tryz.prog 0 174 [.agg (Abm L vr vl).toArray,S64 f] H w K'∧w=.tuple #[S32 (Ah5 L f (nor L)),S32 (Ah5 L f (rev L))]∧Aac H K' by
  obtain⟨_,_,a,rfl,k⟩:=h'
  exact⟨_,_,a.gc0 k (.inr (.tuple _ _ rfl (fun i a b=>by
   match i,a with
   |0,_=>exact .int _ _
   |1,_=>exact .int _ _))),rfl,rfl⟩
 refine Aaq A4e Bbs ?_
 intro Q hq1 hq2
 have r1:=Sl.one h.r
 have l1:=Sl.one h.l
 have kA:=(Aac.refl H).alloc (.cells true false 5 (Abm L vr vl) 167)
 have hA:=h.keeps kA
 unfold Abm at kA hA ⊢
 simp(disch:=first|assumption|omega|(simp only[LN]<;>omega)|(simp(disch:=first|assumption|omega|(simp only[LN]<;>omega))only[Aab,Aad];assumption))only[Bob,P4,seval,r1,l1,O4]
 refine Aaw (Bpq hA.r hl l1 rfl rfl rfl (fun K i _=>t186 L i)) ?_
 simp(disch:=first|assumption|omega|(simp only[LN]<;>omega)|(simp(disch:=first|assumption|omega|(simp only[LN]<;>omega))only[Aab,Aad];assumption))only[P4,seval,r1,l1,O4]
 refine Aaw (Bpq hA.r hl l1 rfl rfl rfl (fun K i _=>t187 L i)) ?_
 simp(disch:=first|assumption|omega)only[P4,seval,r1,l1,O4]
 exact hq2 _ _ ⟨_,rfl,rfl,kA⟩
theorem t175{H:Aaa}{vr vl:Value}{L:Ly}{f:Nat→Bool}(h:MsR H vr vl L)(hl:L.r.length≤64):
 ∃w K',Aau Tryz.prog 0 175 [.agg (Abm L vr vl).toArray,S64 f] H w K'∧w=S64 (Ah5 L f (Ain L))∧K'=H:=by
 refine gci ?_
 refine Aaq A4f Bbt ?_
 intro Q hq1 hq2
 have r1:=Sl.one h.r
 have l1:=Sl.one h.l
 have kA:=(Aac.refl H).alloc (.cells true false 5 (Abm L vr vl) 167)
 have hA:=h.keeps kA
 unfold Abm at kA hA ⊢
 simp(disch:=first|assumption|omega|(simp only[LN]<;>omega)|(simp(disch:=first|assumption|omega|(simp only[LN]<;>omega))only[Aab,Aad];assumption))only[Boc,P4,seval,r1,l1,O4]
 refine Aaw (t188 hA.r hl l1 rfl rfl rfl (fun K i _=>t189 L i)) ?_
 simp(disch:=first|assumption|omega)only[P4,seval,Acu]
 exact hq2 _ _ ⟨_,rfl,rfl,kA⟩
def MaR(H:Aaa)(b:Nat)(L:Ly):Prop:=∃vr vl own room T,H.get b=some (.cells own room 5 (Abm L vr vl) T)∧MsR H vr vl L
theorem MaR.keeps{H K:Aaa}{b:Nat}{L:Ly}(h:MaR H b L)(k:Aac H K):MaR K b L:=by
 obtain⟨vr,vl,o,r,T,g,m⟩:=h
 exact⟨vr,vl,o,r,T,k.at_ g,m.keeps k⟩
def MaF(n:Nat)(H:Aaa)(b:Nat)(L:Ly):Prop:=∃vr vl own room T,(n≤b∧Acy n vr∧Acy n vl)∧H.get b=some (.cells own room 5 (Abm L vr vl) T)∧MsR H vr vl L
theorem MaF.r{n:Nat}{H:Aaa}{b:Nat}{L:Ly}(h:MaF n H b L):MaR H b L:=by
 obtain⟨vr,vl,o,r,T,_,g,m⟩:=h
 exact⟨vr,vl,o,r,T,g,m⟩
theorem MaF.same{n:Nat}{H K:Aaa}{b:Nat}{L:Ly}(h:MaF n H b L)(k:∀c,n≤c→c<H.n→K.get c=H.get c):MaF n K b L:=by
 obtain⟨vr,vl,o,r,T,⟨f1,f2,f3⟩,g,m⟩:=h
 exact⟨vr,vl,o,r,T,⟨f1,f2,f3⟩,by rw[k b f1 (Aaa.Bp9 g)];exact g,⟨m.r.get' fun c hc hl=>k c (f2 c hc) hl,m.l.get' fun c hc hl=>k c (f3 c hc) hl⟩⟩
theorem Bmk(a b c d e:Value):Aa4 [.slice none 0 0,.slice none 0 0,.int .u64 0,.int .u32 0,.int .u64 0] [(0,5,.agg #[a,b,c,d,e])]=some [a,b,c,d,e]:=rfl
theorem t60{H:Aaa}{u:V4}{xs:List RV}{L:Ly}(h:LyR H u xs L)(hf:Aih 9223372036854775807 L):
 ∃w H',Aau Tryz.prog 0 60 [.agg u.l.toArray] H w H'∧Aac H H'∧(Aar L≠0→w=.tuple #[.pointer none,.int .i64 (Aar L)])∧
  (Aar L=0→∃b,w=.tuple #[ptr b 0,.int .i64 0]∧MaF H.n H' b L):=by
 refine Aaq Bbu Bkb ?_
 intro Q hq1 hq2
 have os:=Sl.one h.s
 have op:=Sl.one h.p
 have og:=Sl.one h.g
 have or:=Sl.one h.r
 have hul:u.l=[u.s,u.p,u.g,u.r]:=rfl
 have kA:=(Aac.refl H).alloc (.cells true false 4 u.l 27)
 have tM:=t92 (h.keeps kA) hf
 simp only[hul]at kA tM ⊢
 simp(disch:=first|assumption|omega|(simp only[LN]<;>omega)|(simp(disch:=first|assumption|omega|(simp only[LN]<;>omega))only[Aab,Aad];assumption))only[f60,P4,seval,os,op,og,or]
 refine Aag tM ?_
 rintro _ K1 ⟨k1,e1,e2⟩
 by_cases he:Aar L=0
 case neg=>
  rw[e1 he]
  have ne:(Aar L != 0)=true:=by simp[he]
  simp(disch:=first|assumption|omega|(simp only[LN]<;>omega)|(simp(disch:=first|assumption|omega|(simp only[LN]<;>omega))only[Aab,Aad];assumption))only[P4,seval,ne]
  exact hq2 _ _ ⟨_,rfl,(kA.trans k1).alloc _,fun _=>rfl,fun e=>absurd e he⟩
 case pos=>
 obtain⟨vr,vl,rfl,sr,sl,fr,fl⟩:=e2 he
 have r1:=Sl.one sr
 have l1:=Sl.one sl
 unfold Abm
 have k2:=((Aac.refl K1).alloc (.cells true false 5 (Abm L vr vl) 167)).alloc (.cells true false 5 (Abm L vr vl) 171)
 have g2:=Aaa.Bp6 (K1.alloc (.cells true false 5 (Abm L vr vl) 167)) (.cells true false 5 (Abm L vr vl) 171)
 have n1:=kA.n
 have n2:=k1.n
 have nA:(H.alloc (.cells true false 4 u.l 27)).n=H.n+1:=rfl
 have m2:MaF H.n ((K1.alloc (.cells true false 5 (Abm L vr vl) 167)).alloc (.cells true false 5 (Abm L vr vl) 171)) (K1.n+1) L:=⟨vr,vl,_,_,_,⟨by simp only[Acd]at*;omega,fun b hb=>Nat.le_trans (by simp only[Acd]at*;omega) (fr b hb),fun b hb=>Nat.le_trans (by simp only[Acd]at*;omega) (fl b hb)⟩,g2,(MsR.mk sr sl).keeps k2⟩
 unfold Abm at k2 m2
 simp(disch:=first|assumption|omega|(simp only[LN]<;>omega)|(simp(disch:=first|assumption|omega|(simp only[LN]<;>omega))only[Aab,Aad];assumption))only[P4,seval,r1,l1,O4,Bmk]
 exact hq2 _ _ ⟨_,rfl,(kA.trans k1).trans k2,fun e=>absurd he e,fun _=>⟨_,rfl,m2⟩⟩
end Go.AM.Fd

set_option maxRecDepth 8000
namespace Go.AM.Fd
open Go.Proofs Go.AM.F
structure Sta where
 lo:Nat→Bool
 us:Nat→Bool
 ca:Nat→Bool
 ti:Nat→Nat
 po:Nat→Bool
def tis(t:Nat→Nat):List Value:=(List.range 64).map fun i=>Value.int .u8 (t i:Nat)
def stl(s:Sta):List Value:=S64 s.lo::S64 s.us::S64 s.ca::(tis s.ti++[S32 s.po])
theorem Aep(t:Nat→Nat):(tis t).length=64:=by simp[tis]
theorem Ang{t:Nat→Nat}{i:Nat}(h:i<64):(tis t)[i]? =some (.int .u8 (t i:Nat)):=by simp[tis,h]
theorem Aaj(s:Sta):(stl s).length=68:=by simp[stl,Aep]
theorem Abv(s:Sta):(stl s)[0]? =some (S64 s.lo):=rfl
theorem Aeq(s:Sta):(stl s)[1]? =some (S64 s.us):=rfl
theorem Adv(s:Sta):(stl s)[2]? =some (S64 s.ca):=rfl
theorem Ab4(s:Sta):(stl s)[67]? =some (S32 s.po):=by
 show(tis s.ti++[S32 s.po])[64]? =_
 rw[List.getElem?_append_right (by rw[Aep];omega),Aep];rfl
theorem Amg(s:Sta){i:Nat}(h:i<64):(stl s)[3+i]? =some (.int .u8 (s.ti i:Nat)):=by
 rw[Nat.add_comm]
 show(tis s.ti++[S32 s.po])[i]? =_
 rw[List.getElem?_append_left (by rw[Aep];omega),Ang h]
theorem Ah6(s:Sta)(f:Nat→Bool):(stl s).set 0 (S64 f)=stl {s with lo:=f}:=rfl
theorem Ais(s:Sta)(f:Nat→Bool):(stl s).set 1 (S64 f)=stl {s with us:=f}:=rfl
theorem Ahe(s:Sta)(f:Nat→Bool):(stl s).set 2 (S64 f)=stl {s with ca:=f}:=rfl
theorem Af9(s:Sta)(f:Nat→Bool):(stl s).set 67 (S32 f)=stl {s with po:=f}:=by
 show _::_::_::((tis s.ti++[S32 s.po]).set 64 (S32 f))=_
 rw[List.set_append_right _ _ (by rw[Aep];omega),Aep];rfl
def upd(t:Nat→Nat)(i n:Nat)(j:Nat):Nat:=if j=i then n else t j
theorem A5x(t:Nat→Nat)(i n:Nat):(tis t).set i (.int .u8 (n:Nat))=tis (upd t i n):=by
 apply List.ext_getElem?
 intro j
 rw[List.getElem?_set,Aep]
 by_cases e:i=j
 ·subst e
  by_cases h:i<64
  ·rw[if_pos rfl,if_pos h,Ang h];simp[upd]
  ·rw[if_pos rfl,if_neg h];simp[tis,h]
 ·rw[if_neg e]
  have e2:¬j=i:=fun x=>e x.symm
  by_cases h:j<64
  ·rw[Ang h,Ang h];simp[upd,e2]
  ·simp[tis,h]
theorem Akw(s:Sta){i:Nat}(h:i<64)(n:Nat):(stl s).set (3+i) (.int .u8 (n:Nat))=stl {s with ti:=upd s.ti i n}:=by
 rw[Nat.add_comm]
 show _::_::_::((tis s.ti++[S32 s.po]).set i _)=_
 rw[List.set_append_left _ _ (by rw[Aep];omega),A5x];rfl
theorem Anh(s:Sta){i:Nat}(h:i<64):(stl s).set (3+i) (.int .u8 0)=stl {s with ti:=upd s.ti i 0}:=Akw s h 0
theorem Auu(s:Sta){i:Nat}(h:i<64):(stl s).set (3+i) (.int .u8 20)=stl {s with ti:=upd s.ti i 20}:=Akw s h 20
theorem A5y(s:Sta):((stl s).drop 3).take 64=tis s.ti:=by
 show(tis s.ti++[S32 s.po]).take 64=_
 rw[List.take_append_of_le_length (by rw[Aep];omega),List.take_of_length_le (by rw[Aep];omega)]
theorem A5z(t:Nat→Nat):(tis t).all Value.oneCell'=true:=by
 rw[List.all_eq_true];intro x hx
 obtain⟨i,_,rfl⟩:=List.mem_map.1 hx
 rfl
theorem Aaz(s:Sta):(stl s).all Value.oneCell'=true:=by
 show(true&&(true&&(true&&(tis s.ti++[S32 s.po]).all Value.oneCell')))=true
 rw[List.all_append,A5z];rfl
def Abs:Sta:=⟨fun _=>false,fun _=>false,fun _=>false,fun _=>0,fun _=>false⟩
theorem Ado:[.int .u64 0,.int .u64 0,.int .u64 0]++List.replicate 64 (.int .u8 0)++[.int .u32 0]=stl Abs:=by
 show Value.int .u64 0::Value.int .u64 0::Value.int .u64 0::(List.replicate 64 (.int .u8 0)++[.int .u32 0])=_
 rw[Ac2,Afn]
 show _=S64 _::S64 _::S64 _::(tis (fun _=>0)++[S32 _])
 have:tis (fun _=>0)=List.replicate 64 (.int .u8 0):=by
  unfold tis;rw[List.map_const'];simp
 rw[this];rfl
theorem Auv(s:Sta)(o r:Bool)(T:Nat):Adz (some (.cells o r 68 (stl s) T)) 3 64=some (tis s.ti):=by
 rw[Ag7,if_pos (by rw[Aaj];omega),A5y]
theorem Auw(H:Aaa)(t:Nat→Nat)(i:Nat)(h:i<64):Aam (.idxa false 1 64 (.agg (tis t).toArray) (.int .i64 (i:Int))) H=some (.int .u8 (t i:Nat),H):=by
 simp only[Aam]
 rw[if_pos ⟨by omega,by omega⟩]
 have:Int.toNat (i:Int)=i:=by omega
 simp[this,Ang h]
def sti(s:Sta):List Int:=((Aa3 s.lo 64:Nat):Int)::((Aa3 s.us 64:Nat):Int)::((Aa3 s.ca 64:Nat):Int)::((List.range 64).map (fun i=>(s.ti i:Int))++[((Aa3 s.po 32:Nat):Int)])
def Avs(s t:Sta):Bool:=decide (sti s=sti t)
theorem Ani:∀(ks:List IntKind) (xs ys:List Int),xs.length=ks.length→ys.length=ks.length→Afv (List.replicate ks.length 1) (List.zipWith Value.int ks xs) (List.zipWith Value.int ks ys)=some (decide (xs=ys))
 |[],[],[],_,_=>by simp[Afv]
 |k::ks,x::xs,y::ys,h1,h2=>by
  have ih:=Ani ks xs ys (by simpa using h1) (by simpa using h2)
  simp only[List.length_cons,List.replicate_succ,List.zipWith_cons_cons,Afv,eqC,if_true,ih]
  congr 1
  rw[Bool.eq_iff_iff];simp
 |[],_::_,_,h,_=>by simp at h
 |[],[],_::_,_,h=>by simp at h
 |_::_,[],_,h,_=>by simp at h
 |_::_,_::_,[],_,h=>by simp at h
def K68:List IntKind:=.u64:: .u64:: .u64::(List.replicate 64 .u8++[.u32])
theorem Aux{k:IntKind}:∀(l:List Int),List.zipWith Value.int (List.replicate l.length k) l=l.map (Value.int k)
 |[]=>rfl
 |a::l=>by rw[List.length_cons,List.replicate_succ,List.zipWith_cons_cons,Aux l];rfl
theorem Auy(s:Sta):stl s=List.zipWith Value.int K68 (sti s):=by
 have h:((List.range 64).map (fun i=>(s.ti i:Int))).length=64:=by simp
 have e:=Aux (k:=.u8) ((List.range 64).map (fun i=>(s.ti i:Int)))
 rw[h]at e
 show _::_::_::(tis s.ti++[S32 s.po])=_::_::_::List.zipWith Value.int (List.replicate 64 .u8++[.u32]) (_++[_])
 rw[List.zipWith_append (by simp),e]
 simp[tis,S64,S32]
theorem Alg(H:Aaa)(neg:Bool)(s t:Sta):Aam (.eqs (List.replicate 68 1) neg (.agg (stl s).toArray) (.agg (stl t).toArray)) H=some (.bool (if neg then !Avs s t else Avs s t),H):=by
 simp only[Aam]
 have:=Ani K68 (sti s) (sti t) (by simp[K68,sti]) (by simp[K68,sti])
 have hk:K68.length=68:=by simp[K68]
 rw[hk,←Auy,←Auy]at this
 rw[this];rfl
end Go.AM.Fd

set_option maxRecDepth 100000
set_option maxHeartbeats 0
namespace Go.AM.F
def Bof:List Value:=[(.int .u64 0),(.int .u64 0),(.int .u64 0)]++List.replicate 64 (.int .u8 0)++[(.int .u32 0)]
def Ala:TypeId→List Value
 |207=>[(.int .u64 0),(.int .u64 0),(.int .u64 0),(.int .u32 0),(.int .u32 0),(.int .u64 0)]
 |43=>Bof
 |54=>[(.int .u64 0),(.int .u32 0)]
 |83=>[(.int .u8 0),(.int .i64 0)]
 |41=>[(.int .u32 0)]
 |_=>[]
def Alb:TypeId→Value
 |_=>undef
def Alc:TypeId→List Nat
 |_=>[]
def Ald:Nat→TypeId→List Value
 |_,_=>[]
noncomputable def Bog:Aao:=by
 refine(fun(_:Cz Ala Alb Alc Ald Go.Proofs.Tryz.prog 0 [0,1,2,3,7,8,9,10,11,12,13,18,19,29,79,117,136,143,183] 176 ?a)=>?a) ?h
 case h=>
 intro zc zv zk zr hc hv hk hr
 conv=>lhs;cbv;try simp only[hc,hv,hk,hr,Ala,Alb,Alc,Ald]
theorem A4i:Aap Go.Proofs.Tryz.prog 0 [0,1,2,3,7,8,9,10,11,12,13,18,19,29,79,117,136,143,183] 176=some Bog:=by kernel_rfl
theorem Bbx:Aaf Go.Proofs.Tryz.prog 176 4=true:=by kernel_rfl
noncomputable def Boh:Aao:=by
 refine(fun(_:Cz Ala Alb Alc Ald Go.Proofs.Tryz.prog 0 [0,1,4,5,6,7,8,9,10,11,18] 177 ?a)=>?a) ?h
 case h=>
 intro zc zv zk zr hc hv hk hr
 conv=>lhs;cbv;try simp only[hc,hv,hk,hr,Ala,Alb,Alc,Ald]
theorem A4j:Aap Go.Proofs.Tryz.prog 0 [0,1,4,5,6,7,8,9,10,11,18] 177=some Boh:=by kernel_rfl
theorem Bby:Aaf Go.Proofs.Tryz.prog 177 2=true:=by kernel_rfl
noncomputable def Boi:Aao:=by
 refine(fun(_:Cz Ala Alb Alc Ald Go.Proofs.Tryz.prog 0 [0,1,2,4,5] 178 ?a)=>?a) ?h
 case h=>
 intro zc zv zk zr hc hv hk hr
 conv=>lhs;cbv;try simp only[hc,hv,hk,hr,Ala,Alb,Alc,Ald]
theorem A4k:Aap Go.Proofs.Tryz.prog 0 [0,1,2,4,5] 178=some Boi:=by kernel_rfl
theorem Bbz:Aaf Go.Proofs.Tryz.prog 178 3=true:=by kernel_rfl
noncomputable def Boj:Aao:=by
 refine(fun(_:Cz Ala Alb Alc Ald Go.Proofs.Tryz.prog 0 [0,1,2,4,5] 179 ?a)=>?a) ?h
 case h=>
 intro zc zv zk zr hc hv hk hr
 conv=>lhs;cbv;try simp only[hc,hv,hk,hr,Ala,Alb,Alc,Ald]
theorem A4l:Aap Go.Proofs.Tryz.prog 0 [0,1,2,4,5] 179=some Boj:=by kernel_rfl
theorem Bb0:Aaf Go.Proofs.Tryz.prog 179 3=true:=by kernel_rfl
noncomputable def Bok:Aao:=by
 refine(fun(_:Cz Ala Alb Alc Ald Go.Proofs.Tryz.prog 0 [0,1,4,5,6,7,8,9,10,11,18] 180 ?a)=>?a) ?h
 case h=>
 intro zc zv zk zr hc hv hk hr
 conv=>lhs;cbv;try simp only[hc,hv,hk,hr,Ala,Alb,Alc,Ald]
theorem A4m:Aap Go.Proofs.Tryz.prog 0 [0,1,4,5,6,7,8,9,10,11,18] 180=some Bok:=by kernel_rfl
theorem Bb1:Aaf Go.Proofs.Tryz.prog 180 2=true:=by kernel_rfl
noncomputable def Bol:Aao:=by
 refine(fun(_:Cz Ala Alb Alc Ald Go.Proofs.Tryz.prog 0 [0,1,4] 181 ?a)=>?a) ?h
 case h=>
 intro zc zv zk zr hc hv hk hr
 conv=>lhs;cbv;try simp only[hc,hv,hk,hr,Ala,Alb,Alc,Ald]
theorem A4n:Aap Go.Proofs.Tryz.prog 0 [0,1,4] 181=some Bol:=by kernel_rfl
theorem Bb2:Aaf Go.Proofs.Tryz.prog 181 2=true:=by kernel_rfl
noncomputable def Bom:Aao:=by
 refine(fun(_:Cz Ala Alb Alc Ald Go.Proofs.Tryz.prog 0 [0,1,2,3] 166 ?a)=>?a) ?h
 case h=>
 intro zc zv zk zr hc hv hk hr
 conv=>lhs;cbv;try simp only[hc,hv,hk,hr,Ala,Alb,Alc,Ald]
theorem A4o:Aap Go.Proofs.Tryz.prog 0 [0,1,2,3] 166=some Bom:=by kernel_rfl
theorem Bb3:Aaf Go.Proofs.Tryz.prog 166 1=true:=by kernel_rfl
noncomputable def Bkc:Aao:=by
 refine(fun(_:Cz Ala Alb Alc Ald Go.Proofs.Tryz.prog 0 [0,1,2,3,5,6] 183 ?a)=>?a) ?h
 case h=>
 intro zc zv zk zr hc hv hk hr
 conv=>lhs;cbv;try simp only[hc,hv,hk,hr,Ala,Alb,Alc,Ald]
theorem A4p:Aap Go.Proofs.Tryz.prog 0 [0,1,2,3,5,6] 183=some Bkc:=by kernel_rfl
theorem Bb4:Aaf Go.Proofs.Tryz.prog 183 4=true:=by kernel_rfl
noncomputable def Bon:Aao:=by
 refine(fun(_:Cz Ala Alb Alc Ald Go.Proofs.Tryz.prog 0 [0,1,4] 172 ?a)=>?a) ?h
 case h=>
 intro zc zv zk zr hc hv hk hr
 conv=>lhs;cbv;try simp only[hc,hv,hk,hr,Ala,Alb,Alc,Ald]
theorem A4q:Aap Go.Proofs.Tryz.prog 0 [0,1,4] 172=some Bon:=by kernel_rfl
theorem Bb5:Aaf Go.Proofs.Tryz.prog 172 2=true:=by kernel_rfl
noncomputable def Boo:Aao:=by
 refine(fun(_:Cz Ala Alb Alc Ald Go.Proofs.Tryz.prog 0 [0,1,2,4,5,6,7,8,9,10,11,12,13,14,15,17,19,20,21,22,24,33,34,35,36,41,81,82,83,84,96,97,98,99] 171 ?a)=>?a) ?h
 case h=>
 intro zc zv zk zr hc hv hk hr
 conv=>lhs;cbv;try simp only[hc,hv,hk,hr,Ala,Alb,Alc,Ald]
theorem A4r:Aap Go.Proofs.Tryz.prog 0 [0,1,2,4,5,6,7,8,9,10,11,12,13,14,15,17,19,20,21,22,24,33,34,35,36,41,81,82,83,84,96,97,98,99] 171=some Boo:=by kernel_rfl
theorem Bb6:Aaf Go.Proofs.Tryz.prog 171 3=true:=by kernel_rfl
end Go.AM.F

set_option maxRecDepth 8000
namespace Go.AM.Fd
open Nat (reduceAdd reduceEqDiff reduceLT reduceLeDiff reduceMul reduceSub)
open Go.Proofs Go.AM.F
theorem Bfe:Bny=stl Abs:=Ado
theorem A0f:Bnz=List.replicate 68 1:=rfl
theorem Auz(s:Sta):(stl s).all Acf=true:=by
 show(true&&(true&&(true&&(tis s.ti++[S32 s.po]).all Acf)))=true
 rw[List.all_append]
 have:(tis s.ti).all Acf=true:=by
  rw[List.all_eq_true];intro x hx
  obtain⟨i,_,rfl⟩:=List.mem_map.1 hx
  rfl
 rw[this];rfl
theorem Ap1(ρ:Nat→Option Nat)(s:Sta):NV ρ (.agg (stl s).toArray) (.agg (stl s).toArray):=NV.agg_of (NL.plain (Auz s))
theorem A0g{P:Program}{ng:Nat}{f:FuncId}{xs:List Value}{H:Aaa}{s:Sta}(h:∃w H',Aau P ng f xs H w H'∧w=.agg (stl s).toArray∧Aac H H'):∃w H',Aau P ng f xs H w H'∧w=.agg (stl s).toArray∧H'=H:=by
 obtain⟨_,_,a,rfl,k⟩:=h
 exact⟨_,_,a.gc0 k (.inr (Ap1 _ _)),rfl,rfl⟩
def Ac1(L:Ly)(s:Sta):Sta where
 lo:=fun i=>s.lo i&&Aby L.r.length i
 us:=fun i=>s.us i&&(s.lo i&&Aby L.r.length i)
 ca:=fun i=>s.ca i&&(s.lo i&&Aby L.r.length i)
 ti:=fun i=>if s.ca i&&(s.lo i&&Aby L.r.length i)then min (s.ti i) 20 else 0
 po:=fun i=>s.po i&&Aby L.p.length i
theorem Adn{s t:Sta}(h1:∀i,i<64→s.lo i=t.lo i)(h2:∀i,i<64→s.us i=t.us i)(h3:∀i,i<64→s.ca i=t.ca i)(h4:∀i,i<64→s.ti i=t.ti i)(h5:∀i,i<32→s.po i=t.po i):stl s=stl t:=by
 unfold stl
 rw[Abl h1,Abl h2,Abl h3,A51 h5]
 have:tis s.ti=tis t.ti:=by
  unfold tis
  apply List.map_congr_left
  intro i hi
  rw[h4 i (List.mem_range.1 hi)]
 rw[this]
theorem Aa9(f:Nat→Bool){i:Nat}(h:i<64):Ab2 f (i:Int)=f i:=by
 have a:(i:Int)<64:=by omega
 simp[Ab2,a]
theorem Abc(s:Sta)(o r:Bool)(T:Nat):Adz (some (.cells o r 68 (stl s) T)) 0 68=some (stl s):=Abx (Aaj s)
theorem Bml(H:Aaa)(b:Nat)(s:Sta)(c:List Value)(hc:c.length=68)(r:Bool)(T:Nat):Aw9 H b 0 68 (stl s) (some (.cells true r 68 c T))=some (undef,H.set b (.cells true r 68 (stl s) T)):=by
 rw[Ag8 hc,if_pos ⟨Aaj s,Aaz s⟩]
theorem Abh(H:Aaa)(b:Nat)(s t:Sta)(r:Bool)(T:Nat):Aw9 H b 0 68 (stl s) (some (.cells true r 68 (stl t) T))=some (undef,H.set b (.cells true r 68 (stl s) T)):=Bml H b s _ (Aaj t) r T
def Ap2(s:Sta)(L:Ly)(i:Nat):Sta where
 lo:=fun i=>s.lo i&&Aby L.r.length i
 us:=fun i=>s.us i&&(s.lo i&&Aby L.r.length i)
 ca:=fun i=>s.ca i&&(s.lo i&&Aby L.r.length i)
 ti:=fun j=>if j<i then(Ac1 L s).ti j else s.ti j
 po:=fun i=>s.po i&&Aby L.p.length i
set_option maxHeartbeats 2000000 in
theorem Bps{H:Aaa}{b:Nat}{L:Ly}(h:MaR H b L)(s:Sta):∃w H',Aau Tryz.prog 0 173 [ptr b 0,.agg (stl s).toArray] H w H'∧w=.agg (stl (Ac1 L s)).toArray∧H'=H:=by
 refine A0g ?_
 refine Aaq A4g Bbv ?_
 intro Q hq1 hq2
 obtain⟨vr,vl,own,room,T,gb,ms⟩:=h
 obtain⟨K0,hK0⟩:∃X,X=(H.alloc (.cells true false 68 (stl s) 43)).alloc (.cells true false 68 (stl Abs) 43):=⟨_,rfl⟩
 have k0:Aac H K0:=by rw[hK0];exact((Aac.refl H).alloc _).alloc _
 have n0:K0.n=H.n+2:=by rw[hK0];rfl
 have gs0:K0.get H.n=some (.cells true false 68 (stl s) 43):=by rw[hK0];exact((Aac.refl _).alloc _).at_ (Aaa.Bp6 H _)
 have gw0:K0.get (H.n+1)=some (.cells true false 68 (stl Abs) 43):=by rw[hK0];exact Aaa.Bp6 (H.alloc _) _
 have gb0:=k0.at_ gb
 unfold Abm at gb0
 have hbl:=Aaa.Bp9 gb
 have hbl2:b<H.n+1:=by omega
 have hb1:¬b=H.n:=by omega
 have hb2:¬b=H.n+1:=by omega
 have gb':=gb
 unfold Abm at gb'
 simp(disch:=first|assumption|omega|(simp only[LN]<;>omega)|(simp(disch:=first|assumption|omega|(simp only[LN]<;>omega))only[Aab,Aad];assumption))only[Bod,P3,seval,Aak,Aat,Aaz,Aaj,Bfe,Abv,Aeq,Adv,Ab4,Ah6,Ais,Ahe,Af9,gb',hbl,hbl2,hb1,hb2,Aeb,Afr,Abn,Ab8,Acu,Afs,Auv]
 rw[Aah]
 obtain⟨K1,hK1⟩:∃X,X=(H.alloc (.cells true false 68 (stl (Ap2 s L 0)) 43)).alloc (.cells true false 68 (stl Abs) 43):=⟨_,rfl⟩
 have k1:Aac H K1:=by rw[hK1];exact((Aac.refl H).alloc _).alloc _
 have gs1:K1.get H.n=some (.cells true false 68 (stl (Ap2 s L 0)) 43):=by rw[hK1];exact((Aac.refl _).alloc _).at_ (Aaa.Bp6 H _)
 have gw1:K1.get (H.n+1)=some (.cells true false 68 (stl Abs) 43):=by rw[hK1];exact Aaa.Bp6 (H.alloc _) _
 have eT:(⟨fun i=>s.lo i&&Aby L.r.length i,fun i=>s.us i&&(s.lo i&&Aby L.r.length i),fun i=>s.ca i&&(s.lo i&&Aby L.r.length i),s.ti,fun i=>s.po i&&Aby L.p.length i⟩:Sta)=Ap2 s L 0:=by simp[Ap2]
 rw[eT,←hK1]
 refine Aan (fun q fr K=>∃i x4 x5 x9 x10,fr=[ptr b 0,.agg (stl s).toArray,ptr H.n 0,ptr (H.n+1) 0,x4,x5,.bool false,.agg (tis s.ti).toArray,.int .i64 ((i:Nat):Int),x9,x10]∧
  Aac H K∧K.get H.n=some (.cells true false 68 (stl (Ap2 s L i)) 43)∧K.get (H.n+1)=some (.cells true false 68 (stl Abs) 43)∧i≤64∧q=64-i) 64
  ⟨0,_,_,_,_,rfl,k1,gs1,gw1,by omega,rfl⟩ ?_
 rintro Q' q fr K ⟨i,x4,x5,x9,x10,rfl,kK,gs,gw,hi,rfl⟩ hn' hx' hret
 have hs1:=Aaa.Bp9 gs
 have hw1:=Aaa.Bp9 gw
 by_cases hlt:i<64
 ·have e0:(0:Int)≤(i:Int):=by omega
  have e1:(i:Int)<64:=by omega
  have hw:IntKind.i64.wrap ((i:Int)+1)=((i+1:Nat):Int):=by rw[Aae (by omega) (by omega)];simp
  have ix:=Auw K s.ti i hlt
  have st0:=Anh (Ap2 s L i) hlt
  have hll:3+i<68:=by omega
  simp(disch:=first|assumption|omega)only[P4,seval,e0,e1,ix,Aa1,gs,Aaj,st0,hll,Int.toNat_natCast,Nat.mul_one,Adv]
  refine Aag (Bha _ _) ?_
  rintro _ X ⟨rfl,hX⟩
  rw[hX,Aa9 _ hlt]
  have hca:(Ap2 s L i).ca i=(s.ca i&&(s.lo i&&Aby L.r.length i)):=rfl
  have htt:(Ac1 L s).ti i=if s.ca i&&(s.lo i&&Aby L.r.length i)then min (s.ti i) 20 else 0:=rfl
  rw[←hca]at htt
  have low:∀j,j<i→(Ap2 s L i).ti j=(Ap2 s L (i+1)).ti j:=fun j hj=>by
   show(if j<i then _ else _)=(if j<i+1 then _ else _)
   rw[if_pos hj,if_pos (by omega)]
  have up:∀j,i<j→(Ap2 s L i).ti j=(Ap2 s L (i+1)).ti j:=fun j hj=>by
   show(if j<i then _ else _)=(if j<i+1 then _ else _)
   rw[if_neg (by omega),if_neg (by omega)]
  have at_:(Ap2 s L (i+1)).ti i=(Ac1 L s).ti i:=by
   show(if i<i+1 then _ else _)=_
   rw[if_pos (by omega)]
  cases hc:(Ap2 s L i).ca i with
  |false=>
   rw[hc]at htt
   simp(disch:=first|assumption|omega)only[P4,seval,hw]
   refine hn' _ _ _ ⟨i+1,_,_,_,_,rfl,kK.set (Nat.le_refl _) hs1 _,?_,by rw[Aaa.Bp8 K (by omega) hs1];exact gw,by omega,rfl⟩ (by omega)
   rw[Aaa.Bp7 gs]
   congr 2
   refine Adn (fun _ _=>rfl) (fun _ _=>rfl) (fun _ _=>rfl) (fun j _=>?_) (fun _ _=>rfl)
   show upd _ _ _ j=_
   unfold upd
   by_cases e:j=i
   ·subst e;rw[if_pos rfl,at_,htt];rfl
   ·rw[if_neg e]
    rcases Nat.lt_or_gt_of_ne e with h|h
    ·exact low j h
    ·exact up j h
  |true=>
   rw[hc]at htt
   have hmn:min ((s.ti i:Nat):Int) 20=((min (s.ti i) 20:Nat):Int):=by omega
   have st1:=fun t:Sta=>Akw t hlt (min (s.ti i) 20)
   have gg:∀o,(K.set H.n o).get H.n=some o:=fun o=>Aaa.Bp7 gs o
   simp(disch:=first|assumption|omega)only[P4,seval,hw,e0,e1,Af5,hmn,Aa1,gg,Aaj,st1,hll,Int.toNat_natCast,Nat.mul_one]
   refine hn' _ _ _ ⟨i+1,_,_,_,_,rfl,kK.set (Nat.le_refl _) hs1 _,?_,by rw[Aaa.Bp8 K (by omega) hs1];exact gw,by omega,rfl⟩ (by omega)
   rw[Aaa.Bp7 gs]
   congr 2
   refine Adn (fun _ _=>rfl) (fun _ _=>rfl) (fun _ _=>rfl) (fun j _=>?_) (fun _ _=>rfl)
   show upd (upd _ _ _) _ _ j=_
   unfold upd
   by_cases e:j=i
   ·subst e;rw[if_pos rfl,at_,htt];rfl
   ·rw[if_neg e,if_neg e]
    rcases Nat.lt_or_gt_of_ne e with h|h
    ·exact low j h
    ·exact up j h
 ·have e1:¬((i:Nat):Int)<64:=by omega
  have hie:i=64:=by omega
  subst hie
  simp(disch:=first|assumption|omega)only[P4,seval,e1]
  refine hx' _ _ _ ?_
  have ex:stl (Ap2 s L 64)=stl (Ac1 L s):=Adn (fun _ _=>rfl) (fun _ _=>rfl) (fun _ _=>rfl) (fun j hj=>by
   show(if j<64 then _ else _)=_
   rw[if_pos hj]) (fun _ _=>rfl)
  rw[ex]at gs
  simp(disch:=first|assumption|omega)only[P4,seval,gs,gw,Abc,Abh]
  refine hq2 _ _ ⟨_,?_,rfl,kK.set (by omega) hw1 _⟩
  show Acx [.cn 68 3] _ _=_
  rw[Aqx]
  show Adm 68 (ptr (H.n+1) 0) _=_
  rw[Acq,Abj,Aaa.Bp7 gw,Abx (Aaj _)];rfl
def Bhc(L:Ly)(s:Sta):Bool:=Avs (Ac1 L s) s&&(Aa0 (fun i=>Ah5 L s.lo (Ain L) i&&s.lo i)&&Abk (fun p=>Ah5 L s.lo (nor L) p&&s.po p)&&Abk (fun p=>Ah5 L s.lo (rev L) p&& !s.po p))
set_option maxHeartbeats 1000000 in
theorem t170{H:Aaa}{b:Nat}{L:Ly}(h:MaR H b L)(hl:L.r.length≤64)(s:Sta):∃w H',Aau Tryz.prog 0 170 [ptr b 0,.agg (stl s).toArray] H w H'∧w=.bool (Bhc L s)∧H'=H:=by
 refine gcb ?_
 refine Aaq A4h Bbw ?_
 intro Q hq1 hq2
 have k0:=(Aac.refl H).alloc (.cells true false 68 (stl s) 43)
 have gs0:=Aaa.Bp6 H (.cells true false 68 (stl s) 43)
 have tT:=Bps (h.keeps k0) s
 obtain⟨vr,vl,own,room,T,gb,ms⟩:=h
 have gb0:=k0.at_ gb
 have ms0:=ms.keeps k0
 have hbl:=Aaa.Bp9 gb
 have r1:=Sl.one ms.r
 have l1:=Sl.one ms.l
 have eqs0:=fun K neg a b=>Alg K neg a b
 obtain⟨K0,hK0⟩:∃X,X=H.alloc (.cells true false 68 (stl s) 43):=⟨_,rfl⟩
 rw[←hK0]at k0 gs0 tT gb0 ms0
 have n0:H.n<K0.n:=Aaa.Bp9 gs0
 simp(disch:=first|assumption|omega)only[Boe,P3,seval,Aak,Aat,Aaz,Aaj,Abc]
 rw[←hK0]
 refine Aag tT ?_
 rintro _ X ⟨rfl,hX⟩
 rw[hX]
 unfold Bhc at hq1 hq2
 cases hsb:Avs (Ac1 L s) s with
 |false=>
  rw[hsb]at hq1 hq2
  simp(disch:=first|assumption|omega|(simp only[LN]<;>omega)|(simp(disch:=first|assumption|omega|(simp only[LN]<;>omega))only[Aab,Aad];assumption))only[Aah,P3,↓reduceIte,reduceAdd,reduceEqDiff,reduceCtorEq,Aak,reduceLT,Aat,reduceLeDiff,reduceMul,reduceSub,reduceIte,gs0,Abc,A0f,eqs0,n0,hsb]
  exact hq2 _ _ ⟨_,rfl,rfl,k0⟩
 |true=>
 rw[hsb]at hq1 hq2
 have tN:=Bpr (f:=s.lo) ms0 hl
 have tC:=t175 (f:=s.lo) ms0 hl
 unfold Abm at tN tC gb0
 simp(disch:=first|assumption|omega|(simp only[LN]<;>omega)|(simp(disch:=first|assumption|omega|(simp only[LN]<;>omega))only[Aab,Aad];assumption))only[Aah,P3,↓reduceIte,reduceAdd,reduceEqDiff,reduceCtorEq,Aak,reduceLT,Aat,reduceLeDiff,reduceMul,reduceSub,reduceIte,gs0,gb0,Abc,A0f,eqs0,n0,hsb,Abv,r1,l1]
 refine Aag tN ?_
 rintro _ X ⟨rfl,hX⟩
 rw[hX]
 simp(disch:=first|assumption|omega|(simp only[LN]<;>omega)|(simp(disch:=first|assumption|omega|(simp only[LN]<;>omega))only[Aab,Aad];assumption))only[P4,seval,gs0,gb0,Abv,r1,l1]
 refine Aag tC ?_
 rintro _ X ⟨rfl,hX⟩
 rw[hX]
 cases h1:Aa0 (fun i=>Ah5 L s.lo (Ain L) i&&s.lo i)with
 |false=>
  rw[h1]at hq1 hq2
  simp(disch:=first|assumption|omega)only[P4,seval,gs0,Abv,Ab4,Aeb,Aer,h1,n0]
  exact hq2 _ _ ⟨_,rfl,rfl,k0⟩
 |true=>
 rw[h1]at hq1 hq2
 cases h2:Abk (fun p=>Ah5 L s.lo (nor L) p&&s.po p)with
 |false=>
  rw[h2]at hq1 hq2
  simp(disch:=first|assumption|omega)only[P4,seval,gs0,Abv,Ab4,Aeb,Aer,Afr,Aow,h1,h2,n0]
  exact hq2 _ _ ⟨_,rfl,rfl,k0⟩
 |true=>
 rw[h2]at hq1 hq2
 simp(disch:=first|assumption|omega)only[P4,seval,gs0,Abv,Ab4,Aeb,Aer,Afr,Ac8,Aow,h1,h2,n0]
 exact hq2 _ _ ⟨_,rfl,rfl,k0⟩
end Go.AM.Fd

set_option maxRecDepth 100000
set_option maxHeartbeats 0
namespace Go.AM.F
def Az0:TypeId→List Value
 |_=>[]
def Az1:TypeId→Value
 |_=>undef
def Az2:TypeId→List Nat
 |_=>[]
def Az3:Nat→TypeId→List Value
 |1,3=>[(.int .i64 0)]
 |_,_=>[]
noncomputable def Bo4:Aao:=by
 refine(fun(_:Cz Az0 Az1 Az2 Az3 Go.Proofs.Tryz.prog 0 [0,2] 191 ?a)=>?a) ?h
 case h=>
 intro zc zv zk zr hc hv hk hr
 conv=>lhs;cbv;try simp only[hc,hv,hk,hr,Az0,Az1,Az2,Az3]
theorem A48:Aap Go.Proofs.Tryz.prog 0 [0,2] 191=some Bo4:=by kernel_rfl
theorem Bcu:Aaf Go.Proofs.Tryz.prog 191 1=true:=by kernel_rfl
noncomputable def Bo5:Aao:=by
 refine(fun(_:Cz Az0 Az1 Az2 Az3 Go.Proofs.Tryz.prog 0 [0,1,2,4,5,6,7] 193 ?a)=>?a) ?h
 case h=>
 intro zc zv zk zr hc hv hk hr
 have e0A:=(rfl:rfA Go.Proofs.Tryz.prog 193 0=rfA Go.Proofs.Tryz.prog 193 0);conv at e0A=>rhs;cbv
 have e0B:=(rfl:rfB Go.Proofs.Tryz.prog 193 0=rfB Go.Proofs.Tryz.prog 193 0);conv at e0B=>rhs;cbv
 conv=>lhs;cbv;try simp only[hc,hv,hk,hr,Az0,Az1,Az2,Az3];simp only[←e0A,←e0B]
theorem A49:Aap Go.Proofs.Tryz.prog 0 [0,1,2,4,5,6,7] 193=some Bo5:=by kernel_rfl
theorem Bcv:Aaf Go.Proofs.Tryz.prog 193 2=true:=by kernel_rfl
noncomputable def Aop:Abw:=by
 refine(fun(_:CzC Az0 Az1 Az2 Az3 Go.Proofs.Tryz.prog 0 13 [0,1,2,4,5,6,7] (rfA Go.Proofs.Tryz.prog 193 0) ?a)=>?a) ?h
 case h=>intro zc zv zk zr hc hv hk hr;conv=>lhs;cbv;try simp only[hc,hv,hk,hr,Az0,Az1,Az2,Az3]
theorem Aq5:Acw Go.Proofs.Tryz.prog 0 13 [0,1,2,4,5,6,7] (rfA Go.Proofs.Tryz.prog 193 0)=some Aop:=by kernel_rfl
noncomputable def Auf:Abw:=by
 refine(fun(_:CzC Az0 Az1 Az2 Az3 Go.Proofs.Tryz.prog 0 13 [0,1,2,4,5,6,7] (rfB Go.Proofs.Tryz.prog 193 0) ?a)=>?a) ?h
 case h=>intro zc zv zk zr hc hv hk hr;conv=>lhs;cbv;try simp only[hc,hv,hk,hr,Az0,Az1,Az2,Az3]
theorem Aq6:Acw Go.Proofs.Tryz.prog 0 13 [0,1,2,4,5,6,7] (rfB Go.Proofs.Tryz.prog 193 0)=some Auf:=by kernel_rfl
theorem Ax0:(Aix (rfA Go.Proofs.Tryz.prog 193 0)&&Aix (rfB Go.Proofs.Tryz.prog 193 0))=true:=by kernel_rfl
end Go.AM.F

set_option maxRecDepth 8000
namespace Go.AM.Fd
open Nat (reduceAdd reduceEqDiff reduceLT reduceLeDiff reduceMul reduceSub)
open Go.Proofs Go.AM.F
theorem Bpu{H:Aaa}(f:Nat→Bool):∃w H',Aau Tryz.prog 0 192 [S64 f] H w H'∧w=.func (.func 194) #[] #[ptr H.n 0]∧H'=H.alloc (.cells true false 1 [S64 f] 39):=by
 refine Aaq A36 Bbj ?_
 intro Q hq1 hq2
 simp(disch:=first|assumption|omega)only[Bn3,P4,seval,Ajx,Abn,Acu]
 exact hq2 _ _ ⟨_,rfl,rfl,rfl⟩
theorem Bpv{f:Nat→Bool}{rb xb T:Nat}{o r:Bool}(J:Nat→Aaa→Prop)
 (hx:∀k X,J k X→X.get xb=some (.cells o r 1 [S64 f] T))
 (hy:∀k X,k<64→f k=true→J k X→∃w X',Ae1 Tryz.prog 0 rb [.int .i64 (k:Nat)] X w X'∧w=.bool true∧J (k+1) X')
 (hs:∀k X,k<64→f k=false→J k X→J (k+1) X)
 {H:Aaa} (h0:J 0 H):∃w H',Aau Tryz.prog 0 194 [.chan (some rb),ptr xb 0] H w H'∧J 64 H':=by
 refine Aaq A37 Bbk ?_
 intro Q hq1 hq2
 simp(disch:=first|assumption|omega)only[Bn4,P3,seval,Aak,Aat]
 rw[Aah]
 refine Aan (fun q fr X=>∃k x2 x4 x5,fr=[.chan (some rb),ptr xb 0,x2,.int .i64 ((k:Nat):Int),x4,x5]∧J k X∧k≤64∧q=64-k) 64 ⟨0,_,_,_,rfl,h0,by omega,rfl⟩ ?_
 rintro Q' q fr X ⟨k,x2,x4,x5,rfl,hJ,hk,rfl⟩ hn' hx' hret
 by_cases hlt:k<64
 ·have gx:=hx k X hJ
  have e1:(k:Int)<64:=by omega
  have hw:IntKind.i64.wrap ((k:Int)+1)=((k+1:Nat):Int):=by rw[Aae (by omega) (by omega)];simp
  simp(disch:=first|assumption|omega)only[P4,seval,e1,gx]
  refine Aag (Bha _ _) ?_
  rintro _ Y ⟨rfl,hY⟩
  rw[hY,Aa9 _ hlt]
  cases hf:f k with
  |false=>
   simp(disch:=first|assumption|omega)only[P4,seval,hw]
   exact hn' _ _ _ ⟨k+1,_,_,_,rfl,hs k X hlt hf hJ,by omega,rfl⟩ (by omega)
  |true=>
   simp(disch:=first|assumption|omega)only[P4,seval,Abu]
   refine Ae3 (hy k X hlt hf hJ) ?_
   rintro _ Y ⟨rfl,hJ2⟩
   simp(disch:=first|assumption|omega)only[P4,seval,hw]
   exact hn' _ _ _ ⟨k+1,_,_,_,rfl,hJ2,by omega,rfl⟩ (by omega)
 ·have e1:¬((k:Nat):Int)<64:=by omega
  have hke:k=64:=by omega
  subst hke
  simp(disch:=first|assumption|omega)only[P4,seval,e1]
  refine hx' _ _ _ ?_
  exact hq1 _ _ ⟨_,rfl,hJ⟩
def Ap4(n:Nat)(f:Nat→Bool)(g:Nat→Nat→Bool)(p:Nat):Bool:=(List.range n).any fun i=>f i&&g i p
theorem A0j(n:Nat)(f:Nat→Bool)(g:Nat→Nat→Bool)(p:Nat):Ap4 (n+1) f g p=(Ap4 n f g p||(f n&&g n p)):=by
 unfold Ap4;rw[List.range_succ,List.any_append];simp
structure AJ (K:Aaa) (vb:Nat) (L:Alj) (f:Nat→Bool) (g:Nat→Nat→Bool) (k:Nat) (X:Aaa):Prop where
 n:K.n<X.n
 keep:∀b,b<K.n→b≠vb→X.get b=K.get b
 var:X.get vb=some (.cells true false 1 [S64 (Ap4 k f g)] 39)
 rec_:X.get K.n=some (.loop true .ready none L)
theorem Ax8(n:Nat)(hn:n≤64)(f:Nat→Bool)(g:Nat→Nat→Bool):Ap4 64 (fun i=>f i&&Aby (n:Int) i) g=Ap4 n f g:=by
 funext p
 unfold Ap4
 rw[Bool.eq_iff_iff,List.any_eq_true,List.any_eq_true]
 constructor
 ·rintro⟨i,_,h⟩
  simp only[Aby,Bool.and_eq_true,decide_eq_true_eq]at h
  exact⟨i,List.mem_range.2 (by omega),by simp[h.1.1,h.2]⟩
 ·rintro⟨i,hi,h⟩
  have:=List.mem_range.1 hi
  simp only[Bool.and_eq_true]at h
  refine⟨i,List.mem_range.2 (by omega),?_⟩
  simp only[Aby,h.1,h.2,Bool.true_and,Bool.and_true,decide_eq_true_eq]
  omega
set_option maxHeartbeats 1000000 in
theorem t190{H:Aaa}{v:Value}{n:Nat}{g:Nat→Nat→Bool}(hs:Sl H 1 v ((List.range n).map fun i=>[S64 (g i)]))(hn:n≤64)(f:Nat→Bool):
 ∃w H',Aau Tryz.prog 0 190 [v,S64 f] H w H'∧w=S64 (Ap4 n f g)∧H'=H:=by
 refine gci ?_
 refine Aaq A35 Bbi ?_
 intro Q hq1 hq2
 have one:=Sl.one hs
 have is:=Sl.is hs
 have len:=hs.len
 simp only[List.length_map,List.length_range]at len
 obtain⟨K0,hK0⟩:∃X,X=(H.alloc (.cells true false 1 [v] 165)).alloc (.cells true false 1 [.int .u64 0] 39):=⟨_,rfl⟩
 have k0:Aac H K0:=by rw[hK0];exact((Aac.refl H).alloc _).alloc _
 have n0:K0.n=H.n+2:=by rw[hK0];rfl
 have gv0:K0.get H.n=some (.cells true false 1 [v] 165):=by rw[hK0];exact((Aac.refl _).alloc _).at_ (Aaa.Bp6 H _)
 have go0:K0.get (H.n+1)=some (.cells true false 1 [.int .u64 0] 39):=by rw[hK0];exact Aaa.Bp6 (H.alloc _) _
 have hc:=Att is
 simp(disch:=first|assumption|omega|(simp only[LN]<;>omega)|(simp(disch:=first|assumption|omega|(simp only[LN]<;>omega))only[Aab,Aad];assumption))only[Bn2,P4,seval,one,is,len,hc]
 simp only[←hK0]
 refine Aaw (Bhb _) ?_
 simp(disch:=first|assumption|omega)only[P4,seval,Aeb]
 refine Aag (Bpu _) ?_
 rintro _ K ⟨rfl,hK⟩
 have kK:Aac K0 K:=by rw[hK];exact(Aac.refl K0).alloc _
 have nK:K.n=H.n+3:=by rw[hK,Acd,n0]
 have gx:K.get (H.n+2)=some (.cells true false 1 [S64 fun i=>f i&&Aby (n:Int) i] 39):=by rw[hK,←n0];exact Aaa.Bp6 K0 _
 have gvK:=kK.at_ gv0
 have goK:=kK.at_ go0
 simp(disch:=first|assumption|omega)only[P3,seval,Aak,Aat]
 rw[Aah]
 refine Ai0 rfl (Af1 (by kernel_rfl)) ?_
 obtain⟨L0,hL0⟩:∃L:Alj,L=⟨21,[0,1,2,4,5,6,12,13],[v,S64 f,ptr H.n 0,.int .u64 0,ptr (H.n+1) 0,undef,.func (.func 194) #[] #[ptr K0.n 0],undef],#[13],rfA Tryz.prog 190 0,rfB Tryz.prog 190 0⟩:=⟨_,rfl⟩
 have kL:=(Aac.refl K).alloc (.loop true .ready none L0)
 obtain⟨f',hf'⟩:∃f',f'=fun i=>f i&&Aby (n:Int) i:=⟨_,rfl⟩
 have j0:AJ K (H.n+1) L0 f' g 0 (K.alloc (.loop true .ready none L0)):=⟨by simp[Acd],fun b hb _=>kL.get b hb,by rw[kL.at_ goK,Ac2];rfl,Aaa.Bp6 K _⟩
 have tM:=Bpv (f:=f') (rb:=K.n) (xb:=H.n+2) (T:=39) (o:=true) (r:=false) (AJ K (H.n+1) L0 f' g)
  (fun k X hJ=>by rw[hJ.keep _ (by omega) (by omega),gx,hf']) ?_ (fun k X _ hfk hJ=>⟨hJ.n,hJ.keep,by
   rw[hJ.var]
   have:Ap4 (k+1) f' g=Ap4 k f' g:=by funext p;rw[A0j,hfk];simp
   rw[this],hJ.rec_⟩) j0
 ·rw[n0,hL0]at*
  obtain⟨w,X,r,hJ⟩:=tM
  refine⟨w,X,r,Aee hJ.rec_ ?_⟩
  have hrl:=Aaa.Bp9 hJ.rec_
  have gv:(X.set K.n .dead).get (H.n+1)=some (.cells true false 1 [S64 (Ap4 n f g)] 39):=by rw[Aaa.Bp8 X (by omega) hrl,hJ.var,hf',Ax8 n hn]
  simp(disch:=first|assumption|omega)only[P4,seval,gv]
  refine hq2 _ _ ⟨_,rfl,rfl,⟨by rw[Ab7];have:=hJ.n;omega,fun b hb=>?_⟩⟩
  rw[Aaa.Bp8 X (by omega) hrl,hJ.keep b (by omega) (by omega)]
  exact(k0.trans kK).get b hb
 ·intro k X hk hfk hJ
  have hkn:k<n:=by rw[hf']at hfk;simp[Aby]at hfk;exact hfk.2
  rw[hL0]at hJ ⊢
  refine Aiz (R:=fun w H'=>w=.bool true∧AJ K (H.n+1) _ f' g (k+1) H') hJ.rec_ Aq3 Aq4 Axz rfl rfl ?_
  show W Tryz.prog 0 Aoo _ [v,S64 f,ptr H.n 0,.int .u64 0,ptr (H.n+1) 0,undef,.func (.func 194) #[] #[ptr K0.n 0],.int .i64 ((k:Nat):Int)] X
  rw[←hL0]at hJ ⊢
  simp(disch:=first|assumption|omega)only[Aoo,P4,seval]
  refine⟨none,L0,hJ.rec_,?_⟩
  obtain⟨X1,hX1⟩:∃Y,Y=X.set K.n (.loop true .busy none L0):=⟨_,rfl⟩
  have hrl:=Aaa.Bp9 hJ.rec_
  have n1:X1.n=X.n:=by rw[hX1];rfl
  have oth:∀b,b≠K.n→X1.get b=X.get b:=fun b hb=>by rw[hX1];exact Aaa.Bp8 X hb hrl _
  have gr1:X1.get K.n=some (.loop true .busy none L0):=by rw[hX1];exact Aaa.Bp7 hJ.rec_ _
  have go1:X1.get (H.n+1)=some (.cells true false 1 [S64 (Ap4 k f' g)] 39):=by rw[oth _ (by omega)];exact hJ.var
  have gv1:X1.get H.n=some (.cells true false 1 [v] 165):=by rw[oth _ (by omega),hJ.keep _ (by omega) (by omega)];exact gvK
  have s1:Sl X1 1 v ((List.range n).map fun i=>[S64 (g i)]):=hs.get' (fun b e hb=>by
   rw[oth _ (by omega),hJ.keep _ (by omega) (by omega)];exact(k0.trans kK).get b hb)
  obtain⟨na,ra⟩:=s1.at_ (by omega) (i:=k) (by simpa using hkn)
  have ra':Afp X1 1 v k=some [S64 (g k)]:=by rw[ra];simp
  have e0:(0:Int)≤(k:Int):=by omega
  have e1:(k:Int)<((n:Nat):Int):=by omega
  have hol:=Aaa.Bp9 go1
  rw[←hX1]
  simp(disch:=first|assumption|omega)only[Aue,P4,seval,go1,gv1,na,ra',len,e0,e1,Aal,Ahh,Abn,Acu]
  have c2:∀o,(X1.set (H.n+1) o).get K.n=some (.loop true .busy none L0):=fun o=>by rw[Aaa.Bp8 X1 (by omega) hol];exact gr1
  unfold Aha
  rw[c2]
  have hXn:=hJ.n
  refine⟨rfl,?_,?_,?_,Aaa.Bp7 (c2 _) _⟩
  ·rw[Ab7,Ab7];omega
  ·intro b hb hb2
   rw[Aaa.Bp8 _ (by omega) (by rw[Ab7];omega),Aaa.Bp8 X1 hb2 hol,oth b (by omega)]
   exact hJ.keep b hb hb2
  ·rw[Aaa.Bp8 _ (by omega) (by rw[Ab7];omega),Aaa.Bp7 go1]
   congr 4
   congr 1
   funext p
   rw[A0j,hfk];simp
def Au5(L:Ly)(f:Nat→Bool):Nat→Bool:=Ap4 L.p.length (fun i=>decide (i<32)&&f i) (Ax6 L)
theorem Bpw{H:Aaa}{b:Nat}{L:Ly}(h:MaR H b L)(hl:L.p.length≤32)(f:Nat→Bool):∃w H',Aau Tryz.prog 0 172 [ptr b 0,S32 f] H w H'∧w=S64 (Au5 L f)∧H'=H:=by
 refine Aaq A4q Bb5 ?_
 intro Q hq1 hq2
 obtain⟨vr,vl,own,room,T,gb,ms⟩:=h
 have tA:=t190 (g:=Ax6 L) ms.l (by omega) (fun i=>decide (i<32)&&f i)
 unfold Abm at gb
 simp(disch:=first|assumption|omega)only[Bon,P4,seval,gb,Bfi]
 refine Aag tA ?_
 rintro _ X ⟨rfl,hX⟩
 rw[hX]
 simp(disch:=first|assumption|omega)only[P4,seval]
 exact hq2 _ _ ⟨_,rfl,rfl,rfl⟩
end Go.AM.Fd

set_option maxRecDepth 8000
namespace Go.AM.Fd
open Nat (reduceAdd reduceEqDiff reduceLT reduceLeDiff reduceMul reduceSub)
open Go.Proofs Go.AM.F
structure LJ (K:Aaa) (vb:Nat) (L:Alj) (f:Nat→Bool) (k:Nat) (X:Aaa):Prop where
 n:K.n<X.n
 keep:∀b,b<K.n→b≠vb→X.get b=K.get b
 rec_:X.get K.n=some (.loop true .ready none L)
 var:∃sv,X.get vb=some (.cells true false 1 [sv] 84)∧AP X 3 1 sv ((List.range k).filter f).length (((List.range k).filter f).map fun i=>Value.int .i64 (i:Nat))∧∀b,blk sv=some b→K.n<b
theorem Bfj{f:Nat→Bool}{k:Nat}(h:f k=true):(List.range (k+1)).filter f=(List.range k).filter f++[k]:=by
 rw[List.range_succ,List.filter_append];simp[h]
theorem Bmm{f:Nat→Bool}{k:Nat}(h:f k=false):(List.range (k+1)).filter f=(List.range k).filter f:=by
 rw[List.range_succ,List.filter_append];simp[h]
theorem A52(f:Nat→Bool)(k:Nat):((List.range k).filter f).length≤k:=by
 have:=List.length_filter_le f (List.range k);simpa using this
theorem AP.sl1{H:Aaa}{e:Nat}{v:Value}{l:List Value}(h:AP H e 1 v l.length l):Sl H 1 v (l.map fun x=>[x]):=by
 have hf:(l.map fun x=>[x]).flatten=l:=by
  clear h
  induction l with
  |nil=>rfl
  |cons a l ih=>simp[ih]
 exact AP.sl (n:=l.length) (by rw[hf];exact h) (by simp) (by simp)
set_option maxHeartbeats 1000000 in
theorem t193{H:Aaa}{f:Nat→Bool}{xb T:Nat}{o r:Bool}(gx:H.get xb=some (.cells o r 1 [S64 f] T)):
 ∃w H',Aau Tryz.prog 0 193 [.slice none 0 0,.func (.func 194) #[] #[ptr xb 0]] H w H'∧IL H' w (((List.range 64).filter f).map fun(i:Nat)=>(i:Int))∧Aac H H'∧Acy H.n w:=by
 refine Aaq A49 Bcv ?_
 intro Q hq1 hq2
 obtain⟨K,hK⟩:∃X,X=H.alloc (.cells true false 1 [.slice none 0 0] 84):=⟨_,rfl⟩
 have kK:Aac H K:=by rw[hK];exact(Aac.refl H).alloc _
 have nK:K.n=H.n+1:=by rw[hK];rfl
 have gv:K.get H.n=some (.cells true false 1 [.slice none 0 0] 84):=by rw[hK];exact Aaa.Bp6 H _
 have hxl:=Aaa.Bp9 gx
 simp(disch:=first|assumption|omega)only[Bo5,P3,seval,Aak,Aat]
 rw[←hK,Aah]
 refine Ai0 rfl (Af1 (by kernel_rfl)) ?_
 obtain⟨L0,hL0⟩:∃L:Alj,L=⟨13,[0,1,2,4,5,6,7],[.slice none 0 0,.func (.func 194) #[] #[ptr xb 0],ptr H.n 0,.slice none 0 0,undef,.func (.func 194) #[] #[ptr xb 0],undef],#[7],rfA Tryz.prog 193 0,rfB Tryz.prog 193 0⟩:=⟨_,rfl⟩
 rw[←hL0]
 have kL:=(Aac.refl K).alloc (.loop true .ready none L0)
 have j0:LJ K H.n L0 f 0 (K.alloc (.loop true .ready none L0)):=⟨by simp[Acd],fun b hb _=>kL.get b hb,Aaa.Bp6 K _,.slice none 0 0,kL.at_ gv,.inl ⟨rfl,rfl,rfl⟩,fun b hb=>by cases hb⟩
 have tM:=Bpv (f:=f) (rb:=K.n) (xb:=xb) (T:=T) (o:=o) (r:=r) (LJ K H.n L0 f)
  (fun k X hJ=>by rw[hJ.keep _ (by omega) (by omega)];exact kK.at_ gx) ?_ (fun k X _ hfk hJ=>by
   obtain⟨sv,v1,v2,v3⟩:=hJ.var
   exact⟨hJ.n,hJ.keep,hJ.rec_,sv,v1,by rw[Bmm hfk];exact v2,v3⟩) j0
 ·obtain⟨w,X,r,hJ⟩:=tM
  refine⟨w,X,r,Aee hJ.rec_ ?_⟩
  have hrl:=Aaa.Bp9 hJ.rec_
  obtain⟨sv,v1,v2,v3⟩:=hJ.var
  have gv2:(X.set K.n .dead).get H.n=some (.cells true false 1 [sv] 84):=by rw[Aaa.Bp8 X (by omega) hrl];exact v1
  simp(disch:=first|assumption|omega)only[P4,seval,gv2]
  have ap2:=v2.chg (Chg.set X hrl .dead) (fun b hb=>by have:=v3 b (Abo.1 hb);simp;omega)
  refine hq2 _ _ ⟨_,rfl,?_,⟨by rw[Ab7];have:=hJ.n;omega,fun b hb=>?_⟩,fun b hb=>by have:=v3 b hb;omega⟩
  ·have e:(((List.range 64).filter f).map fun(i:Nat)=>(i:Int)).map Agw=(((List.range 64).filter f).map fun i=>Value.int .i64 (i:Nat)).map fun x=>[x]:=by
    rw[List.map_map,List.map_map];rfl
   unfold IL
   rw[e]
   refine AP.sl1 (e:=3) ?_
   rw[List.length_map];exact ap2
  ·rw[Aaa.Bp8 X (by omega) hrl,hJ.keep b (by omega) (by omega)]
   exact kK.get b hb
 ·intro k X hk hfk hJ
  rw[hL0]at hJ ⊢
  refine Aiz (R:=fun w H'=>w=.bool true∧LJ K H.n _ f (k+1) H') hJ.rec_ Aq5 Aq6 Ax0 rfl rfl ?_
  show W Tryz.prog 0 Aop _ [.slice none 0 0,.func (.func 194) #[] #[ptr xb 0],ptr H.n 0,.slice none 0 0,undef,.func (.func 194) #[] #[ptr xb 0],.int .i64 ((k:Nat):Int)] X
  rw[←hL0]at hJ ⊢
  simp(disch:=first|assumption|omega)only[Aop,P4,seval]
  refine⟨none,L0,hJ.rec_,?_⟩
  obtain⟨X1,hX1⟩:∃Y,Y=X.set K.n (.loop true .busy none L0):=⟨_,rfl⟩
  have hrl:=Aaa.Bp9 hJ.rec_
  have n1:X1.n=X.n:=by rw[hX1];rfl
  have oth:∀b,b≠K.n→X1.get b=X.get b:=fun b hb=>by rw[hX1];exact Aaa.Bp8 X hb hrl _
  have gr1:X1.get K.n=some (.loop true .busy none L0):=by rw[hX1];exact Aaa.Bp7 hJ.rec_ _
  obtain⟨sv,v1,v2,v3⟩:=hJ.var
  have gv1:X1.get H.n=some (.cells true false 1 [sv] 84):=by rw[oth _ (by omega)];exact v1
  have ap1:=v2.chg (B:=X1) (by rw[hX1];exact Chg.set X hrl (.loop true .busy none L0)) (fun b hb=>by have:=v3 b (Abo.1 hb);simp;omega)
  have len:=A52 f k
  have hXn:=hJ.n
  have fW:Aa4 [.int .i64 0] [(0,1,.int .i64 ((k:Nat):Int))]=some [.int .i64 ((k:Nat):Int)]:=rfl
  rw[←hX1]
  simp(disch:=first|assumption|omega)only[Auf,P4,seval,gv1,fW]
  obtain⟨X2,hX2⟩:∃Y,Y=X1.alloc (.cells true false 1 [.int .i64 ((k:Nat):Int)] 3):=⟨_,rfl⟩
  have kX2:Aac X1 X2:=by rw[hX2];exact(Aac.refl X1).alloc _
  have el2:Aa6 X2 1 (slc X1.n 0 1 1)=some [.int .i64 ((k:Nat):Int)]:=by rw[hX2];exact Ach rfl rfl
  have n2:X2.n=X1.n+1:=by rw[hX2];rfl
  rw[←hX2]
  refine Bhg (ap1.keeps kX2) ⟨_,_,rfl⟩ el2 rfl (by omega) ?_
  intro v' K' ap' c' hb'
  have hml:H.n∉Ahm sv:=fun hm=>by have:=v3 _ (Abo.1 hm);omega
  have hmr:K.n∉Ahm sv:=fun hm=>by have:=v3 _ (Abo.1 hm);omega
  have gv3:=c'.at_ (kX2.at_ gv1) hml
  have gr3:=c'.at_ (kX2.at_ gr1) hmr
  have o1:v'.oneCell'=true:=by obtain⟨a,rfl⟩:=ap'.shape;rfl
  have hvl:=Aaa.Bp9 gv3
  have hbk:∀b,blk v'=some b→K.n<b:=fun b hb=>by
   rcases hb' with e|e
   ·exact v3 b (by rw[←e];exact hb)
   ·rw[e]at hb;cases hb;omega
  simp(disch:=first|assumption|omega)only[P4,seval,gv3,o1]
  have c2:∀o,(K'.set H.n o).get K.n=some (.loop true .busy none L0):=fun o=>by rw[Aaa.Bp8 K' (by omega) hvl];exact gr3
  unfold Aha
  rw[c2]
  have hKn:=c'.n
  refine⟨rfl,?_,?_,Aaa.Bp7 (c2 _) _,v',?_,?_,hbk⟩
  ·rw[Ab7,Ab7];omega
  ·intro b hb hb2
   rw[Aaa.Bp8 _ (by omega) (by rw[Ab7];omega),Aaa.Bp8 K' hb2 hvl,c'.get b (by omega) (fun hm=>by have:=v3 _ (Abo.1 hm);omega),kX2.get b (by omega),oth b (by omega)]
   exact hJ.keep b hb hb2
  ·rw[Aaa.Bp8 _ (by omega) (by rw[Ab7];omega),Aaa.Bp7 gv3]
  ·rw[Bfj hfk,List.length_append,List.map_append]
   refine(ap'.chg (Chg.set K' hvl _) (fun b hb=>by have:=hbk b (Abo.1 hb);simp;omega)).chg (Chg.set _ (by rw[Ab7];omega) _) (fun b hb=>by have:=hbk b (Abo.1 hb);simp;omega)
theorem t191{H:Aaa}{f:Nat→Bool}{xb T:Nat}{o r:Bool}(gx:H.get xb=some (.cells o r 1 [S64 f] T)):
 ∃w H',Aau Tryz.prog 0 191 [.func (.func 194) #[] #[ptr xb 0]] H w H'∧IL H' w (((List.range 64).filter f).map fun(i:Nat)=>(i:Int))∧Aac H H'∧Acy H.n w:=by
 refine Aaq A48 Bcu ?_
 intro Q hq1 hq2
 simp(disch:=first|assumption|omega)only[Bo4,P4,seval]
 refine Aag (t193 gx) ?_
 rintro w K ⟨h1,h2,h3⟩
 simp(disch:=first|assumption|omega)only[P4,seval]
 exact hq2 _ _ ⟨_,rfl,h1,h2,h3⟩
theorem Bpx{H:Aaa}(f:Nat→Bool):
 ∃w H',Aau Tryz.prog 0 182 [S64 f] H w H'∧IL H' w (((List.range 64).filter f).map fun(i:Nat)=>(i:Int))∧Aac H H'∧Acy H.n w:=by
 refine Aaq A38 Bbl ?_
 intro Q hq1 hq2
 simp(disch:=first|assumption|omega)only[Bn5,P4,seval]
 refine Aag (Bpu _) ?_
 rintro _ K ⟨rfl,hK⟩
 have kK:Aac H K:=by rw[hK];exact(Aac.refl H).alloc _
 have gx:K.get H.n=some (.cells true false 1 [S64 f] 39):=by rw[hK];exact Aaa.Bp6 H _
 simp(disch:=first|assumption|omega)only[P4,seval]
 refine Aag (t191 gx) ?_
 rintro w X ⟨h1,h2,h3⟩
 simp(disch:=first|assumption|omega)only[P4,seval]
 exact hq2 _ _ ⟨_,rfl,h1,kK.trans h2,fun b hb=>Nat.le_trans kK.n (h3 b hb)⟩
end Go.AM.Fd

set_option maxRecDepth 8000
namespace Go.AM.Fd
open Nat (reduceAdd reduceEqDiff reduceLT reduceLeDiff reduceMul reduceSub)
open Go.Proofs Go.AM.F
theorem Ap5(p:Nat→Bool)(i:Nat)(hp:p i=true):(S64 fun j=>(decide (j<i)&&p j)||Ac3 (i:Int) j)=S64 fun j=>decide (j<i+1)&&p j:=by
 apply Abl;intro j _
 by_cases e:j=i
 ·subst e
  have:j<j+1:=by omega
  simp[Ac3,hp,this]
 ·by_cases h:j<i
  ·have:j<i+1:=by omega
   have e2:¬((j:Int)=(i:Int)):=by omega
   simp[Ac3,h,this,e2]
  ·have:¬j<i+1:=by omega
   have e2:¬((j:Int)=(i:Int)):=by omega
   simp[Ac3,h,this,e2]
theorem Ap6(p:Nat→Bool)(i:Nat)(hp:p i=false):(S64 fun j=>decide (j<i)&&p j)=S64 fun j=>decide (j<i+1)&&p j:=by
 apply Abl;intro j _
 by_cases e:j=i
 ·subst e;simp[hp]
 ·have:decide (j<i)=decide (j<i+1):=by by_cases h:j<i<;>simp[h]<;>omega
  rw[this]
set_option maxHeartbeats 1000000 in
theorem Bmn{H:Aaa}{v:Value}{L:Ly}{p:Nat→Bool}{fn:Nat}{ca:Array Value}(hs:Sl H 6 v (Ajy L))(hl:L.r.length≤64)
 (hF:∀(K:Aaa) (i:Nat),Aac H K→i<L.r.length→∃w K',Aau Tryz.prog 0 fn ([.int .i64 (i:Nat),.agg (Ae0 L i).toArray]++ca.toList) K w K'∧w=.bool (p i)∧K'=K):
 ∃w H',Aau Tryz.prog 0 177 [v,.func (.func fn) #[] ca] H w H'∧w=S64 (fun i=>decide (i<L.r.length)&&p i)∧H'=H:=by
 refine gci ?_
 refine Aaq A4j Bby ?_
 intro Q hq1 hq2
 have is0:=Sl.is hs
 have len:=hs.len
 rw[Ac0]at len
 simp(disch:=first|assumption|omega)only[Boh,P3,seval,Aak,Aat,is0,len]
 rw[Aah]
 refine Aan (fun q fr K=>∃i x4 x5 x9 x10,fr=[v,.func (.func fn) #[] ca,.int .u64 0,S64 (fun j=>decide (j<i)&&p j),x4,x5,v,.int .i64 ((L.r.length:Nat):Int),.int .i64 ((i:Nat):Int),x9,x10]∧
  Aac H K∧i≤L.r.length∧q=L.r.length-i) L.r.length
  ⟨0,_,_,_,_,by simp only[Nat.not_lt_zero,decide_false,Bool.false_and];rw[←Ac2];rfl,Aac.refl H,by omega,rfl⟩ ?_
 rintro Q' q fr K ⟨i,x4,x5,x9,x10,rfl,kK,hi,rfl⟩ hn' hx' hret
 by_cases hlt:i<L.r.length
 ·obtain⟨na,ra⟩:=(hs.keeps kK).at_ (by omega) (i:=i) (by rw[Ac0];exact hlt)
  rw[Ahd hlt]at ra
  have e0:(0:Int)≤(i:Int):=by omega
  have e1:(i:Int)<((L.r.length:Nat):Int):=by omega
  have hw:IntKind.i64.wrap ((i:Int)+1)=((i+1:Nat):Int):=by rw[Aae (by omega) (by omega)];simp
  have kA:=(Aac.refl K).alloc (.cells true false 6 (Ae0 L i) 207)
  have hf:=hF _ i (kK.trans kA) hlt
  unfold Ae0 at ra hf kA
  simp(disch:=first|assumption|omega|(simp only[LN]<;>omega)|(simp(disch:=first|assumption|omega|(simp only[LN]<;>omega))only[Aab,Aad];assumption))only[P4,seval,e0,e1,len,na,ra,Aai,O4,Ac7,List.nil_append,List.append_nil,Adg]
  refine Aag hf ?_
  rintro _ X ⟨rfl,hX⟩
  rw[hX]
  cases hp:p i with
  |false=>
   simp(disch:=first|assumption|omega)only[P4,seval,hw]
   exact hn' _ _ _ ⟨i+1,_,_,_,_,by rw[Ap6 p i hp],kK.trans kA,by omega,rfl⟩ (by omega)
  |true=>
   simp(disch:=first|assumption|omega)only[P4,seval]
   refine Aaw (Bmf _ _) ?_
   simp(disch:=first|assumption|omega)only[P4,seval,hw]
   exact hn' _ _ _ ⟨i+1,_,_,_,_,by rw[Ap5 p i hp],kK.trans kA,by omega,rfl⟩ (by omega)
 ·have e1:¬((i:Nat):Int)<((L.r.length:Nat):Int):=by omega
  have hie:i=L.r.length:=by omega
  subst hie
  simp(disch:=first|assumption|omega)only[P4,seval,e1]
  refine hx' _ _ _ ?_
  simp(disch:=first|assumption|omega)only[P4,seval]
  exact hq2 _ _ ⟨_,rfl,rfl,kK⟩
theorem t181{H:Aaa}(i:Value)(t:Nat):∃w H',Aau Tryz.prog 0 181 [i,.int .u8 (t:Nat)] H w H'∧w=.bool (decide (t=0))∧H'=H:=by
 refine Aaq A4n Bb2 ?_
 intro Q hq1 hq2
 have e:(((t:Nat):Int)==0)=decide (t=0):=by rw[Bool.eq_iff_iff];simp
 simp(disch:=first|assumption|omega)only[Bol,P4,seval,e]
 exact hq2 _ _ ⟨_,rfl,rfl,rfl⟩
set_option maxHeartbeats 1000000 in
theorem t180{H:Aaa}{b:Nat}{s:Sta}{o r:Bool}{T:Nat}(gb:H.get b=some (.cells o r 68 (stl s) T)):
 ∃w H',Aau Tryz.prog 0 180 [slc b 3 64 64,.func (.func 181) #[] #[]] H w H'∧w=S64 (fun i=>decide (s.ti i=0))∧H'=H:=by
 refine Aaq A4m Bb1 ?_
 intro Q hq1 hq2
 simp(disch:=first|assumption|omega)only[Bok,P3,seval,Aak,Aat]
 rw[Aah]
 refine Aan (fun q fr K=>∃i x4 x5 x9 x10,fr=[slc b 3 64 64,.func (.func 181) #[] #[],.int .u64 0,S64 (fun j=>decide (j<i)&&decide (s.ti j=0)),x4,x5,slc b 3 64 64,.int .i64 64,.int .i64 ((i:Nat):Int),x9,x10]∧
  K=H∧i≤64∧q=64-i) 64
  ⟨0,_,_,_,_,by simp only[Nat.not_lt_zero,decide_false,Bool.false_and];rw[←Ac2];rfl,rfl,by omega,rfl⟩ ?_
 rintro Q' q fr K ⟨i,x4,x5,x9,x10,rfl,rfl,hi,rfl⟩ hn' hx' hret
 by_cases hlt:i<64
 ·have e0:(0:Int)≤(i:Int):=by omega
  have e1:(i:Int)<64:=by omega
  have e2:(i:Int)<((64:Nat):Int):=by omega
  have hw:IntKind.i64.wrap ((i:Int)+1)=((i+1:Nat):Int):=by rw[Aae (by omega) (by omega)];simp
  have st:=Amg s hlt
  simp(disch:=first|assumption|omega)only[P4,seval,e0,e1,e2,gb,st,Int.toNat_natCast,Nat.mul_one,Ac7,List.nil_append,List.append_nil,Adg]
  refine Aaw (t181 _ _) ?_
  cases hp:decide (s.ti i=0)with
  |false=>
   simp(disch:=first|assumption|omega)only[P4,seval,hw]
   exact hn' _ _ _ ⟨i+1,_,_,_,_,by rw[Ap6 (fun j=>decide (s.ti j=0)) i hp],rfl,by omega,rfl⟩ (by omega)
  |true=>
   simp(disch:=first|assumption|omega)only[P4,seval]
   refine Aaw (Bmf _ _) ?_
   simp(disch:=first|assumption|omega)only[P4,seval,hw]
   exact hn' _ _ _ ⟨i+1,_,_,_,_,by rw[Ap5 (fun j=>decide (s.ti j=0)) i hp],rfl,by omega,rfl⟩ (by omega)
 ·have e1:¬((i:Nat):Int)<64:=by omega
  have hie:i=64:=by omega
  subst hie
  simp(disch:=first|assumption|omega)only[P4,seval,e1]
  refine hx' _ _ _ ?_
  simp(disch:=first|assumption|omega)only[P4,seval]
  exact hq2 _ _ ⟨_,rfl,Abl fun i hi=>by simp[hi],rfl⟩
structure Inp where
 oc:Nat→Bool
 nr:Nat→Bool
 rv:Nat→Bool
def inl(i:Inp)(cv:Value):List Value:=[S64 i.oc,S32 i.nr,S32 i.rv,cv]
theorem t178{H:Aaa}{L:Ly}{i:Nat}{x:Inp}{cv:Value}{b T:Nat}{o r:Bool}(gb:H.get b=some (.cells o r 4 (inl x cv) T)):
 ∃w H',Aau Tryz.prog 0 178 [.int .i64 (i:Nat),.agg (Ae0 L i).toArray,ptr b 0] H w H'∧w=.bool (Aa0 fun j=>trP (ro L i) j&&x.oc j)∧H'=H:=by
 refine gcb ?_
 refine Aaq A4k Bbz ?_
 intro Q hq1 hq2
 have kA:=(Aac.refl H).alloc (.cells true false 6 (Ae0 L i) 207)
 have gA:=kA.at_ gb
 have hbl:=Aaa.Bp9 gb
 unfold Ae0 at kA gA ⊢
 unfold inl at gb gA
 simp(disch:=first|assumption|omega)only[Boi,P4,seval,gA,gb,hbl,O4,Aeb,Aer]
 exact hq2 _ _ ⟨_,rfl,rfl,kA⟩
theorem t179{H:Aaa}{L:Ly}{i:Nat}{x:Inp}{cv:Value}{b T:Nat}{o r:Bool}(gb:H.get b=some (.cells o r 4 (inl x cv) T)):
 ∃w H',Aau Tryz.prog 0 179 [.int .i64 (i:Nat),.agg (Ae0 L i).toArray,ptr b 0] H w H'∧w=.bool (!Aa0 fun j=>fiP (ro L i) j&&x.oc j)∧H'=H:=by
 refine gcb ?_
 refine Aaq A4l Bb0 ?_
 intro Q hq1 hq2
 have kA:=(Aac.refl H).alloc (.cells true false 6 (Ae0 L i) 207)
 have gA:=kA.at_ gb
 have hbl:=Aaa.Bp9 gb
 unfold Ae0 at kA gA ⊢
 unfold inl at gb gA
 simp(disch:=first|assumption|omega)only[Boj,P4,seval,gA,gb,hbl,O4,Aeb,Aov]
 exact hq2 _ _ ⟨_,rfl,rfl,kA⟩
def Ada(x:Inp)(p:Nat):Bool:=x.nr p&& !x.rv p
def Adb(x:Inp)(p:Nat):Bool:=x.rv p&& !x.nr p
theorem t183{H:Aaa}{L:Ly}{i:Nat}{f g:Nat→Bool}{b c T T':Nat}{o r o' r':Bool}(gb:H.get b=some (.cells o r 1 [S32 f] T))(gc:H.get c=some (.cells o' r' 1 [S32 g] T')):
 ∃w H',Aau Tryz.prog 0 183 [.int .i64 (i:Nat),.agg (Ae0 L i).toArray,ptr b 0,ptr c 0] H w H'∧w=.bool ((Abk fun p=>nor L i p&& !f p)&&(Abk fun p=>rev L i p&& !g p))∧H'=H:=by
 refine gcb ?_
 refine Aaq A4p Bb4 ?_
 intro Q hq1 hq2
 have kA:=(Aac.refl H).alloc (.cells true false 6 (Ae0 L i) 207)
 have gA:=kA.at_ gb
 have gB:=kA.at_ gc
 have hbl:=Aaa.Bp9 gb
 have hcl:=Aaa.Bp9 gc
 unfold nor rev at hq1 hq2
 unfold Ae0 at kA gA gB ⊢
 cases h1:(Abk fun p=>ndP (nds (ro L i)) false p&& !f p)with
 |false=>
  rw[h1]at hq1 hq2
  simp(disch:=first|assumption|omega)only[Bkc,P4,seval,gA,gB,gb,gc,hbl,hcl,O4,Ac8,Aow,h1]
  exact hq2 _ _ ⟨_,rfl,rfl,kA⟩
 |true=>
  rw[h1]at hq1 hq2
  simp(disch:=first|assumption|omega)only[Bkc,P4,seval,gA,gB,gb,gc,hbl,hcl,O4,Ac8,Aow,h1]
  exact hq2 _ _ ⟨_,rfl,rfl,kA⟩
theorem Bpy{H:Aaa}{x:Inp}{cv:Value}(hc:isS cv=true):
 ∃w H',Aau Tryz.prog 0 166 [.agg (inl x cv).toArray] H w H'∧w=.tuple #[S32 (Ada x),S32 (Adb x)]∧H'=H:=by
 suffices h':∃w H',Aau Tryz.prog 0 166 [.agg (inl x cv).toArray] H w H'∧w=.tuple #[S32 (Ada x),S32 (Adb x)]∧Aac H H' by
  obtain⟨_,_,a,rfl,k⟩:=h'
  exact⟨_,_,a.gc0 k (.inr (.tuple _ _ rfl (fun i a b=>by
   match i,a with
   |0,_=>exact .int _ _
   |1,_=>exact .int _ _))),rfl,rfl⟩
 refine Aaq A4o Bb3 ?_
 intro Q hq1 hq2
 have kA:=(Aac.refl H).alloc (.cells true false 4 (inl x cv) 46)
 have o1:=Aas hc
 unfold inl at kA ⊢
 simp(disch:=first|assumption|omega)only[Bom,P4,seval,o1,O4,Ac8]
 exact hq2 _ _ ⟨_,rfl,rfl,kA⟩
end Go.AM.Fd

set_option maxRecDepth 100000
set_option maxHeartbeats 0
namespace Go.AM.F
def Bop:List Value:=[(.int .u64 0),(.int .u64 0),(.int .u64 0)]++List.replicate 64 (.int .u8 0)++[(.int .u32 0)]
def Boq:List Nat:=List.replicate 68 1
def Ai1:TypeId→List Value
 |43=>Bop
 |_=>[]
def Ai2:TypeId→Value
 |_=>undef
def Ai3:TypeId→List Nat
 |43=>Boq
 |_=>[]
def Ai4:Nat→TypeId→List Value
 |_,_=>[]
noncomputable def Bor:Aao:=by
 refine(fun(_:Cz Ai1 Ai2 Ai3 Ai4 Go.Proofs.Tryz.prog 0 [0,1,2,3,4,5,6,39,45] 112 ?a)=>?a) ?h
 case h=>
 intro zc zv zk zr hc hv hk hr
 conv=>lhs;cbv;try simp only[hc,hv,hk,hr,Ai1,Ai2,Ai3,Ai4]
theorem A4s:Aap Go.Proofs.Tryz.prog 0 [0,1,2,3,4,5,6,39,45] 112=some Bor:=by kernel_rfl
theorem Bb7:Aaf Go.Proofs.Tryz.prog 112 2=true:=by kernel_rfl
noncomputable def f90:Aao:=by
 refine(fun(_:Cz Ai1 Ai2 Ai3 Ai4 Go.Proofs.Tryz.prog 0 [0,1,2,3,4,5,6,7,8,13,18,31,56,66,87] 90 ?a)=>?a) ?h
 case h=>
 intro zc zv zk zr hc hv hk hr
 conv=>lhs;cbv;try simp only[hc,hv,hk,hr,Ai1,Ai2,Ai3,Ai4]
theorem Bb8:Aap Go.Proofs.Tryz.prog 0 [0,1,2,3,4,5,6,7,8,13,18,31,56,66,87] 90=some f90:=by kernel_rfl
theorem Bkd:Aaf Go.Proofs.Tryz.prog 90 2=true:=by kernel_rfl
noncomputable def f35:Aao:=by
 refine(fun(_:Cz Ai1 Ai2 Ai3 Ai4 Go.Proofs.Tryz.prog 0 [0,2,3,4,11] 35 ?a)=>?a) ?h
 case h=>
 intro zc zv zk zr hc hv hk hr
 conv=>lhs;cbv;try simp only[hc,hv,hk,hr,Ai1,Ai2,Ai3,Ai4]
theorem Bb9:Aap Go.Proofs.Tryz.prog 0 [0,2,3,4,11] 35=some f35:=by kernel_rfl
theorem Bke:Aaf Go.Proofs.Tryz.prog 35 1=true:=by kernel_rfl
noncomputable def Bg5:Aao:=by
 refine(fun(_:Cz Ai1 Ai2 Ai3 Ai4 Go.Proofs.Tryz.prog 0 [0,1,4] 106 ?a)=>?a) ?h
 case h=>
 intro zc zv zk zr hc hv hk hr
 conv=>lhs;cbv;try simp only[hc,hv,hk,hr,Ai1,Ai2,Ai3,Ai4]
theorem A4t:Aap Go.Proofs.Tryz.prog 0 [0,1,4] 106=some Bg5:=by kernel_rfl
theorem Bca:Aaf Go.Proofs.Tryz.prog 106 2=true:=by kernel_rfl
noncomputable def Bg6:Aao:=by
 refine(fun(_:Cz Ai1 Ai2 Ai3 Ai4 Go.Proofs.Tryz.prog 0 [0,1,2,3,4,5,6,7,8,9,10,11,12,13,18,26,34,39,82] 116 ?a)=>?a) ?h
 case h=>
 intro zc zv zk zr hc hv hk hr
 conv=>lhs;cbv;try simp only[hc,hv,hk,hr,Ai1,Ai2,Ai3,Ai4]
theorem A4u:Aap Go.Proofs.Tryz.prog 0 [0,1,2,3,4,5,6,7,8,9,10,11,12,13,18,26,34,39,82] 116=some Bg6:=by kernel_rfl
theorem Bcb:Aaf Go.Proofs.Tryz.prog 116 3=true:=by kernel_rfl
noncomputable def f85:Aao:=by
 refine(fun(_:Cz Ai1 Ai2 Ai3 Ai4 Go.Proofs.Tryz.prog 0 [0,1,2,3] 85 ?a)=>?a) ?h
 case h=>
 intro zc zv zk zr hc hv hk hr
 conv=>lhs;cbv;try simp only[hc,hv,hk,hr,Ai1,Ai2,Ai3,Ai4]
theorem Bcc:Aap Go.Proofs.Tryz.prog 0 [0,1,2,3] 85=some f85:=by kernel_rfl
theorem Bkf:Aaf Go.Proofs.Tryz.prog 85 1=true:=by kernel_rfl
noncomputable def Bos:Aao:=by
 refine(fun(_:Cz Ai1 Ai2 Ai3 Ai4 Go.Proofs.Tryz.prog 0 [0,1,2,4] 117 ?a)=>?a) ?h
 case h=>
 intro zc zv zk zr hc hv hk hr
 conv=>lhs;cbv;try simp only[hc,hv,hk,hr,Ai1,Ai2,Ai3,Ai4]
theorem A4v:Aap Go.Proofs.Tryz.prog 0 [0,1,2,4] 117=some Bos:=by kernel_rfl
theorem Bcd:Aaf Go.Proofs.Tryz.prog 117 2=true:=by kernel_rfl
noncomputable def f68:Aao:=by
 refine(fun(_:Cz Ai1 Ai2 Ai3 Ai4 Go.Proofs.Tryz.prog 0 [0,1,4,15] 68 ?a)=>?a) ?h
 case h=>
 intro zc zv zk zr hc hv hk hr
 conv=>lhs;cbv;try simp only[hc,hv,hk,hr,Ai1,Ai2,Ai3,Ai4]
theorem Bce:Aap Go.Proofs.Tryz.prog 0 [0,1,4,15] 68=some f68:=by kernel_rfl
theorem Bkg:Aaf Go.Proofs.Tryz.prog 68 2=true:=by kernel_rfl
noncomputable def Bot:Aao:=by
 refine(fun(_:Cz Ai1 Ai2 Ai3 Ai4 Go.Proofs.Tryz.prog 0 [0,2,3,4,7] 107 ?a)=>?a) ?h
 case h=>
 intro zc zv zk zr hc hv hk hr
 conv=>lhs;cbv;try simp only[hc,hv,hk,hr,Ai1,Ai2,Ai3,Ai4]
theorem A4w:Aap Go.Proofs.Tryz.prog 0 [0,2,3,4,7] 107=some Bot:=by kernel_rfl
theorem Bcf:Aaf Go.Proofs.Tryz.prog 107 1=true:=by kernel_rfl
noncomputable def f83:Aao:=by
 refine(fun(_:Cz Ai1 Ai2 Ai3 Ai4 Go.Proofs.Tryz.prog 0 [0,1,2,3] 83 ?a)=>?a) ?h
 case h=>
 intro zc zv zk zr hc hv hk hr
 conv=>lhs;cbv;try simp only[hc,hv,hk,hr,Ai1,Ai2,Ai3,Ai4]
theorem Bcg:Aap Go.Proofs.Tryz.prog 0 [0,1,2,3] 83=some f83:=by kernel_rfl
theorem Bkh:Aaf Go.Proofs.Tryz.prog 83 1=true:=by kernel_rfl
noncomputable def Bou:Aao:=by
 refine(fun(_:Cz Ai1 Ai2 Ai3 Ai4 Go.Proofs.Tryz.prog 0 [0,1,4,5,9,17] 135 ?a)=>?a) ?h
 case h=>
 intro zc zv zk zr hc hv hk hr
 conv=>lhs;cbv;try simp only[hc,hv,hk,hr,Ai1,Ai2,Ai3,Ai4]
theorem A4x:Aap Go.Proofs.Tryz.prog 0 [0,1,4,5,9,17] 135=some Bou:=by kernel_rfl
theorem Bch:Aaf Go.Proofs.Tryz.prog 135 2=true:=by kernel_rfl
noncomputable def Bov:Aao:=by
 refine(fun(_:Cz Ai1 Ai2 Ai3 Ai4 Go.Proofs.Tryz.prog 0 [0,1,2,4,5,6,12,28,35] 136 ?a)=>?a) ?h
 case h=>
 intro zc zv zk zr hc hv hk hr
 conv=>lhs;cbv;try simp only[hc,hv,hk,hr,Ai1,Ai2,Ai3,Ai4]
theorem A4y:Aap Go.Proofs.Tryz.prog 0 [0,1,2,4,5,6,12,28,35] 136=some Bov:=by kernel_rfl
theorem Bci:Aaf Go.Proofs.Tryz.prog 136 2=true:=by kernel_rfl
end Go.AM.F

set_option maxRecDepth 8000
namespace Go.AM.Fd
open Nat (reduceAdd reduceEqDiff reduceLT reduceLeDiff reduceMul reduceSub)
open Go.Proofs Go.AM.F
theorem Bpz{H:Aaa}{n:Nat}(hn:n<64):∃w H',Aau Tryz.prog 0 107 [.int .i64 (n:Nat)] H w H'∧w=.int .u64 ((2 ^ n:Nat):Int)∧H'=H:=by
 refine Aaq A4w Bcf ?_
 intro Q hq1 hq2
 simp(disch:=first|assumption|omega)only[Bot,P3,seval,Aak,Aat]
 rw[Aah]
 refine Aan (fun q fr K=>∃i x4,fr=[.int .i64 ((n:Nat):Int),.int .u64 0,.int .u64 ((2 ^ i:Nat):Int),.int .i64 ((i:Nat):Int),x4]∧K=H∧i≤n∧q=n-i) n
  ⟨0,_,rfl,rfl,by omega,rfl⟩ ?_
 rintro Q' q fr K ⟨i,x4,rfl,rfl,hi,rfl⟩ hn' hx' hret
 by_cases hlt:i<n
 ·have e1:(i:Int)<((n:Nat):Int):=by omega
  have hw:IntKind.i64.wrap ((i:Int)+1)=((i+1:Nat):Int):=by rw[Aae (by omega) (by omega)];simp
  have hp:2 ^ (i+1)<U:=A5t (by omega)
  have hm:IntKind.u64.wrap (((2 ^ i:Nat):Int)*2)=((2 ^ (i+1):Nat):Int):=by
   have:((2 ^ i:Nat):Int)*2=((2 ^ (i+1):Nat):Int):=by rw[Nat.pow_succ];simp
   rw[this,w64 _ hp]
  simp(disch:=first|assumption|omega)only[P4,seval,e1,hm,hw]
  exact hn' _ _ _ ⟨i+1,_,rfl,rfl,by omega,rfl⟩ (by omega)
 ·have e1:¬((i:Nat):Int)<((n:Nat):Int):=by omega
  have hie:i=n:=by omega
  subst hie
  simp(disch:=first|assumption|omega)only[P4,seval,e1]
  refine hx' _ _ _ ?_
  simp(disch:=first|assumption|omega)only[P4,seval]
  exact hq2 _ _ ⟨_,rfl,rfl,rfl⟩
theorem Bmr(f:Nat→Bool)(n:Nat):Ab9 .quo (S64 f) (.int .u64 ((2 ^ n:Nat):Int))=some (S64 fun i=>decide (i+n<64)&&f (i+n)):=by
 unfold S64
 have hp:0<2 ^ n:=Nat.pow_pos (by omega)
 rw[Bhz _ _ _ (by omega)]
 have:Int.tdiv ((Aa3 f 64:Nat):Int) ((2 ^ n:Nat):Int)=((Aa3 f 64 / 2 ^ n:Nat):Int):=rfl
 rw[this,Aou,w64 _ (Acp _ _)]
theorem Bfp(f:Nat→Bool):Ab9 .rem (S64 f) (.int .u64 2)=some (I1 (f 0)):=by
 unfold S64 I1
 rw[A7m _ _ _ (by omega)]
 have h1:Int.tmod ((Aa3 f 64:Nat):Int) 2=((Aa3 f 64 % 2:Nat):Int):=rfl
 have h2:=Abf f 0 64
 rw[Nat.testBit_zero]at h2
 rw[h1]
 cases hf:f 0 with
 |true=>rw[hf]at h2;simp at h2;rw[h2];rfl
 |false=>rw[hf]at h2;simp at h2;rw[h2];rfl
theorem Anv{H:Aaa}(f:Nat→Bool)(n:Int):∃w H',Aau Tryz.prog 0 106 [S64 f,.int .i64 n] H w H'∧w=.bool (Ab2 f n)∧H'=H:=by
 refine Aaq A4t Bca ?_
 intro Q hq1 hq2
 unfold Ab2 at hq1 hq2
 by_cases h1:0≤n
 ·by_cases h2:n≤63
  ·obtain⟨m,rfl⟩:∃m:Nat,n=(m:Int):=⟨n.toNat,by omega⟩
   have h3:m<64:=by omega
   simp(disch:=first|assumption|omega)only[Bg5,P4,seval,h1,h2]
   refine Aaw (Bpz h3) ?_
   simp(disch:=first|assumption|omega)only[P4,seval,Bmr,Bfp,A50]
   refine hq2 _ _ ⟨.bool _,rfl,?_,rfl⟩
   have h4:(m:Int)<64:=by omega
   simp;intro _;omega
  ·have h4:¬n<64:=by omega
   simp(disch:=first|assumption|omega)only[Bg5,P4,seval,h1,h2]
   exact hq2 _ _ ⟨.bool _,rfl,by simp[h4],rfl⟩
 ·simp(disch:=first|assumption|omega)only[Bg5,P4,seval,h1]
  exact hq2 _ _ ⟨.bool _,rfl,by simp[h1],rfl⟩
theorem Bfq{a b:Nat}(ha:a<U)(hb:b<U)(h:a&&& b=0):a+b=a|||b∧a+b<U:=by
 have hh:BitVec.ofNat 64 a&&& BitVec.ofNat 64 b=0#64:=by
  apply BitVec.eq_of_toNat_eq
  rw[BitVec.toNat_and,BitVec.toNat_ofNat,BitVec.toNat_ofNat,Nat.mod_eq_of_lt ha,Nat.mod_eq_of_lt hb,h];rfl
 have h2:=BitVec.add_eq_or_of_and_eq_zero _ _ hh
 have ho:a|||b<U:=or_u ha hb
 have h3:=congrArg BitVec.toNat h2
 rw[BitVec.toNat_add,BitVec.toNat_or,BitVec.toNat_ofNat,BitVec.toNat_ofNat,Nat.mod_eq_of_lt ha,Nat.mod_eq_of_lt hb]at h3
 have h5:a+b=a|||b+0:=by
  rcases Nat.lt_or_ge (a+b) U with hlt|hge
  ·rw[Nat.mod_eq_of_lt hlt]at h3;simpa using h3
  ·exfalso
   have hor:a≤a|||b:=Nat.left_le_or
   have:(a+b) % 2 ^ 64=a+b-U:=by
    have hu:(2:Nat) ^ 64=U:=rfl
    rw[hu,Nat.mod_eq_sub_mod hge,Nat.mod_eq_of_lt (by omega)]
   omega
 simp only[Nat.add_zero]at h5
 exact⟨h5,by rw[h5];exact ho⟩
theorem Bfr(f:Nat→Bool){n:Nat}(hn:n<64)(hf:f n=false):Ab9 .add (S64 f) (.int .u64 ((2 ^ n:Nat):Int))=some (S64 fun i=>f i||Ac3 (n:Nat) i):=by
 unfold S64
 have h0:Aa3 f 64&&& 2 ^ n=0:=by
  rw[Ajz hn,Aot,←Ax7 64]
  apply Afh;intro m _
  by_cases e:m=n
  ·subst e;simp[hf]
  ·simp[e]
 obtain⟨h1,h2⟩:=Bfq (Be5 f (by omega)) (A5t hn) h0
 have e:((Aa3 f 64:Nat):Int)+((2 ^ n:Nat):Int)=((Aa3 f 64+2 ^ n:Nat):Int):=by simp
 rw[A7k,e,w64 _ h2,h1,Ajz hn,Au0]
 congr 4
 congr 1
 funext i
 simp only[Ac3,Int.ofNat_inj]
theorem t68{H:Aaa}(f:Nat→Bool)(n:Int):∃w H',Aau Tryz.prog 0 68 [S64 f,.int .i64 n] H w H'∧w=S64 (fun i=>f i||Ac3 n i)∧H'=H:=by
 refine Aaq Bce Bkg ?_
 intro Q hq1 hq2
 by_cases h1:n<0
 ·simp(disch:=first|assumption|omega)only[f68,P4,seval,h1]
  refine hq2 _ _ ⟨S64 _,rfl,?_,rfl⟩
  apply Abl;intro i hi
  have:¬(i:Int)=n:=by omega
  simp[Ac3,this]
 ·by_cases h2:63<n
  ·simp(disch:=first|assumption|omega)only[f68,P4,seval,h1,h2]
   refine hq2 _ _ ⟨S64 _,rfl,?_,rfl⟩
   apply Abl;intro i hi
   have:¬(i:Int)=n:=by omega
   simp[Ac3,this]
  ·obtain⟨m,rfl⟩:∃m:Nat,n=(m:Int):=⟨n.toNat,by omega⟩
   have h3:m<64:=by omega
   simp(disch:=first|assumption|omega)only[f68,P4,seval,h1,h2]
   refine Aag (Anv _ _) ?_
   rintro _ X ⟨rfl,hX⟩
   rw[hX,Aa9 _ h3]
   cases hf:f m with
   |true=>
    simp(disch:=first|assumption|omega)only[P4,seval]
    refine hq2 _ _ ⟨S64 _,rfl,?_,rfl⟩
    apply Abl;intro i hi
    by_cases e:i=m
    ·subst e;simp[hf]
    ·have:¬(i:Int)=(m:Int):=by omega
     simp[Ac3,this]
   |false=>
    have sa:=Bfr f h3 hf
    simp(disch:=first|assumption|omega)only[P4,seval]
    refine Aaw (Bpz h3) ?_
    simp(disch:=first|assumption|omega)only[P4,seval,sa]
    exact hq2 _ _ ⟨_,rfl,rfl,rfl⟩
theorem t35{H:Aaa}(n:Int):∃w H',Aau Tryz.prog 0 35 [.int .i64 n] H w H'∧w=S64 (Aby n)∧H'=H:=by
 refine Aaq Bb9 Bke ?_
 intro Q hq1 hq2
 simp(disch:=first|assumption|omega)only[f35,P3,seval,Aak,Aat]
 rw[Aah]
 refine Aan (fun q fr K=>∃i x4,fr=[.int .i64 n,.int .u64 0,S64 (Aby (i:Nat)),.int .i64 ((i:Nat):Int),x4]∧K=H∧i≤64∧(i=0∨(i:Int)≤n)∧q=64-i) 64
  ⟨0,undef,by rw[show S64 (Aby ((0:Nat):Int))=.int .u64 0 from by rw[Ac2];exact Abl fun i _=>by simp[Aby]];rfl,rfl,by omega,.inl rfl,rfl⟩ ?_
 rintro Q' q fr K ⟨i,x4,rfl,rfl,hi,hin,rfl⟩ hn' hx' hret
 by_cases h1:(i:Int)<n
 ·by_cases h2:i<64
  ·have e2:(i:Int)<64:=by omega
   have hw:IntKind.i64.wrap ((i:Int)+1)=((i+1:Nat):Int):=by rw[Aae (by omega) (by omega)];simp
   simp(disch:=first|assumption|omega)only[P4,seval,h1,e2]
   refine Aaw (t68 _ _) ?_
   simp(disch:=first|assumption|omega)only[P4,seval,hw]
   refine hn' _ _ _ ⟨i+1,.bool true,?_,rfl,by omega,.inr (by omega),rfl⟩ (by omega)
   congr 3
   apply Abl;intro j _
   by_cases e:j<i
   ·have a1:(j:Int)<(i:Int):=by omega
    have a2:(j:Int)<((i+1:Nat):Int):=by omega
    simp[Aby,Ac3,a1,a2];omega
   ·by_cases e3:j=i
    ·subst e3;simp[Aby,Ac3];omega
    ·have a1:¬(j:Int)<(i:Int):=by omega
     have a2:¬(j:Int)<((i+1:Nat):Int):=by omega
     have a3:¬(j:Int)=(i:Int):=by omega
     simp[Aby,Ac3,a1,a2,a3];omega
  ·have e2:¬(i:Int)<64:=by omega
   simp(disch:=first|assumption|omega)only[P4,seval,h1,e2]
   refine hx' _ _ _ ?_
   simp(disch:=first|assumption|omega)only[P4,seval]
   refine hq2 _ _ ⟨S64 _,rfl,?_,rfl⟩
   apply Abl;intro j hj
   have a1:(j:Int)<(i:Int):=by omega
   have a2:(j:Int)<n:=by omega
   simp[Aby,a1,a2]
 ·simp(disch:=first|assumption|omega)only[P4,seval,h1]
  refine hx' _ _ _ ?_
  simp(disch:=first|assumption|omega)only[P4,seval]
  refine hq2 _ _ ⟨S64 _,rfl,?_,rfl⟩
  apply Abl;intro j hj
  simp only[Aby]
  rw[decide_eq_decide]
  omega
end Go.AM.Fd

set_option maxRecDepth 8000
namespace Go.AM.Fd
open Nat (reduceAdd reduceEqDiff reduceLT reduceLeDiff reduceMul reduceSub)
open Go.Proofs Go.AM.F
theorem t83{H:Aaa}{x:RV}(h:x.ok H)(hl:x.r.path.length+x.r.ov.length≤1000000):
 ∃w H',Aau Tryz.prog 0 83 [.agg x.row.toArray] H w H'∧IL H' w (trk x.r)∧Aac H H'∧Acy H.n w:=by
 refine Aaq Bcg Bkh ?_
 intro Q hq1 hq2
 have o1:one1 (Value.int .i64 x.r.g)=True:=by simp[one1,Aax]
 have o2:one1 (Value.string ⟨x.r.n.toArray⟩)=True:=by simp[one1,Abe]
 obtain⟨a3,a4,a5,a6⟩:=RV.ones h
 have hp:=h.p
 have ho:=h.o
 have rowx:x.row=[.string ⟨x.r.n.toArray⟩,.int .i64 x.r.g,x.vp,x.vq,x.vo,x.vf]:=rfl
 obtain⟨K,hK⟩:∃X,X=H.alloc (.cells true false 6 x.row 87):=⟨_,rfl⟩
 have kK:Aac H K:=by rw[hK];exact(Aac.refl H).alloc _
 have gK:K.get H.n=some (.cells true false 6 x.row 87):=by rw[hK];exact Aaa.Bp6 H _
 rw[rowx]at hK gK ⊢
 simp(disch:=first|assumption|omega)only[f83,P4,seval,o1,o2,a3,a4,a5,a6]
 rw[←hK]
 refine OW.appR (OW.nil 3 1 kK) (Sl.keeps hp kK) (by simp;omega) ?_
 intro v K2 ow c2
 have kK2:Aac K K2:=by rw[show Ahm (Value.slice none 0 0)=[]from rfl]at c2;exact c2.keeps (by simp)
 have gK2:=kK2.at_ gK
 simp(disch:=first|assumption|omega)only[P4,seval,gK2]
 refine OW.appR ow (Sl.keeps ho (kK.trans kK2)) (by simp;omega) ?_
 intro v2 K3 ow2 c3
 simp(disch:=first|assumption|omega)only[P4,seval]
 refine hq2 _ _ ⟨v2,rfl,?_,ow2.k,ow2.f⟩
 have:=ow2.sl
 simpa[IL,trk]using this
theorem t85{H:Aaa}{x:RV}(h:x.ok H)(hl:x.r.pts.length+x.r.fl.length≤1000000):
 ∃w H',Aau Tryz.prog 0 85 [.agg x.row.toArray] H w H'∧NL H' w (nds x.r)∧Aac H H'∧Acy H.n w:=by
 refine Aaq Bcc Bkf ?_
 intro Q hq1 hq2
 have o1:one1 (Value.int .i64 x.r.g)=True:=by simp[one1,Aax]
 have o2:one1 (Value.string ⟨x.r.n.toArray⟩)=True:=by simp[one1,Abe]
 obtain⟨a3,a4,a5,a6⟩:=RV.ones h
 have hp:=h.q
 have ho:=h.f
 have rowx:x.row=[.string ⟨x.r.n.toArray⟩,.int .i64 x.r.g,x.vp,x.vq,x.vo,x.vf]:=rfl
 obtain⟨K,hK⟩:∃X,X=H.alloc (.cells true false 6 x.row 87):=⟨_,rfl⟩
 have kK:Aac H K:=by rw[hK];exact(Aac.refl H).alloc _
 have gK:K.get H.n=some (.cells true false 6 x.row 87):=by rw[hK];exact Aaa.Bp6 H _
 rw[rowx]at hK gK ⊢
 simp(disch:=first|assumption|omega)only[f85,P4,seval,o1,o2,a3,a4,a5,a6]
 rw[←hK]
 refine OW.appR (OW.nil 120 2 kK) (Sl.keeps hp kK) (by simp;omega) ?_
 intro v K2 ow c2
 have kK2:Aac K K2:=by rw[show Ahm (Value.slice none 0 0)=[]from rfl]at c2;exact c2.keeps (by simp)
 have gK2:=kK2.at_ gK
 simp(disch:=first|assumption|omega)only[P4,seval,gK2]
 refine OW.appR ow (Sl.keeps ho (kK.trans kK2)) (by simp;omega) ?_
 intro v2 K3 ow2 c3
 simp(disch:=first|assumption|omega)only[P4,seval]
 refine hq2 _ _ ⟨v2,rfl,?_,ow2.k,ow2.f⟩
 have:=ow2.sl
 simpa[NL,nds]using this
theorem Ayc{l:List Int}{i:Nat}{n:Int}(h:i<l.length)(hp:(l.take i).contains n=false)(hx:(l.getD i 0==n)=false):(l.take (i+1)).contains n=false:=by
 rw[List.take_add_one,List.getElem?_eq_getElem h,List.contains_append,hp]
 rw[List.getD_eq_getElem?_getD,List.getElem?_eq_getElem h]at hx
 simp only[Option.getD_some]at hx
 simp only[Option.toList_some,List.contains_cons,List.contains_nil,Bool.or_false,Bool.false_or]
 rw[Bool.eq_false_iff];intro e
 have:=beq_iff_eq.1 e
 simp[this]at hx
theorem Bms{H:Aaa}{v:Value}{l:List Int}(h:IL H v l)(hl:l.length≤1000000)(n:Int):
 ∃w H',Aau Tryz.prog 0 135 [v,.int .i64 n] H w H'∧w=.bool (l.contains n)∧H'=H:=by
 refine Aaq A4x Bch ?_
 intro Q hq1 hq2
 have is:=Sl.is h
 have len:=h.len
 simp(disch:=first|assumption|omega)only[Bou,P3,seval,Aak,Aat]
 rw[Aah]
 refine Aan (fun q fr K=>∃i x4 x5,fr=[v,.int .i64 n,.bool false,.int .i64 ((i:Nat):Int),x4,x5]∧K=H∧i≤l.length∧(l.take i).contains n=false∧q=l.length-i) l.length
  ⟨0,_,_,rfl,rfl,by omega,by simp,rfl⟩ ?_
 rintro Q' q fr K ⟨i,x4,x5,rfl,rfl,hi,hp,rfl⟩ hn' hx' hret
 by_cases hlt:i<l.length
 ·obtain⟨na,ra⟩:=h.at_ hlt
  have e0:(0:Int)≤(i:Int):=by omega
  have e1:(i:Int)<((l.length:Nat):Int):=by omega
  have hw:IntKind.i64.wrap ((i:Int)+1)=((i+1:Nat):Int):=by rw[Aae (by omega) (by omega)];simp
  have hgd:l.getD i 0∈l:=by rw[List.getD_eq_getElem?_getD,List.getElem?_eq_getElem hlt];exact List.getElem_mem hlt
  cases hx:(l.getD i 0==n)with
  |true=>
   simp(disch:=first|assumption|omega)only[P4,seval,is,len,e0,e1,na,ra,Aal,hx]
   refine hret _ _ ?_
   refine hq2 _ _ ⟨_,rfl,?_,rfl⟩
   have:l.contains n=true:=List.contains_iff_mem.2 (by rw[←beq_iff_eq.1 hx];exact hgd)
   rw[this];rfl
  |false=>
   simp(disch:=first|assumption|omega)only[P4,seval,is,len,e0,e1,na,ra,Aal,hx,hw]
   exact hn' _ _ _ ⟨i+1,_,_,rfl,rfl,by omega,Ayc hlt hp hx,rfl⟩ (by omega)
 ·have e1:¬((i:Nat):Int)<((l.length:Nat):Int):=by omega
  have hie:i=l.length:=by omega
  subst hie
  rw[List.take_length]at hp
  simp(disch:=first|assumption|omega)only[P4,seval,is,len,e1]
  refine hx' _ _ _ ?_
  simp(disch:=first|assumption|omega)only[P4,seval]
  exact hq2 _ _ ⟨_,rfl,by rw[hp];rfl,rfl⟩
def kO:Option Bool→Int
 |some true=>2
 |some false=>1
 |none=>0
def nkB(l:List (Int×Bool))(p:Int):Int:=kO (Abq p l)
set_option maxHeartbeats 1000000 in
theorem Bp0{H:Aaa}{x:RV}(h:x.ok H)(hl:x.r.pts.length+x.r.fl.length≤1000000)(p:Int):
 ∃w H',Aau Tryz.prog 0 136 [.agg x.row.toArray,.int .i64 p] H w H'∧w=.int .i64 (nkB (nds x.r) p)∧H'=H:=by
 suffices h':∃w H',Aau Tryz.prog 0 136 [.agg x.row.toArray,.int .i64 p] H w H'∧w=.int .i64 (nkB (nds x.r) p)∧Aac H H' by
  obtain⟨_,_,a,rfl,k⟩:=h'
  exact⟨_,_,a.gc0 k (.inr (.int _ _)),rfl,rfl⟩
 refine Aaq A4y Bci ?_
 intro Q hq1 hq2
 have o1:one1 (Value.int .i64 x.r.g)=True:=by simp[one1,Aax]
 have o2:one1 (Value.string ⟨x.r.n.toArray⟩)=True:=by simp[one1,Abe]
 obtain⟨a3,a4,a5,a6⟩:=RV.ones h
 have rowx:x.row=[.string ⟨x.r.n.toArray⟩,.int .i64 x.r.g,x.vp,x.vq,x.vo,x.vf]:=rfl
 have kA:=(Aac.refl H).alloc (.cells true false 6 x.row 87)
 have tN:=t85 (h.keeps kA) hl
 rw[rowx]at kA tN ⊢
 simp(disch:=first|assumption|omega|(simp only[LN]<;>omega)|(simp(disch:=first|assumption|omega|(simp only[LN]<;>omega))only[Aab,Aad];assumption))only[Bov,P4,seval,o1,o2,a3,a4,a5,a6]
 refine Aag tN ?_
 rintro nv K ⟨hn,kK,fn⟩
 have is:=Sl.is hn
 have len:=hn.len
 have nl:(nds x.r).length≤1000000:=by simp[nds];omega
 generalize nds x.r=l at*
 simp(disch:=first|assumption|omega)only[P3,seval,Aak,Aat]
 rw[Aah]
 refine Aan (fun q fr X=>∃i x6 x7 x8,fr=[.agg #[.string ⟨x.r.n.toArray⟩,.int .i64 x.r.g,x.vp,x.vq,x.vo,x.vf],.int .i64 p,ptr H.n 0,.int .i64 0,nv,.int .i64 ((i:Nat):Int),x6,x7,x8]∧X=K∧i≤l.length∧Abq p (l.take i)=none∧q=l.length-i) l.length
  ⟨0,_,_,_,rfl,rfl,by omega,rfl,rfl⟩ ?_
 rintro Q' q fr X ⟨i,x6,x7,x8,rfl,rfl,hi,hp,rfl⟩ hn' hx' hret
 by_cases hlt:i<l.length
 ·obtain⟨na,ra⟩:=hn.at_ hlt
  have e0:(0:Int)≤(i:Int):=by omega
  have e1:(i:Int)<((l.length:Nat):Int):=by omega
  have hw:IntKind.i64.wrap ((i:Int)+1)=((i+1:Nat):Int):=by rw[Aae (by omega) (by omega)];simp
  obtain⟨z,hz⟩:∃z,z=l[i]:=⟨_,rfl⟩
  have hgd:l.getD i (0,false)=z:=by rw[List.getD_eq_getElem?_getD,List.getElem?_eq_getElem hlt,hz];rfl
  have hsp:l=l.take i++z::l.drop (i+1):=by rw[hz,←List.drop_eq_getElem_cons hlt,List.take_append_drop]
  have htk:l.take (i+1)=l.take i++[z]:=by rw[List.take_add_one,List.getElem?_eq_getElem hlt,hz];rfl
  have hfn:(l.take i).find? (fun x=>x.1==p)=none:=by unfold Abq at hp;simpa using hp
  have hyes:(z.1==p)=true→Abq p l=some z.2:=fun e=>by
   have:Abq p (l.take i++z::l.drop (i+1))=some z.2:=by
    unfold Abq;rw[List.find?_append,hfn];simp[e]
   rw[←hsp]at this;exact this
  have hno:(z.1==p)=false→Abq p (l.take (i+1))=none:=fun e=>by
   unfold Abq;rw[htk,List.find?_append,hfn];simp[e]
  rw[hgd]at ra
  clear hz hgd hsp htk
  obtain⟨zp,zb⟩:=z
  simp only at ra hyes hno
  cases hx:(zp==p)with
  |true=>
   have hs:=hyes hx
   cases zb with
   |true=>
    simp(disch:=first|assumption|omega)only[P4,seval,is,len,e0,e1,na,ra,Aal,hx]
    refine hret _ _ ?_
    exact hq2 _ _ ⟨_,rfl,by unfold nkB;rw[hs];rfl,kA.trans kK⟩
   |false=>
    simp(disch:=first|assumption|omega)only[P4,seval,is,len,e0,e1,na,ra,Aal,hx]
    refine hret _ _ ?_
    exact hq2 _ _ ⟨_,rfl,by unfold nkB;rw[hs];rfl,kA.trans kK⟩
  |false=>
   simp(disch:=first|assumption|omega)only[P4,seval,is,len,e0,e1,na,ra,Aal,hx,hw]
   exact hn' _ _ _ ⟨i+1,_,_,_,rfl,rfl,by omega,hno hx,rfl⟩ (by omega)
 ·have e1:¬((i:Nat):Int)<((l.length:Nat):Int):=by omega
  have hie:i=l.length:=by omega
  subst hie
  rw[List.take_length]at hp
  simp(disch:=first|assumption|omega)only[P4,seval,is,len,e1]
  refine hx' _ _ _ ?_
  simp(disch:=first|assumption|omega)only[P4,seval]
  exact hq2 _ _ ⟨_,rfl,by unfold nkB;rw[hp];rfl,kA.trans kK⟩
theorem Bmt(x y:Option Bool)(s t:Bool):(decide (kO x≠kO y)&&(decide (0<kO x)&&decide (0<kO y)||decide (0<kO x)&&s||decide (0<kO y)&&t))=((x.isSome&&y.isSome||x.isSome&&s||y.isSome&&t)&& !(x==y)):=by
 rcases x with _|_|_<;>rcases y with _|_|_<;>cases s<;>cases t<;>decide
theorem Bfs(L:Ly)(a b:Ro)(p:Nat):(decide (nkB (nds a) p≠nkB (nds b) p)&&(decide (0<nkB (nds a) p)&&decide (0<nkB (nds b) p)||decide (0<nkB (nds a) p)&&(trk b).contains (L.p.getD p ([],0)).2 ||decide (0<nkB (nds b) p)&&(trk a).contains (L.p.getD p ([],0)).2))=cPt L a b p:=Bmt _ _ _ _
set_option maxHeartbeats 2000000 in
theorem Bp1{H:Aaa}{u:V4}{xs:List RV}{L:Ly}{a b:RV}(h:LyR H u xs L)(oa:a.ok H)(ob:b.ok H)(la:Air L a.r)(lb:Air L b.r)(hL:Ah4 L):
 ∃w H',Aau Tryz.prog 0 116 [.agg u.l.toArray,.agg a.row.toArray,.agg b.row.toArray] H w H'∧w=.bool (Adk L a.r b.r)∧H'=H:=by
 suffices h':∃w H',Aau Tryz.prog 0 116 [.agg u.l.toArray,.agg a.row.toArray,.agg b.row.toArray] H w H'∧w=.bool (Adk L a.r b.r)∧Aac H H' by
  obtain⟨_,_,r,rfl,k⟩:=h'
  exact⟨_,_,r.gc0 k (.inr (.bool _)),rfl,rfl⟩
 refine Aaq A4u Bcb ?_
 intro Q hq1 hq2
 have lpp:=hL.p
 have lP:=la.p
 have lO:=la.o
 have lQ:=la.q
 have lF:=la.f
 have mP:=lb.p
 have mO:=lb.o
 have mQ:=lb.q
 have mF:=lb.f
 have os:=Sl.one h.s
 have op:=Sl.one h.p
 have og:=Sl.one h.g
 have or:=Sl.one h.r
 have ip:=Sl.is h.p
 have lenp:=h.p.len
 obtain⟨a3,a4,a5,a6⟩:=RV.ones oa
 obtain⟨b3,b4,b5,b6⟩:=RV.ones ob
 have a1:one1 (Value.int .i64 a.r.g)=True:=by simp[one1,Aax]
 have a2:one1 (Value.string ⟨a.r.n.toArray⟩)=True:=by simp[one1,Abe]
 have b1:one1 (Value.int .i64 b.r.g)=True:=by simp[one1,Aax]
 have b2:one1 (Value.string ⟨b.r.n.toArray⟩)=True:=by simp[one1,Abe]
 have rowa:a.row=[.string ⟨a.r.n.toArray⟩,.int .i64 a.r.g,a.vp,a.vq,a.vo,a.vf]:=rfl
 have rowb:b.row=[.string ⟨b.r.n.toArray⟩,.int .i64 b.r.g,b.vp,b.vq,b.vo,b.vf]:=rfl
 have hul:u.l=[u.s,u.p,u.g,u.r]:=rfl
 obtain⟨K0,hK0⟩:∃X,X=Ari H u a b:=⟨_,rfl⟩
 have k0:Aac H K0:=by rw[hK0];exact Aup H u a b
 have n0:K0.n=H.n+3:=by rw[hK0];rfl
 have gl:=A0b H u a b
 have ga:=A0c H u a b
 have gb:=A0d H u a b
 rw[←hK0]at gl ga gb
 have tA:=t83 (oa.keeps k0) (by omega)
 have hK0':=hK0
 unfold Ari at hK0'
 simp only[hul,rowa,rowb]at hK0' gl ga gb tA ⊢
 have yes:Adk L a.r b.r=true→∀{K:Aaa} {fr:List Value},Aac H K→Acx Bg6.res fr K=some (.bool true)→Q .ret fr K:=fun e K fr k hr=>hq2 _ _ ⟨_,hr,by rw[e],k⟩
 cases hg:(a.r.g==b.r.g)with
 |true=>
  simp(disch:=first|assumption|omega|(simp only[LN]<;>omega)|(simp(disch:=first|assumption|omega|(simp only[LN]<;>omega))only[Aab,Aad];assumption))only[Bg6,P4,seval,os,op,og,or,a1,a2,a3,a4,a5,a6,b1,b2,b3,b4,b5,b6,hg]
  simp only[←hK0']
  exact yes (by simp only[Adk,hg,Bool.true_or]) k0 rfl
 |false=>
 simp(disch:=first|assumption|omega|(simp only[LN]<;>omega)|(simp(disch:=first|assumption|omega|(simp only[LN]<;>omega))only[Aab,Aad];assumption))only[Bg6,P4,seval,os,op,og,or,a1,a2,a3,a4,a5,a6,b1,b2,b3,b4,b5,b6,hg]
 simp only[←hK0']
 refine Aag tA ?_
 rintro tv K1 ⟨ht,k1,ft⟩
 have tB:=t83 ((ob.keeps k0).keeps k1) (by omega)
 simp only[rowb]at tB
 have gb1:=k1.at_ gb
 have hb1:H.n+2<K1.n:=Aaa.Bp9 gb1
 have hb0:H.n+2<K0.n:=Aaa.Bp9 gb
 simp(disch:=first|assumption|omega|(simp only[LN]<;>omega)|(simp(disch:=first|assumption|omega|(simp only[LN]<;>omega))only[Aab,Aad];assumption))only[P4,seval,gb1,gb,hb1,hb0]
 refine Aag tB ?_
 rintro wv K2 ⟨hw,k2,fw⟩
 have hti:IL K2 tv (trk a.r):=ht.keeps k2
 have tl:(trk a.r).length≤32:=by simp[trk];omega
 have wl:(trk b.r).length≤32:=by simp[trk];omega
 have lent:=hti.len
 have ist:=Sl.is hti
 have k12:=k1.trans k2
 have kH:=k0.trans k12
 have gl2:=k12.at_ gl
 have ga2:=k12.at_ ga
 have gb2:=k12.at_ gb
 simp(disch:=first|assumption|omega)only[P3,seval,Aak,Aat]
 rw[Aah]
 obtain⟨A1,hA1⟩:∃v:Value,v=.agg #[u.s,u.p,u.g,u.r]:=⟨_,rfl⟩
 obtain⟨A2,hA2⟩:∃v:Value,v=.agg #[.string ⟨a.r.n.toArray⟩,.int .i64 a.r.g,a.vp,a.vq,a.vo,a.vf]:=⟨_,rfl⟩
 obtain⟨A4,hA4⟩:∃v:Value,v=.agg #[.string ⟨b.r.n.toArray⟩,.int .i64 b.r.g,b.vp,b.vq,b.vo,b.vf]:=⟨_,rfl⟩
 rw[←hA1,←hA2,←hA4]
 refine Aan (fun q fr X=>∃i x15 x16,fr=[A1,A2,A4,ptr H.n 0,ptr (H.n+1) 0,ptr (H.n+2) 0,.bool false,tv,wv,.int .i64 ((i:Nat):Int),undef,undef,undef,undef,.bool false,x15,x16,undef,undef]∧K2=X∧i≤(trk a.r).length∧
  ((trk a.r).take i).any (fun s=>(trk b.r).contains s)=false∧q=(trk a.r).length - i) (trk a.r).length
  ⟨0,_,_,rfl,rfl,by omega,by simp,rfl⟩ ?_
 rintro Q' q fr X ⟨i,x15,x16,rfl,rfl,hi,hp,rfl⟩ hn' hx' hret
 by_cases hlt:i<(trk a.r).length
 ·obtain⟨na,ra⟩:=hti.at_ hlt
  have e0:(0:Int)≤(i:Int):=by omega
  have e1:(i:Int)<(((trk a.r).length:Nat):Int):=by omega
  have hw':IntKind.i64.wrap ((i:Int)+1)=((i+1:Nat):Int):=by rw[Aae (by omega) (by omega)];simp
  have hgd:(trk a.r).getD i 0=(trk a.r)[i]:=by rw[List.getD_eq_getElem?_getD,List.getElem?_eq_getElem hlt];rfl
  simp(disch:=first|assumption|omega)only[P4,seval,ist,lent,e0,e1,na,ra,Aal]
  refine Aaw (Bms hw (by omega) _) ?_
  cases hc:(trk b.r).contains ((trk a.r).getD i 0)with
  |true=>
   simp(disch:=first|assumption|omega)only[P4,seval]
   refine hret _ _ ?_
   refine yes ?_ kH rfl
   have:(trk a.r).any (fun s=>(trk b.r).contains s)=true:=List.any_eq_true.2 ⟨(trk a.r)[i],List.getElem_mem hlt,by rw[←hgd];exact hc⟩
   simp only[Adk,this,Bool.or_true,Bool.true_or]
  |false=>
   simp(disch:=first|assumption|omega)only[P4,seval,hw']
   refine hn' _ _ _ ⟨i+1,_,_,rfl,rfl,by omega,?_,rfl⟩ (by omega)
   rw[List.take_add_one,List.getElem?_eq_getElem hlt,List.any_append,hp]
   rw[hgd]at hc
   simp only[Option.toList_some,List.any_cons,List.any_nil,hc];rfl
 ·have e1:¬((i:Nat):Int)<(((trk a.r).length:Nat):Int):=by omega
  have hie:i=(trk a.r).length:=by omega
  subst hie
  rw[List.take_length]at hp
  simp(disch:=first|assumption|omega)only[P4,seval,ist,lent,e1]
  refine hx' _ _ _ ?_
  simp(disch:=first|assumption|omega)only[P3,seval,Aak,Aat]
  rw[Aah]
  refine Aan (fun q fr X=>∃i x11 x12 x13 x17 x18,fr=[A1,A2,A4,ptr H.n 0,ptr (H.n+1) 0,ptr (H.n+2) 0,.bool false,tv,wv,.int .i64 (((trk a.r).length:Nat):Int),.int .i64 ((i:Nat):Int),x11,x12,x13,.bool false,.bool false,x16,x17,x18]∧K2=X∧i≤L.p.length∧
   (List.range i).any (cPt L a.r b.r)=false∧q=L.p.length-i) L.p.length
   ⟨0,_,_,_,_,_,rfl,rfl,by omega,by simp,rfl⟩ ?_
  rintro Q2 q fr X ⟨i,x11,x12,x13,x17,x18,rfl,rfl,hi,hpp,rfl⟩ hn2 hx2 hret2
  by_cases hlt:i<L.p.length
  ·obtain⟨np,rp⟩:=(h.p.keeps kH).at_ hlt
   have e0:(0:Int)≤(i:Int):=by omega
   have e1:(i:Int)<((L.p.length:Nat):Int):=by omega
   have hw':IntKind.i64.wrap ((i:Int)+1)=((i+1:Nat):Int):=by rw[Aae (by omega) (by omega)];simp
   have nA:=Bp0 ((oa.keeps k0).keeps k12) (by omega) (i:Int)
   have nB:=Bp0 ((ob.keeps k0).keeps k12) (by omega) (i:Int)
   simp only[rowa,rowb,←hA2,←hA4]at nA nB
   have hb2:=Aaa.Bp9 gb2
   have hcp:=Bfs L a.r b.r i
   simp(disch:=first|assumption|omega|(simp only[LN]<;>omega)|(simp(disch:=first|assumption|omega|(simp only[LN]<;>omega))only[Aab,Aad];assumption))only[P4,seval,gl2,ga2,ip,lenp,e1,←hA2]
   refine Aag nA ?_
   rintro _ X ⟨rfl,hX⟩
   rw[hX]
   simp(disch:=first|assumption|omega|(simp only[LN]<;>omega)|(simp(disch:=first|assumption|omega|(simp only[LN]<;>omega))only[Aab,Aad];assumption))only[P4,seval,gb2,hb2,←hA4]
   refine Aag nB ?_
   rintro _ X ⟨rfl,hX⟩
   rw[hX]
   have hpd:(L.p.getD i ([],0))=(L.p.getD i ([],0)):=rfl
   obtain⟨z,hz⟩:∃z,z=L.p.getD i ([],0):=⟨_,rfl⟩
   rw[←hz]at hcp rp
   obtain⟨x,hx⟩:∃x,x=nkB (nds a.r) (i:Int):=⟨_,rfl⟩
   obtain⟨y,hy⟩:∃y,y=nkB (nds b.r) (i:Int):=⟨_,rfl⟩
   rw[←hx,←hy]at hcp ⊢
   have hne:decide (x≠y)=(x != y):=by rw[Bool.eq_iff_iff];simp
   rw[hne]at hcp
   have good:cPt L a.r b.r i=false→(List.range (i+1)).any (cPt L a.r b.r)=false:=fun e=>by rw[List.range_succ,List.any_append,hpp];simp[e]
   have bad:cPt L a.r b.r i=true→Adk L a.r b.r=true:=fun e=>by
    have:(List.range L.p.length).any (cPt L a.r b.r)=true:=List.any_eq_true.2 ⟨i,List.mem_range.2 hlt,e⟩
    simp only[Adk,this,Bool.or_true]
   clear hz hx hy hne
   cases h1:(x != y)with
   |false=>
    rw[h1]at hcp
    simp(disch:=first|assumption|omega)only[P4,seval,gl2,ip,lenp,e0,e1,np,rp,Aal,hw',h1]
    exact hn2 _ _ _ ⟨i+1,_,_,_,_,_,rfl,rfl,by omega,good (by rw[←hcp];rfl),rfl⟩ (by omega)
   |true=>
   cases h2:decide (0<x)with
   |true=>
    cases h3:decide (0<y)with
    |true=>
     rw[h1,h2,h3]at hcp
     simp(disch:=first|assumption|omega)only[P4,seval,gl2,ip,lenp,e0,e1,np,rp,Aal,h1,h2,h3]
     refine hret2 _ _ ?_
     exact yes (bad (by rw[←hcp];simp)) kH rfl
    |false=>
     rw[h1,h2,h3]at hcp
     simp(disch:=first|assumption|omega)only[P4,seval,gl2,ip,lenp,e0,e1,np,rp,Aal,h1,h2,h3]
     refine Aaw (Bms hw (by omega) _) ?_
     cases h4:(trk b.r).contains z.2 with
     |true=>
      rw[h4]at hcp
      simp(disch:=first|assumption|omega)only[P4,seval,h3]
      refine hret2 _ _ ?_
      exact yes (bad (by rw[←hcp];simp)) kH rfl
     |false=>
      rw[h4]at hcp
      simp(disch:=first|assumption|omega)only[P4,seval,h3,hw']
      exact hn2 _ _ _ ⟨i+1,_,_,_,_,_,rfl,rfl,by omega,good (by rw[←hcp];simp),rfl⟩ (by omega)
   |false=>
    cases h3:decide (0<y)with
    |false=>
     rw[h1,h2,h3]at hcp
     simp(disch:=first|assumption|omega)only[P4,seval,gl2,ip,lenp,e0,e1,np,rp,Aal,h1,h2,h3,hw']
     exact hn2 _ _ _ ⟨i+1,_,_,_,_,_,rfl,rfl,by omega,good (by rw[←hcp];simp),rfl⟩ (by omega)
    |true=>
     rw[h1,h2,h3]at hcp
     simp(disch:=first|assumption|omega)only[P4,seval,gl2,ip,lenp,e0,e1,np,rp,Aal,h1,h2,h3]
     refine Aaw (Bms hti (by omega) _) ?_
     cases h4:(trk a.r).contains z.2 with
     |true=>
      rw[h4]at hcp
      simp(disch:=first|assumption|omega)only[P4,seval]
      refine hret2 _ _ ?_
      exact yes (bad (by rw[←hcp];simp)) kH rfl
     |false=>
      rw[h4]at hcp
      simp(disch:=first|assumption|omega)only[P4,seval,hw']
      exact hn2 _ _ _ ⟨i+1,_,_,_,_,_,rfl,rfl,by omega,good (by rw[←hcp];simp),rfl⟩ (by omega)
  ·have e1:¬((i:Nat):Int)<((L.p.length:Nat):Int):=by omega
   have hie:i=L.p.length:=by omega
   subst hie
   simp(disch:=first|assumption|omega)only[P4,seval,gl2,ip,lenp,e1]
   refine hx2 _ _ _ ?_
   simp(disch:=first|assumption|omega)only[P4,seval]
   exact hq2 _ _ ⟨_,rfl,by simp only[Adk,hg,hp,hpp];rfl,kH⟩
end Go.AM.Fd

set_option maxRecDepth 8000
namespace Go.AM.Fd
open Nat (reduceAdd reduceEqDiff reduceLT reduceLeDiff reduceMul reduceSub)
open Go.Proofs Go.AM.F
theorem Bft:Bop=stl Abs:=Ado
theorem A0m:Boq=List.replicate 68 1:=rfl
theorem Ap7(c:List Value)(o:Nat)(v:Value)(r:List (Nat×Nat×Value))(hv:v.cells.toList=[v])(ho:o<c.length):Aa4 c ((o,1,v)::r)=Aa4 (c.set o v) r:=by
 rw[Ad9,hv,if_pos ⟨rfl,by omega⟩,List.set_eq_take_append_cons_drop,if_pos ho]
 simp
theorem Ayd(a b:Nat→Bool):Aa4 (stl Abs) [(0,1,S64 a),(67,1,S32 b)]=some (stl ⟨a,fun _=>false,fun _=>false,fun _=>0,b⟩):=by
 rw[Ap7 _ _ _ _ rfl (by rw[Aaj];omega),Ah6,Ap7 _ _ _ _ rfl (by rw[Aaj];omega),Af9];rfl
theorem Bp2{H:Aaa}(s:Sta){p:Nat}(hp:p<32):∃w H',Aau Tryz.prog 0 117 [.agg (stl s).toArray,.int .i64 (p:Nat)] H w H'∧w=.bool (s.po p)∧H'=H:=by
 refine gcb ?_
 refine Aaq A4v Bcd ?_
 intro Q hq1 hq2
 have kA:=(Aac.refl H).alloc (.cells true false 68 (stl s) 43)
 simp(disch:=first|assumption|omega)only[Bos,P4,seval,Aaz,Aaj,Ab4,Ank,Anl,Bfh]
 refine hq2 _ _ ⟨.bool _,rfl,?_,kA⟩
 simp[hp]
def Ap8(s:Sta)(L:Ly)(i:Nat):Sta where
 lo:=fun i=>s.lo i&&Aby L.r.length i
 us:=fun i=>s.us i&&(s.lo i&&Aby L.r.length i)
 ca:=fun i=>s.ca i&&(s.lo i&&Aby L.r.length i)
 ti:=fun j=>if j<i then(Ac1 L s).ti j else 0
 po:=fun i=>s.po i&&Aby L.p.length i
set_option maxHeartbeats 2000000 in
theorem Bp3{H:Aaa}{u:V4}{xs:List RV}{L:Ly}(h:LyR H u xs L)(hL:Ah4 L)(s:Sta):∃w H',Aau Tryz.prog 0 112 [.agg u.l.toArray,.agg (stl s).toArray] H w H'∧w=.agg (stl (Ac1 L s)).toArray∧H'=H:=by
 refine A0g ?_
 refine Aaq A4s Bb7 ?_
 intro Q hq1 hq2
 have lr:=hL.r
 have lp:=hL.p
 have os:=Sl.one h.s
 have op:=Sl.one h.p
 have og:=Sl.one h.g
 have or:=Sl.one h.r
 have ir:=Sl.is h.r
 have ip:=Sl.is h.p
 have lenr:=h.r.len
 have lenp:=h.p.len
 rw[h.rlen]at lenr
 have hul:u.l=[u.s,u.p,u.g,u.r]:=rfl
 obtain⟨K0,hK0⟩:∃X,X=((H.alloc (.cells true false 4 [u.s,u.p,u.g,u.r] 27)).alloc (.cells true false 68 (stl s) 43)).alloc (.cells true false 68 (stl Abs) 43):=⟨_,rfl⟩
 have k0:Aac H K0:=by rw[hK0];exact(((Aac.refl H).alloc _).alloc _).alloc _
 have n0:K0.n=H.n+3:=by rw[hK0];rfl
 have gl0:K0.get H.n=some (.cells true false 4 [u.s,u.p,u.g,u.r] 27):=by rw[hK0];exact(((Aac.refl _).alloc _).alloc _).at_ (Aaa.Bp6 H _)
 have gs0:K0.get (H.n+1)=some (.cells true false 68 (stl s) 43):=by rw[hK0];exact((Aac.refl _).alloc _).at_ (Aaa.Bp6 (H.alloc _) _)
 have gw0:K0.get (H.n+2)=some (.cells true false 68 (stl Abs) 43):=by rw[hK0];exact Aaa.Bp6 ((H.alloc _).alloc _) _
 have hs0:=Aaa.Bp9 gs0
 have hl0:=Aaa.Bp9 gl0
 rw[hul]
 simp(disch:=first|assumption|omega)only[Bor,P4,seval,os,op,og,or,Aaz,Aaj,Bft]
 simp only[←hK0]
 simp(disch:=first|assumption|omega)only[P4,seval,gl0,gs0,Abv,ir,lenr]
 refine Aaw (t35 _) ?_
 simp(disch:=first|assumption|omega)only[P4,seval,gl0,gs0,hl0,hs0,Ab4,ip,lenp,Aeb]
 refine⟨by simp,Aag (t35 _) ?_⟩
 rintro _ X ⟨rfl,hX⟩
 rw[hX]
 obtain⟨K1,hK1⟩:∃X,X=K0.alloc (.cells true false 68 (stl (Ap8 s L 0)) 43):=⟨_,rfl⟩
 have k1:Aac K0 K1:=by rw[hK1];exact(Aac.refl K0).alloc _
 have ga1:K1.get K0.n=some (.cells true false 68 (stl (Ap8 s L 0)) 43):=by rw[hK1];exact Aaa.Bp6 K0 _
 have eT:(⟨fun i=>s.lo i&&Aby L.r.length i,fun i=>s.us i&&(s.lo i&&Aby L.r.length i),fun i=>s.ca i&&(s.lo i&&Aby L.r.length i),fun _=>0,fun i=>s.po i&&Aby L.p.length i⟩:Sta)=Ap8 s L 0:=by simp[Ap8]
 simp(disch:=first|assumption|omega)only[P3,seval,Aak,Aat,gl0,gs0,hl0,hs0,Abv,Ahi,Afr]
 refine⟨by simp,?_⟩
 simp(disch:=first|assumption|omega)only[P3,seval,Aak,Aat,gl0,gs0,hl0,hs0,Abv,Aeq,Adv,Ab4,Ais,Ahe,Aeb,Afr,Ahi,Ayd,Abh,Aaz,Aaj,Abn,Acu]
 rw[eT,←hK1,Aah]
 have gl1:=k1.at_ gl0
 have gs1:=k1.at_ gs0
 have gw1:=k1.at_ gw0
 have kH1:=k0.trans k1
 refine Aan (fun q fr K=>∃i x7 x8,fr=[.agg #[u.s,u.p,u.g,u.r],.agg (stl s).toArray,ptr H.n 0,ptr (H.n+1) 0,ptr (H.n+2) 0,ptr K0.n 0,.int .i64 ((i:Nat):Int),x7,x8]∧
  Chg [K0.n] K1 K∧K.get K0.n=some (.cells true false 68 (stl (Ap8 s L i)) 43)∧i≤L.r.length∧q=L.r.length-i) L.r.length
  ⟨0,_,_,rfl,Chg.refl _ _,ga1,by omega,rfl⟩ ?_
 rintro Q' q fr K ⟨i,x7,x8,rfl,cK,ga,hi,rfl⟩ hn' hx' hret
 have haK:=Aaa.Bp9 ga
 have gl:=cK.at_ gl1 (by simp;omega)
 have gs:=cK.at_ gs1 (by simp;omega)
 have gw:=cK.at_ gw1 (by simp;omega)
 have hsK:=Aaa.Bp9 gs
 have hw2:=Aaa.Bp9 gw
 by_cases hlt:i<L.r.length
 ·have iN:i<64:=by omega
  have e0:(0:Int)≤(i:Int):=by omega
  have e1:(i:Int)<((L.r.length:Nat):Int):=by omega
  have e2:(i:Int)<64:=by omega
  have hw:IntKind.i64.wrap ((i:Int)+1)=((i+1:Nat):Int):=by rw[Aae (by omega) (by omega)];simp
  have hll:3+i<68:=by omega
  simp(disch:=first|assumption|omega)only[P4,seval,gl,ga,Adv,ir,lenr,e1]
  refine Aag (Anv _ _) ?_
  rintro _ X ⟨rfl,hX⟩
  rw[hX,Aa9 _ iN]
  have hca:(Ap8 s L i).ca i=(s.ca i&&(s.lo i&&Aby L.r.length i)):=rfl
  have htt:(Ac1 L s).ti i=if s.ca i&&(s.lo i&&Aby L.r.length i)then min (s.ti i) 20 else 0:=rfl
  rw[←hca]at htt
  have low:∀j,j<i→(Ap8 s L i).ti j=(Ap8 s L (i+1)).ti j:=fun j hj=>by
   show(if j<i then _ else _)=(if j<i+1 then _ else _)
   rw[if_pos hj,if_pos (by omega)]
  have up:∀j,i<j→(Ap8 s L i).ti j=(Ap8 s L (i+1)).ti j:=fun j hj=>by
   show(if j<i then _ else _)=(if j<i+1 then _ else _)
   rw[if_neg (by omega),if_neg (by omega)]
  have here:(Ap8 s L i).ti i=0:=by
   show(if i<i then _ else _)=_
   rw[if_neg (by omega)]
  have at_:(Ap8 s L (i+1)).ti i=(Ac1 L s).ti i:=by
   show(if i<i+1 then _ else _)=_
   rw[if_pos (by omega)]
  cases hc:(Ap8 s L i).ca i with
  |false=>
   rw[hc]at htt
   simp(disch:=first|assumption|omega)only[P4,seval,hw]
   refine hn' _ _ _ ⟨i+1,_,_,rfl,cK,?_,by omega,rfl⟩ (by omega)
   rw[ga]
   congr 2
   refine Adn (fun _ _=>rfl) (fun _ _=>rfl) (fun _ _=>rfl) (fun j _=>?_) (fun _ _=>rfl)
   by_cases e:j=i
   ·subst e;rw[at_,htt,here];rfl
   ·rcases Nat.lt_or_gt_of_ne e with h|h
    ·exact low j h
    ·exact up j h
  |true=>
   rw[hc]at htt
   have hmn:min ((s.ti i:Nat):Int) 20=((min (s.ti i) 20:Nat):Int):=by omega
   have st1:=fun t:Sta=>Akw t iN (min (s.ti i) 20)
   have st:=Amg s iN
   simp(disch:=first|assumption|omega)only[P4,seval,hw,e0,e2,gs,ga,st,Af5,hmn,Aa1,Aaj,st1,hll,Int.toNat_natCast,Nat.mul_one]
   refine hn' _ _ _ ⟨i+1,_,_,rfl,cK.trans (Chg.set K haK _) (by simp),?_,by omega,rfl⟩ (by omega)
   rw[Aaa.Bp7 ga]
   congr 2
   refine Adn (fun _ _=>rfl) (fun _ _=>rfl) (fun _ _=>rfl) (fun j _=>?_) (fun _ _=>rfl)
   show upd _ _ _ j=_
   unfold upd
   by_cases e:j=i
   ·subst e;rw[if_pos rfl,at_,htt];rfl
   ·rw[if_neg e]
    rcases Nat.lt_or_gt_of_ne e with h|h
    ·exact low j h
    ·exact up j h
 ·have e1:¬((i:Nat):Int)<((L.r.length:Nat):Int):=by omega
  have hie:i=L.r.length:=by omega
  subst hie
  have ex:stl (Ap8 s L L.r.length)=stl (Ac1 L s):=Adn (fun _ _=>rfl) (fun _ _=>rfl) (fun _ _=>rfl) (fun j hj=>by
   show(if j<L.r.length then _ else _)=(if _ then _ else _)
   by_cases h:j<L.r.length
   ·rw[if_pos h];rfl
   ·rw[if_neg h]
    have:Aby (L.r.length:Nat) j=false:=by simp[Aby];omega
    rw[this];simp) (fun _ _=>rfl)
  rw[ex]at ga
  simp(disch:=first|assumption|omega)only[P4,seval,gl,ir,lenr,e1]
  refine hx' _ _ _ ?_
  simp(disch:=first|assumption|omega)only[P4,seval,ga,gw,Abc,Abh]
  refine hq2 _ _ ⟨.agg (stl (Ac1 L s)).toArray,?_,rfl,(kH1.Bqa cK (by simp;omega)).set (by omega) hw2 _⟩
  show Acx [.cn 68 4] _ _=_
  rw[Aqx]
  show Adm 68 (ptr (H.n+2) 0) _=_
  rw[Acq,Abj,Aaa.Bp7 gw,Abc];rfl
end Go.AM.Fd

set_option maxRecDepth 8000
namespace Go.AM.Fd
open Nat (reduceAdd reduceEqDiff reduceLT reduceLeDiff reduceMul reduceSub)
open Go.Proofs Go.AM.F
def kOK(L:Ly)(s:Sta)(i k:Nat):Bool:= !((decide (i≠k)&&s.lo k)&&cf L i k)
def nOK(s:Sta)(i:Nat)(x:Int×Bool):Bool:= !(s.lo i&&(s.po x.1.toNat != x.2))
def iOK(L:Ly)(s:Sta)(i:Nat):Bool:=(!s.lo i||(List.range L.r.length).all (kOK L s i))&&(nds (ro L i)).all (nOK s i)
def Amk(L:Ly)(s:Sta):Bool:=Avs (Ac1 L s) s&&(List.range L.r.length).all (iOK L s)
theorem Agj{p:Nat→Bool}{i:Nat}(h:(List.range i).all p=true)(h2:p i=true):(List.range (i+1)).all p=true:=by
 rw[List.range_succ,List.all_append,h];simp[h2]
theorem Anm{p:Nat→Bool}{n i:Nat}(hi:i<n)(h:p i=false):(List.range n).all p=false:=
 List.all_eq_false.2 ⟨i,List.mem_range.2 hi,by simp[h]⟩
set_option maxHeartbeats 4000000 in
theorem t90{H:Aaa}{u:V4}{xs:List RV}{L:Ly}(h:LyR H u xs L)(he:Aar L=0)(s:Sta):∃w H',Aau Tryz.prog 0 90 [.agg u.l.toArray,.agg (stl s).toArray] H w H'∧w=.bool (Amk L s)∧H'=H:=by
 refine gcb ?_
 refine Aaq Bb8 Bkd ?_
 intro Q hq1 hq2
 have hmay:=Aav he
 have hL:=Aa8 hmay
 have lr:=hL.r
 have lpp:=hL.p
 have os:=Sl.one h.s
 have op:=Sl.one h.p
 have og:=Sl.one h.g
 have or:=Sl.one h.r
 have ir:=Sl.is h.r
 have lenr:=h.r.len
 rw[h.rlen]at lenr
 have hul:u.l=[u.s,u.p,u.g,u.r]:=rfl
 obtain⟨K0,hK0⟩:∃X,X=(H.alloc (.cells true false 4 [u.s,u.p,u.g,u.r] 27)).alloc (.cells true false 68 (stl s) 43):=⟨_,rfl⟩
 have k0:Aac H K0:=by rw[hK0];exact((Aac.refl H).alloc _).alloc _
 have n0:K0.n=H.n+2:=by rw[hK0];rfl
 have gl0:K0.get H.n=some (.cells true false 4 [u.s,u.p,u.g,u.r] 27):=by rw[hK0];exact((Aac.refl _).alloc _).at_ (Aaa.Bp6 H _)
 have gs0:K0.get (H.n+1)=some (.cells true false 68 (stl s) 43):=by rw[hK0];exact Aaa.Bp6 (H.alloc _) _
 have hs0:=Aaa.Bp9 gs0
 have tT:=Bp3 (h.keeps k0) hL s
 have eqs0:=fun K neg a b=>Alg K neg a b
 have hno:Amk L s=false→∀{K:Aaa} {fr:List Value},Aac H K→Acx f90.res fr K=some (.bool false)→Q .ret fr K:=fun e K fr k hr=>hq2 _ _ ⟨_,hr,by rw[e],k⟩
 rw[hul]at tT ⊢
 simp(disch:=first|assumption|omega|(simp only[LN]<;>omega)|(simp(disch:=first|assumption|omega|(simp only[LN]<;>omega))only[Aab,Aad];assumption))only[f90,P4,seval,os,op,og,or,Aaz,Aaj,Abc]
 simp only[←hK0]
 refine Aag tT ?_
 rintro _ X ⟨rfl,hX⟩
 rw[hX]
 cases hsb:Avs (Ac1 L s) s with
 |false=>
  simp(disch:=first|assumption|omega|(simp only[LN]<;>omega)|(simp(disch:=first|assumption|omega|(simp only[LN]<;>omega))only[Aab,Aad];assumption))only[Aah,P3,↓reduceIte,reduceAdd,reduceEqDiff,reduceCtorEq,Aak,reduceLT,Aat,reduceLeDiff,reduceMul,reduceSub,reduceIte,gs0,Abc,A0m,eqs0,hsb,hs0]
  exact hno (by unfold Amk;rw[hsb];rfl) k0 rfl
 |true=>
 simp(disch:=first|assumption|omega|(simp only[LN]<;>omega)|(simp(disch:=first|assumption|omega|(simp only[LN]<;>omega))only[Aab,Aad];assumption))only[P3,↓reduceIte,reduceAdd,reduceEqDiff,reduceCtorEq,Aak,reduceLT,Aat,reduceLeDiff,reduceMul,reduceSub,reduceIte,gs0,Abc,A0m,eqs0,hsb,hs0]
 obtain⟨A1,hA1⟩:∃v:Value,v=.agg #[u.s,u.p,u.g,u.r]:=⟨_,rfl⟩
 obtain⟨A2,hA2⟩:∃v:Value,v=.agg (stl s).toArray:=⟨_,rfl⟩
 rw[Aah,←hA1,←hA2]
 refine Aan (fun q fr K=>∃i x6 x7 x8 x10 x11 x12 x13 x14,fr=[A1,A2,ptr H.n 0,ptr (H.n+1) 0,.bool false,.int .i64 ((i:Nat):Int),x6,x7,x8,.bool false,x10,x11,x12,x13,x14]∧
  Aac K0 K∧(List.range i).all (iOK L s)=true∧i≤L.r.length∧q=L.r.length-i) L.r.length
  ⟨0,_,_,_,_,_,_,_,_,rfl,Aac.refl _,rfl,by omega,rfl⟩ ?_
 rintro Q' q fr K ⟨i,x6,x7,x8,x10,x11,x12,x13,x14,rfl,kK,hall,hi,rfl⟩ hn' hx' hret
 have gl:=kK.at_ gl0
 have gs:=kK.at_ gs0
 have hsK:=Aaa.Bp9 gs
 by_cases hlt:i<L.r.length
 ·have iN:i<64:=by omega
  have e0:(0:Int)≤(i:Int):=by omega
  have e1:(i:Int)<((L.r.length:Nat):Int):=by omega
  have hw:IntKind.i64.wrap ((i:Int)+1)=((i+1:Nat):Int):=by rw[Aae (by omega) (by omega)];simp
  have hiT:=fun e=>Anm (p:=iOK L s) hlt e
  have hbad:iOK L s i=false→Amk L s=false:=fun e=>by unfold Amk;rw[hiT e];simp
  obtain⟨hyr,hyo⟩:=Agn h hlt
  obtain⟨na,ra⟩:=(h.r.keeps (k0.trans kK)).at_ (i:=i) (by rw[h.rlen];exact hlt)
  have hgood:=Aa2 he (List.getElem_mem hlt)
  rw[←Ac4 hlt,←hyr]at hgood
  generalize xs.getD i rv0=y at*
  have rowy:y.row=[.string ⟨y.r.n.toArray⟩,.int .i64 y.r.g,y.vp,y.vq,y.vo,y.vf]:=rfl
  simp(disch:=first|assumption|omega)only[P3,seval,Aak,Aat,gl,ir,lenr,e1]
  rw[Aah]
  simp(disch:=first|assumption|omega)only[P3,seval,Aak,Aat]
  rw[Aah]
  -- the pairs
  refine Aan (fun q fr X=>∃k x11 x12,fr=[A1,A2,ptr H.n 0,ptr (H.n+1) 0,.bool false,.int .i64 ((i:Nat):Int),.int .i64 ((k:Nat):Int),x7,x8,.bool false,.bool true,x11,x12,x13,x14]∧
   K=X∧(s.lo i=true→(List.range k).all (kOK L s i)=true)∧k≤L.r.length∧(s.lo i=false→k=0)∧q=L.r.length-k) L.r.length
   ⟨0,_,_,rfl,rfl,fun _=>rfl,by omega,fun _=>rfl,rfl⟩ ?_
  rintro Q2 q fr X ⟨k,x11,x12,rfl,rfl,hk,hkl,hk0,rfl⟩ hn2 hx2 hret2
  have goon:(s.lo i=true→(List.range L.r.length).all (kOK L s i)=true)→∀{x6 x11 x12:Value},Q2 (.exit 2) [A1,A2,ptr H.n 0,ptr (H.n+1) 0,.bool false,.int .i64 ((i:Nat):Int),x6,x7,x8,.bool false,.bool true,x11,x12,x13,x14] K:=by
   intro hkk x6 x11 x12
   have hks:(!s.lo i||(List.range L.r.length).all (kOK L s i))=true:=by
    cases hlo:s.lo i with
    |false=>rfl
    |true=>rw[hkk hlo];rfl
   refine hx2 _ _ _ ?_
   have tN:=t85 ((hyo.keeps k0).keeps kK) (by have:=hgood.lim.q;have:=hgood.lim.f;omega)
   simp only[rowy]at tN ra
   simp(disch:=first|assumption|omega)only[P4,seval,gl,ir,lenr,na,ra,e1,Aai]
   refine Aag tN ?_
   rintro nv K2 ⟨hnv,k2,fnv⟩
   have gl2:=k2.at_ gl
   have gs2:=k2.at_ gs
   have hs2:=Aaa.Bp9 gs2
   have isn:=Sl.is hnv
   have lenn:=hnv.len
   have ndl:(nds y.r).length≤32:=by have:=hgood.lim.q;have:=hgood.lim.f;simp[nds];omega
   simp(disch:=first|assumption|omega)only[P3,seval,Aak,Aat]
   rw[Aah]
   refine Aan (fun q fr X=>∃j x13 x14,fr=[A1,A2,ptr H.n 0,ptr (H.n+1) 0,.bool false,.int .i64 ((i:Nat):Int),x6,nv,.int .i64 ((j:Nat):Int),.bool false,.bool true,x11,x12,x13,x14]∧
    K2=X∧((nds y.r).take j).all (nOK s i)=true∧j≤(nds y.r).length∧q=(nds y.r).length - j) (nds y.r).length
    ⟨0,_,_,rfl,rfl,by simp,by omega,rfl⟩ ?_
   rintro Q3 q fr X ⟨j,x13,x14,rfl,rfl,hj,hjl,rfl⟩ hn3 hx3 hret3
   by_cases hjlt:j<(nds y.r).length
   ·obtain⟨nj,rj⟩:=hnv.at_ hjlt
    have j0:(0:Int)≤(j:Int):=by omega
    have j1:(j:Int)<(((nds y.r).length:Nat):Int):=by omega
    have hw3:IntKind.i64.wrap ((j:Int)+1)=((j+1:Nat):Int):=by rw[Aae (by omega) (by omega)];simp
    have hgd:(nds y.r).getD j (0,false)=(nds y.r)[j]:=by rw[List.getD_eq_getElem?_getD,List.getElem?_eq_getElem hjlt];rfl
    have htk:(nds y.r).take (j+1)=(nds y.r).take j++[(nds y.r)[j]]:=by rw[List.take_add_one,List.getElem?_eq_getElem hjlt];rfl
    have hmem:=List.getElem_mem hjlt
    have hrng:=hgood.nd _ hmem
    rw[hgd]at rj
    generalize(nds y.r)[j]=z at*
    obtain⟨zp,zb⟩:=z
    obtain⟨m,rfl⟩:∃m:Nat,zp=(m:Int):=⟨zp.toNat,by have:=hrng.1;simp only at this;omega⟩
    have hm32:m<32:=by have:=hrng.2;simp only at this;omega
    have ok1:nOK s i ((m:Int),zb)=true→((nds y.r).take (j+1)).all (nOK s i)=true:=fun e=>by rw[htk,List.all_append,hj];simp[e]
    have bad1:nOK s i ((m:Int),zb)=false→Amk L s=false:=fun e=>hbad (by
     unfold iOK
     have:(nds (ro L i)).all (nOK s i)=false:=List.all_eq_false.2 ⟨_,by rw[←hyr];exact hmem,by simp[e]⟩
     rw[this];simp)
    have hnOK:nOK s i ((m:Int),zb)= !(s.lo i&&(s.po m != zb)):=rfl
    simp(disch:=first|assumption|omega)only[P4,seval,isn,lenn,j1,gs2,Abv]
    refine Aag (Anv _ _) ?_
    rintro _ X ⟨rfl,hX⟩
    rw[hX,Aa9 _ iN]
    cases hlo:s.lo i with
    |false=>
     rw[hlo]at hnOK
     simp(disch:=first|assumption|omega)only[P4,seval,hw3]
     exact hn3 _ _ _ ⟨j+1,_,_,rfl,rfl,ok1 (by rw[hnOK];rfl),by omega,rfl⟩ (by omega)
    |true=>
     rw[hlo]at hnOK
     simp(disch:=first|assumption|omega)only[P4,seval,gs2,Abc,nj,rj,lenn,j0,j1,Aal]
     refine Aaw (Bp2 s hm32) ?_
     have qq:=Af8 rj
     cases hpo:s.po m<;>cases zb<;>rw[hpo]at hnOK
     ·simp(disch:=first|assumption|omega)only[P4,seval,nj,rj,lenn,j0,j1,Aal,hw3,qq]
      exact hn3 _ _ _ ⟨j+1,_,_,rfl,rfl,ok1 (by rw[hnOK];rfl),by omega,rfl⟩ (by omega)
     ·simp(disch:=first|assumption|omega)only[P4,seval,nj,rj,lenn,j0,j1,Aal,hw3,qq]
      refine hret3 _ _ ?_
      refine hret _ _ ?_
      exact hno (bad1 (by rw[hnOK];rfl)) ((k0.trans kK).trans k2) rfl
     ·simp(disch:=first|assumption|omega)only[P4,seval,nj,rj,lenn,j0,j1,Aal,hw3,qq]
      refine hret3 _ _ ?_
      refine hret _ _ ?_
      exact hno (bad1 (by rw[hnOK];rfl)) ((k0.trans kK).trans k2) rfl
     ·simp(disch:=first|assumption|omega)only[P4,seval,nj,rj,lenn,j0,j1,Aal,hw3,qq]
      exact hn3 _ _ _ ⟨j+1,_,_,rfl,rfl,ok1 (by rw[hnOK];rfl),by omega,rfl⟩ (by omega)
   ·have j1:¬((j:Nat):Int)<(((nds y.r).length:Nat):Int):=by omega
    have hje:j=(nds y.r).length:=by omega
    subst hje
    rw[List.take_length,hyr]at hj
    simp(disch:=first|assumption|omega)only[P4,seval,isn,lenn,j1]
    refine hx3 _ _ _ ?_
    simp(disch:=first|assumption|omega)only[P4,seval,hw]
    exact hn' _ _ _ ⟨i+1,_,_,_,_,_,_,_,_,rfl,kK.trans k2,Agj hall (by unfold iOK;rw[hks,hj];rfl),by omega,rfl⟩ (by omega)
  by_cases hlk:k<L.r.length
  ·have kN:k<64:=by omega
   have c0:(0:Int)≤(k:Int):=by omega
   have c1:((k:Nat):Int)<((L.r.length:Nat):Int):=by omega
   have hw2:IntKind.i64.wrap ((k:Int)+1)=((k+1:Nat):Int):=by rw[Aae (by omega) (by omega)];simp
   simp(disch:=first|assumption|omega)only[P4,seval,gl,gs,ir,lenr,c1,Abv]
   refine Aag (Anv _ _) ?_
   rintro _ X ⟨rfl,hX⟩
   rw[hX,Aa9 _ iN]
   cases hlo:s.lo i with
   |false=>
    simp(disch:=first|assumption|omega)only[P4,seval]
    exact goon (fun e=>by rw[hlo]at e;cases e)
   |true=>
    have okk:kOK L s i k=true→(List.range (k+1)).all (kOK L s i)=true:=fun e=>Agj (hk hlo) e
    have badk:kOK L s i k=false→Amk L s=false:=fun e=>hbad (by
     unfold iOK;rw[hlo,Anm hlk e];rfl)
    have hkk:kOK L s i k= !((decide (i≠k)&&s.lo k)&&cf L i k):=rfl
    by_cases hik:i=k
    ·subst hik
     simp(disch:=first|assumption|omega)only[P4,seval,hw2]
     exact hn2 _ _ _ ⟨i+1,_,_,rfl,rfl,fun _=>okk (by rw[hkk];simp),by omega,fun e=>(by rw[hlo]at e;cases e),rfl⟩ (by omega)
    ·have nik:((i:Int) != (k:Int))=true:=by simp;omega
     simp(disch:=first|assumption|omega)only[P4,seval,nik,gs,Abv,hsK]
     refine Aag (Anv _ _) ?_
     rintro _ X ⟨rfl,hX⟩
     rw[hX,Aa9 _ kN]
     cases hlk2:s.lo k with
     |false=>
      simp(disch:=first|assumption|omega)only[P4,seval,hw2]
      exact hn2 _ _ _ ⟨k+1,_,_,rfl,rfl,fun _=>okk (by rw[hkk,hlk2];simp),by omega,fun e=>(by rw[hlo]at e;cases e),rfl⟩ (by omega)
     |true=>
      obtain⟨hzr,hzo⟩:=Agn h hlk
      obtain⟨nb,rb⟩:=(h.r.keeps (k0.trans kK)).at_ (i:=k) (by rw[h.rlen];exact hlk)
      have zlim:=Aim hmay (List.getElem_mem hlk)
      rw[←Ac4 hlk,←hzr]at zlim
      generalize xs.getD k rv0=z at*
      have rowz:z.row=[.string ⟨z.r.n.toArray⟩,.int .i64 z.r.g,z.vp,z.vq,z.vo,z.vf]:=rfl
      have tC:=Bp1 ((h.keeps k0).keeps kK) ((hyo.keeps k0).keeps kK) ((hzo.keeps k0).keeps kK) hgood.lim zlim hL
      simp only[hul,rowy,rowz]at tC ra rb
      simp(disch:=first|assumption|omega|(simp only[LN]<;>omega)|(simp(disch:=first|assumption|omega|(simp only[LN]<;>omega))only[Aab,Aad];assumption))only[P4,seval,gl,gs,ir,lenr,na,ra,nb,rb,c0,c1,e0,e1,Aai]
      refine Aag tC ?_
      rintro _ X ⟨rfl,hX⟩
      rw[hX,hyr,hzr]
      have hcf:Adk L (ro L i) (ro L k)=cf L i k:=rfl
      rw[hcf]
      cases hc:cf L i k with
      |false=>
       simp(disch:=first|assumption|omega)only[P4,seval,hw2]
       exact hn2 _ _ _ ⟨k+1,_,_,rfl,rfl,fun _=>okk (by rw[hkk,hlk2,hc];simp),by omega,fun e=>(by rw[hlo]at e;cases e),rfl⟩ (by omega)
      |true=>
       simp(disch:=first|assumption|omega)only[P4,seval]
       refine hret2 _ _ ?_
       refine hret _ _ ?_
       exact hno (badk (by rw[hkk,hlk2,hc];simp;exact hik)) (k0.trans kK) rfl
  ·have c1:¬((k:Nat):Int)<((L.r.length:Nat):Int):=by omega
   have hke:k=L.r.length:=by omega
   subst hke
   simp(disch:=first|assumption|omega)only[P4,seval,gl,ir,lenr,c1]
   exact goon hk
 ·have e1:¬((i:Nat):Int)<((L.r.length:Nat):Int):=by omega
  have hie:i=L.r.length:=by omega
  subst hie
  simp(disch:=first|assumption|omega)only[P4,seval,gl,ir,lenr,e1]
  refine hx' _ _ _ ?_
  simp(disch:=first|assumption|omega)only[P4,seval]
  exact hq2 _ _ ⟨_,rfl,by unfold Amk;rw[hsb,hall];rfl,k0.trans kK⟩
end Go.AM.Fd

set_option maxRecDepth 8000
namespace Go.AM.Fd
open Nat (reduceAdd reduceEqDiff reduceLT reduceLeDiff reduceMul reduceSub)
open Go.Proofs Go.AM.F
theorem Aox(f:Nat→Bool):Ab9 .shr (S64 f) (.int .u64 32)=some (S64 fun i=>decide (i+32<64)&&f (i+32)):=by
 have h:=Ara f 32
 unfold S64 at h ⊢
 rw[Am5 .u64 _ ((32:Nat):Int) .i64 (by omega)]at h
 rw[Am5 .u64 _ 32 .u64 (by omega)]
 exact h
theorem A53{m:Nat}(hm:m≤64)(n:Int):Aa0 (fun j=>Ac3 n j&&Aby (m:Int) j)= !(decide (0≤n)&&decide (n<(m:Int))):=by
 unfold Aa0
 rw[Bool.eq_iff_iff,List.all_eq_true]
 simp only[Ac3,Aby,List.mem_range,Bool.not_eq_true',Bool.and_eq_false_iff,decide_eq_false_iff_not]
 constructor
 ·intro h
  by_cases h0:0≤n
  ·right
   intro h1
   rcases h n.toNat (by omega)with h2|h2
   ·exact h2 (by omega)
   ·exact h2 (by omega)
  ·exact .inl h0
 ·intro h i hi
  by_cases e:(i:Int)=n
  ·right;omega
  ·exact .inl e
def Aj0(L:Ly)(s:Sta)(i p:Nat):Bool:=(nor L i p&&s.po p)||(rev L i p&& !s.po p)
def Bfk(L:Ly)(oc:Nat→Bool)(s:Sta)(i:Nat):Bool:=Aa0 (fun j=>s.lo j&&(Ac3 (i:Nat) j||Ain L i j))&&Aa0 (fun j=>oc j&&(trP (ro L i) j||Au5 L (Aj0 L s i) j))
def Au6(s:Sta)(i:Nat):Bool:= !Aa0 (fun j=>((Ac3 (i:Nat) j&&s.lo j)&& !s.us j)&& !s.ca j)
def ptP(L:Ly)(n:Int)(j:Nat):Bool:=Ac3 n j&&Aby L.p.length j
def Au7(L:Ly)(oc:Nat→Bool)(s:Sta)(n:Int):Bool:=Aa0 (fun i=>decide (i+32<64)&&Ac3 n (i+32))&&(!Abk (fun j=>ptP L n j&& !(Ah5 L s.lo (nor L) j||Ah5 L s.lo (rev L) j))&&Aa0 (fun j=>Au5 L (ptP L n) j&&oc j))
def Bfl(L:Ly)(s:Sta)(i:Nat):Sta:={s with lo:=fun j=>s.lo j||Ac3 (i:Nat) j,po:=fun p=>s.po p ^^ Aj0 L s i p}
def Au8(L:Ly)(oc:Nat→Bool)(s:Sta)(i:Nat):Sta:={s with ca:=fun j=>s.ca j||Ac3 (i:Nat) j,ti:=upd s.ti i (if !Aa0 (fun j=>ahP L (ro L i) j&&oc j)then 20 else 0)}
def Au9(L:Ly)(s:Sta)(n:Int):Sta:={s with po:=fun j=>s.po j ^^ ptP L n j}
def Amj(L:Ly)(oc:Nat→Bool)(s:Sta)(kd n:Int):Sta:=
 if kd=1 then(if 0≤n∧n<L.r.length then(if Bfk L oc s n.toNat then Bfl L s n.toNat else s)else s)
 else if kd=2 then(if 0≤n∧n<L.r.length then(if Au6 s n.toNat then Au8 L oc s n.toNat else s)else s)
 else if kd=3 then(if Au7 L oc s n then Au9 L s n else s)
 else s
theorem Ava(t:Nat→Nat)(i a b:Nat):upd (upd t i a) i b=upd t i b:=by
 funext j;unfold upd;split<;>rfl
set_option maxHeartbeats 4000000 in
theorem t176{K0 H:Aaa}{b sb:Nat}{L:Ly}{s:Sta}{oc:Nat→Bool}{kd n:Int}{r:Bool}{T:Nat}(h:MaR K0 b L)(k0:Aac K0 H)(hsb:K0.n≤sb)(lr:L.r.length≤64)(lp:L.p.length≤32)
 (gs:H.get sb=some (.cells true r 68 (stl s) T)):
 ∃w H',Aau Tryz.prog 0 176 [ptr b 0,ptr sb 0,S64 oc,.agg #[.int .u8 kd,.int .i64 n]] H w H'∧Chg [sb] H H'∧H'.get sb=some (.cells true r 68 (stl (Amj L oc s kd n)) T):=by
 refine Aaq A4i Bbx ?_
 intro Q hq1 hq2
 have hM:=h
 obtain⟨vr,vl,own,room,TT,gb0,ms0⟩:=h
 have hb0:=Aaa.Bp9 gb0
 have hs0:=Aaa.Bp9 gs
 have bsb:b≠sb:=by omega
 obtain⟨K,hK⟩:∃X,X=H.alloc (.cells true false 2 [.int .u8 kd,.int .i64 n] 83):=⟨_,rfl⟩
 have kK:Aac H K:=by rw[hK];exact(Aac.refl H).alloc _
 have gc:K.get H.n=some (.cells true false 2 [.int .u8 kd,.int .i64 n] 83):=by rw[hK];exact Aaa.Bp6 H _
 have gsK:=kK.at_ gs
 have gb:=(k0.trans kK).at_ gb0
 have msK:=ms0.keeps (k0.trans kK)
 have r1:=Sl.one ms0.r
 have l1:=Sl.one ms0.l
 have hsK:=Aaa.Bp9 gsK
 have hcn:H.n<K.n:=Aaa.Bp9 gc
 have hnsb:H.n≠sb:=by omega
 have cK:Chg [sb] H K:=kK.chg _
 unfold Abm at gb
 have one:=Ax5 (H:=K) n
 simp(disch:=first|assumption|omega)only[Bog,P4,seval]
 rw[←hK]
 refine Aag one ?_
 rintro _ X ⟨rfl,hX⟩
 rw[hX]
 have skip:Amj L oc s kd n=s→∀{fr:List Value},Q .normal fr K:=fun e fr=>hq1 _ _ ⟨_,rfl,cK,by rw[e];exact gsK⟩
 have skipr:Amj L oc s kd n=s→∀{fr:List Value},Q .ret fr K:=fun e fr=>hq2 _ _ ⟨_,rfl,cK,by rw[e];exact gsK⟩
 have hol:=A53 lr n
 by_cases k1:kd=1
 ·subst k1
  by_cases hn:0≤n∧n<L.r.length
  ·obtain⟨i,rfl⟩:∃i:Nat,n=(i:Int):=⟨n.toNat,by omega⟩
   have hi:i<L.r.length:=by omega
   have hol':Aa0 (fun j=>Ac3 (i:Int) j&&Aby ((L.r.length:Nat):Int) j)=false:=by rw[hol];simp[hi]
   obtain⟨na,ra⟩:=(msK.r).at_ (by omega) (i:=i) (by rw[Ac0];exact hi)
   rw[Ahd hi]at ra
   have len:=msK.r.len
   rw[Ac0]at len
   have e0:(0:Int)≤(i:Int):=by omega
   have e1:(i:Int)<((L.r.length:Nat):Int):=by omega
   obtain⟨K2,hK2⟩:∃X,X=K.alloc (.cells true false 6 (Ae0 L i) 207):=⟨_,rfl⟩
   have kK2:Aac K K2:=by rw[hK2];exact(Aac.refl K).alloc _
   have gx:K2.get K.n=some (.cells true false 6 (Ae0 L i) 207):=by rw[hK2];exact Aaa.Bp6 K _
   have hM2:MaR K2 b L:=hM.keeps ((k0.trans kK).trans kK2)
   have gc2:=kK2.at_ gc
   have gs2:=kK2.at_ gsK
   have gb2:=kK2.at_ gb
   have hs2:=Aaa.Bp9 gs2
   have cK2:=cK.trans (kK2.chg [sb]) (by simp)
   unfold Ae0 at ra hK2 gx
   have hbK:=Aaa.Bp9 gb
   have eC:Amj L oc s 1 (i:Int)=if Bfk L oc s i then Bfl L s i else s:=by unfold Amj;rw[if_pos rfl,if_pos hn];rfl
   unfold Bfk Bfl Aj0 nor rev at eC
   have tL:=Bpw hM2 lp (Aj0 L s i)
   unfold Aj0 nor rev at tL
   cases h1:Aa0 (fun j=>s.lo j&&(Ac3 (i:Int) j||Ain L i j))with
   |false=>
    rw[h1]at eC
    simp(disch:=first|assumption|omega|(simp only[LN]<;>omega)|(simp(disch:=first|assumption|omega|(simp only[LN]<;>omega))only[Aab,Aad];assumption))only[P4,seval,gc,gb,gsK,hsK,hbK,hcn,Abv,Ab4,Aeb,Ahh,Afr,Ac8,Anj,Aer,hol',h1,len,na,ra,e0,e1,Aai,O4]
    simp only[←hK2]
    exact hq1 _ _ ⟨_,rfl,cK2,by rw[eC];simpa using gs2⟩
   |true=>
    rw[h1]at eC
    simp(disch:=first|assumption|omega|(simp only[LN]<;>omega)|(simp(disch:=first|assumption|omega|(simp only[LN]<;>omega))only[Aab,Aad];assumption))only[P4,seval,gc,gb,gsK,hsK,hbK,hcn,Abv,Ab4,Aeb,Ahh,Afr,Ac8,Anj,Aer,hol',h1,len,na,ra,e0,e1,Aai,O4]
    simp only[←hK2]
    refine Aag tL ?_
    rintro _ X ⟨rfl,hX⟩
    rw[hX]
    have g3:∀o,(K2.set sb o).get sb=some o:=fun o=>Aaa.Bp7 gs2 o
    have g4:∀o,(K2.set sb o).get H.n=K2.get H.n:=fun o=>Aaa.Bp8 K2 hnsb hs2 o
    have hw:=fun o:AO=>cK2.trans (Chg.set K2 hs2 o) (by simp)
    cases h2:Aa0 (fun j=>oc j&&(trP (ro L i) j||Au5 L (fun p=>ndP (nds (ro L i)) false p&&s.po p||ndP (nds (ro L i)) true p&& !s.po p) j))with
    |false=>
     rw[h2]at eC
     simp(disch:=first|assumption|omega)only[P4,seval,gc2,gb2,gx,gs2,hs2,Abv,Ab4,Aeb,Ahh,Afr,Ac8,Anj,Aer,h2,O4]
     exact⟨by simp,hq1 _ _ ⟨_,rfl,cK2,by rw[eC];simpa using gs2⟩⟩
    |true=>
     rw[h2]at eC
     simp(disch:=first|assumption|omega)only[P4,seval,gc2,gb2,gx,gs2,hs2,g3,g4,Aaj,Abv,Ab4,Ah6,Af9,Aeb,Ahh,Afr,Ac8,Anj,Aq9,Aer,h2,O4]
     exact⟨by simp,hq1 _ _ ⟨_,rfl,hw _,by rw[Aaa.Bp7 gs2,eC];simp⟩⟩
  ·have hol':Aa0 (fun j=>Ac3 n j&&Aby ((L.r.length:Nat):Int) j)=true:=by rw[hol];simp;omega
   simp(disch:=first|assumption|omega)only[P4,seval,gc,gb,Aeb,Aer,hol']
   exact skipr (by unfold Amj;rw[if_pos rfl,if_neg hn])
 ·have d1:(kd==1)=false:=by simp[k1]
  by_cases k2:kd=2
  ·subst k2
   by_cases hn:0≤n∧n<L.r.length
   ·obtain⟨i,rfl⟩:∃i:Nat,n=(i:Int):=⟨n.toNat,by omega⟩
    have hi:i<L.r.length:=by omega
    have hol':Aa0 (fun j=>Ac3 (i:Int) j&&Aby ((L.r.length:Nat):Int) j)=false:=by rw[hol];simp[hi]
    obtain⟨na,ra⟩:=(msK.r).at_ (by omega) (i:=i) (by rw[Ac0];exact hi)
    rw[Ahd hi]at ra
    have len:=msK.r.len
    rw[Ac0]at len
    have e0:(0:Int)≤(i:Int):=by omega
    have e1:(i:Int)<((L.r.length:Nat):Int):=by omega
    obtain⟨K2,hK2⟩:∃X,X=K.alloc (.cells true false 6 (Ae0 L i) 207):=⟨_,rfl⟩
    have kK2:Aac K K2:=by rw[hK2];exact(Aac.refl K).alloc _
    have gx:K2.get K.n=some (.cells true false 6 (Ae0 L i) 207):=by rw[hK2];exact Aaa.Bp6 K _
    have hM2:MaR K2 b L:=hM.keeps ((k0.trans kK).trans kK2)
    have gc2:=kK2.at_ gc
    have gs2:=kK2.at_ gsK
    have gb2:=kK2.at_ gb
    have hs2:=Aaa.Bp9 gs2
    have cK2:=cK.trans (kK2.chg [sb]) (by simp)
    unfold Ae0 at ra hK2 gx
    have hbK:=Aaa.Bp9 gb
    have eC:Amj L oc s 2 (i:Int)=if Au6 s i then Au8 L oc s i else s:=by unfold Amj;rw[if_neg (by omega),if_pos rfl,if_pos hn];rfl
    unfold Au6 Au8 at eC
    have i64:(i:Int)<64:=by omega
    have iN:i<64:=by omega
    have hll:3+i<68:=by omega
    have z0:=fun t:Sta=>Anh t iN
    have z20:=fun t:Sta=>Auu t iN
    have g3:∀o,(K2.set sb o).get sb=some o:=fun o=>Aaa.Bp7 gs2 o
    have g4:∀o,(K2.set sb o).get H.n=K2.get H.n:=fun o=>Aaa.Bp8 K2 hnsb hs2 o
    have hkn:K.n≠sb:=by omega
    have g5:∀o,(K2.set sb o).get K.n=K2.get K.n:=fun o=>Aaa.Bp8 K2 hkn hs2 o
    have hw:=fun o:AO=>cK2.trans (Chg.set K2 hs2 o) (by simp)
    cases h1:Aa0 (fun j=>((Ac3 (i:Int) j&&s.lo j)&& !s.us j)&& !s.ca j)with
    |true=>
     rw[h1]at eC
     simp(disch:=first|assumption|omega|(simp only[LN]<;>omega)|(simp(disch:=first|assumption|omega|(simp only[LN]<;>omega))only[Aab,Aad];assumption))only[P4,seval,gc,gb,gsK,hsK,hbK,hcn,Abv,Aeq,Adv,Ab4,Aeb,Ahh,Aec,Afr,Ac8,Anj,Aer,Aov,hol',h1,len,na,ra,e0,e1,Aai,O4]
     simp only[←hK2]
     exact hq1 _ _ ⟨_,rfl,cK2,by rw[eC];simpa using gs2⟩
    |false=>
     rw[h1]at eC
     cases h2:Aa0 (fun j=>ahP L (ro L i) j&&oc j)with
     |true=>
      rw[h2]at eC
      simp(disch:=first|assumption|omega|(simp only[LN]<;>omega)|(simp(disch:=first|assumption|omega|(simp only[LN]<;>omega))only[Aab,Aad];assumption))only[P4,seval,gc,gb,gsK,hsK,hbK,hcn,Abv,Aeq,Adv,Ab4,Ahe,z0,Aaj,Aeb,Ahh,Aec,Afr,Ac8,Anj,Aer,Aov,hol',h1,h2,len,na,ra,e0,e1,i64,hll,Aa1,Int.toNat_natCast,Nat.mul_one,Aai,O4]
      exact hq1 _ _ ⟨_,rfl,(cK.trans (Chg.set K hsK _) (by simp)).alloc _,((Aac.refl _).alloc _).at_ (by rw[Aaa.Bp7 gsK,eC];simp)⟩
     |false=>
      rw[h2]at eC
      simp(disch:=first|assumption|omega|(simp only[LN]<;>omega)|(simp(disch:=first|assumption|omega|(simp only[LN]<;>omega))only[Aab,Aad];assumption))only[P4,seval,gc,gb,gsK,hsK,hbK,hcn,Abv,Aeq,Adv,Ab4,Ahe,z0,z20,Aaj,Aeb,Ahh,Aec,Afr,Ac8,Anj,Aer,Aov,hol',h1,h2,len,na,ra,e0,e1,i64,hll,Aa1,Int.toNat_natCast,Nat.mul_one,Aai,O4]
      exact hq1 _ _ ⟨_,rfl,(cK.trans (Chg.set K hsK _) (by simp)).alloc _,((Aac.refl _).alloc _).at_ (by rw[Aaa.Bp7 gsK,eC];simp[Ava])⟩
   ·have hol':Aa0 (fun j=>Ac3 n j&&Aby ((L.r.length:Nat):Int) j)=true:=by rw[hol];simp;omega
    simp(disch:=first|assumption|omega)only[P4,seval,gc,gb,Aeb,Aer,hol']
    exact skipr (by unfold Amj;rw[if_neg (by omega),if_pos rfl,if_neg hn])
  ·have d2:(kd==2)=false:=by simp[k2]
   by_cases k3:kd=3
   ·subst k3
    have hbK:=Aaa.Bp9 gb
    have eC:Amj L oc s 3 n=if Au7 L oc s n then Au9 L s n else s:=by unfold Amj;rw[if_neg (by omega),if_neg (by omega),if_pos rfl]
    unfold Au7 Au9 at eC
    have tN:=Bpr (f:=s.lo) msK lr
    have tL:=Bpw (hM.keeps (k0.trans kK)) lp (ptP L n)
    unfold Abm at tN
    unfold ptP at tL eC
    simp(disch:=first|assumption|omega|(simp only[LN]<;>omega)|(simp(disch:=first|assumption|omega|(simp only[LN]<;>omega))only[Aab,Aad];assumption))only[P4,seval,gc,gb,gsK,r1,l1,Abv]
    refine Aag tN ?_
    rintro _ X ⟨rfl,hX⟩
    rw[hX]
    cases h1:Aa0 (fun i=>decide (i+32<64)&&Ac3 n (i+32))with
    |false=>
     rw[h1]at eC
     simp(disch:=first|assumption|omega)only[P4,seval,gc,gb,gsK,r1,l1,Abv,Ahi,Afr,Aox,Aer,h1]
     exact hq1 _ _ ⟨_,rfl,cK,by rw[eC];simpa using gsK⟩
    |true=>
     rw[h1]at eC
     cases h2:Abk (fun j=>(Ac3 n j&&Aby ((L.p.length:Nat):Int) j)&& !(Ah5 L s.lo (nor L) j||Ah5 L s.lo (rev L) j))with
     |true=>
      rw[h2]at eC
      simp(disch:=first|assumption|omega)only[P4,seval,gc,gb,gsK,r1,l1,Abv,Ahi,Afr,Anj,Ac8,Au3,Aox,Aer,h1,h2]
      exact hq1 _ _ ⟨_,rfl,cK,by rw[eC];simpa using gsK⟩
     |false=>
      rw[h2]at eC
      simp(disch:=first|assumption|omega)only[P4,seval,gc,gb,gsK,r1,l1,Abv,Ahi,Afr,Anj,Ac8,Au3,Aox,Aer,h1,h2]
      refine Aag tL ?_
      rintro _ X ⟨rfl,hX⟩
      rw[hX]
      cases h3:Aa0 (fun j=>Au5 L (fun j=>Ac3 n j&&Aby ((L.p.length:Nat):Int) j) j&&oc j)with
      |false=>
       rw[h3]at eC
       simp(disch:=first|assumption|omega)only[P4,seval,gsK,Aeb,Aer,h3]
       exact hq1 _ _ ⟨_,rfl,cK,by rw[eC];simpa using gsK⟩
      |true=>
       rw[h3]at eC
       simp(disch:=first|assumption|omega)only[P4,seval,gsK,Aeb,Aer,h3,Ab4,Af9,Aaj,Aq9,Afs,Ab8]
       exact hq1 _ _ ⟨_,rfl,cK.trans (Chg.set K hsK _) (by simp),by rw[Aaa.Bp7 gsK,eC];simp⟩
   ·have d3:(kd==3)=false:=by simp[k3]
    simp(disch:=first|assumption|omega)only[P4,seval,gc,d1,d2,d3]
    exact skip (by unfold Amj;rw[if_neg k1,if_neg k2,if_neg k3])
end Go.AM.Fd

set_option maxRecDepth 8000
namespace Go.AM.Fd
open Nat (reduceAdd reduceEqDiff reduceLT reduceLeDiff reduceMul reduceSub)
open Go.Proofs Go.AM.F
theorem Bfm:Bof=stl Abs:=Ado
theorem Bmo(a b:Nat→Bool):Aa4 [.int .u64 0,.int .u32 0] [(0,1,S64 a),(1,1,S32 b)]=some [S64 a,S32 b]:=rfl
def Aft(c:Int×Int):List Value:=[.int .u8 c.1,.int .i64 c.2]
def CL(H:Aaa)(v:Value)(l:List (Int×Int)):Prop:=Sl H 2 v (l.map Aft)
theorem CL.at_{H:Aaa}{v:Value}{l:List (Int×Int)}(h:CL H v l){i:Nat}(hi:i<l.length):nnS v=true∧Afp H 2 v i=some [.int .u8 (l.getD i (0,0)).1,.int .i64 (l.getD i (0,0)).2]:=by
 have:=Sl.at_ h (by omega) (i:=i) (by simpa using hi)
 refine⟨this.1,?_⟩
 rw[this.2];simp[List.getD,List.getElem?_eq_getElem hi,Aft]
theorem CL.len{H:Aaa}{v:Value}{l:List (Int×Int)}(h:CL H v l):lenS v=l.length:=by have:=Sl.len h;simpa using this
theorem CL.keeps{H K:Aaa}{v:Value}{l:List (Int×Int)}(h:CL H v l)(k:Aac H K):CL K v l:=Sl.keeps h k
def Ax9(L:Ly)(oc:Nat→Bool)(s:Sta)(cs:List (Int×Int)):Sta:=cs.foldl (fun s c=>Amj L oc s c.1 c.2) s
def Arb(L:Ly)(x:Inp)(i:Nat):Bool:=decide (i<L.r.length)&&Aa0 (fun j=>trP (ro L i) j&&x.oc j)
def A61(L:Ly)(x:Inp)(i:Nat):Bool:=decide (i<L.r.length)&& !Aa0 (fun j=>fiP (ro L i) j&&x.oc j)
def Bhd(L:Ly)(x:Inp)(i:Nat):Bool:=decide (i<L.r.length)&&((Abk fun p=>nor L i p&& !Ada x p)&&(Abk fun p=>rev L i p&& !Adb x p))
def Ah7(L:Ly)(x:Inp)(us:Nat→Bool)(s:Sta)(i:Nat):Bool:=(s.ca i&& !us i)&& !A61 L x i
def Ali(L:Ly)(x:Inp)(us:Nat→Bool)(s:Sta)(i:Nat):Bool:=Arb L x i&&(us i||(Ah7 L x us s i&&decide (s.ti i=0)))
def Aya(L:Ly)(x:Inp)(us:Nat→Bool)(s:Sta):Sta where
 lo:=fun i=>s.lo i&& !Ali L x us s i
 us:=fun i=>(s.lo i&& !Ali L x us s i)&&(us i||A61 L x i)
 ca:=fun i=>s.ca i&& !Ali L x us s i
 ti:=fun i=>if Ali L x us s i then 0 else if Ah7 L x us s i&& !decide (s.ti i=0)then s.ti i-1 else s.ti i
 po:=s.po
def Ait(L:Ly)(s:Sta)(x:Inp)(cs:List (Int×Int)):Sta:=Aya L x (Ac1 L s).us (Ax9 L x.oc (Ac1 L s) (cs.take 8))
def prB(L:Ly)(x:Inp)(s:Sta)(i:Nat):Bool:=(((s.lo i&&Arb L x i)&&Bhd L x i)&& !s.us i)&& !s.ca i
theorem Aoy(L:Ly)(s:Sta)(i:Nat):(Ac1 L s).ti i≤20:=by
 show(if _ then _ else _)≤20
 split
 ·exact Nat.min_le_right _ _
 ·omega
theorem Bfn{L:Ly}{oc:Nat→Bool}{s:Sta}{kd n:Int}(h:∀i,s.ti i≤20)(i:Nat):(Amj L oc s kd n).ti i≤20:=by
 unfold Amj Bfl Au8 Au9
 repeat' split
 all_goals first|exact h i|skip
 all_goals (show upd _ _ _ i≤20;unfold upd;split<;>first|omega|exact h i)
theorem A0k{L:Ly}{oc:Nat→Bool}:∀{cs:List (Int×Int)} {s:Sta},(∀i,s.ti i≤20)→∀i,(Ax9 L oc s cs).ti i≤20
 |[],s,h=>h
 |c::cs,s,h=>A0k (cs:=cs) (Bfn h)
theorem Ayb(L:Ly)(oc:Nat→Bool)(s:Sta)(cs:List (Int×Int))(c:Int×Int):Ax9 L oc s (cs++[c])=Amj L oc (Ax9 L oc s cs) c.1 c.2:=by
 unfold Ax9;rw[List.foldl_append];rfl
def tiA(t:Nat→Nat)(l:List Nat)(j:Nat):Nat:=if l.contains j then t j-1 else t j
def tiB(t:Nat→Nat)(l:List Nat)(j:Nat):Nat:=if l.contains j then 0 else t j
theorem Bmp{t:Nat→Nat}{l:List Nat}{i:Nat}(h:i∉l):upd (tiA t l) i (t i-1)=tiA t (l++[i]):=by
 funext j
 unfold upd tiA
 rw[List.contains_append]
 by_cases e:j=i
 ·subst e;simp
 ·simp[e]
theorem Bmq{t:Nat→Nat}{l:List Nat}{i:Nat}:upd (tiB t l) i 0=tiB t (l++[i]):=by
 funext j
 unfold upd tiB
 rw[List.contains_append]
 by_cases e:j=i
 ·subst e;simp
 ·simp[e]
theorem Bfo{f:Nat→Bool}{k:Nat}(h:k<((List.range 64).filter f).length):((List.range 64).filter f)[k]<64∧f ((List.range 64).filter f)[k]=true∧((List.range 64).filter f)[k]∉((List.range 64).filter f).take k:=by
 have hm:=List.mem_filter.1 (List.getElem_mem h)
 refine⟨List.mem_range.1 hm.1,hm.2,fun hk=>?_⟩
 have hn:((List.range 64).filter f).Nodup:=List.nodup_range.filter _
 obtain⟨j,hj,e⟩:=List.mem_iff_getElem.1 hk
 rw[List.length_take]at hj
 rw[List.getElem_take]at e
 exact(List.pairwise_iff_getElem.1 hn) j k (by omega) h (by omega) e
theorem A0l{f:Nat→Bool}{j:Nat}(h:j<64):((List.range 64).filter f).contains j=f j:=by
 rw[Bool.eq_iff_iff,List.contains_iff_mem,List.mem_filter,List.mem_range]
 exact⟨fun a=>a.2,fun a=>⟨h,a⟩⟩
set_option maxHeartbeats 4000000 in
theorem t171{H:Aaa}{b:Nat}{L:Ly}{s:Sta}{x:Inp}{cv:Value}{cs:List (Int×Int)}(h:MaR H b L)(hL:Ah4 L)(hc:CL H cv cs)(hcl:cs.length≤1000000):
 ∃w H',Aau Tryz.prog 0 171 [ptr b 0,.agg (stl s).toArray,.agg (inl x cv).toArray] H w H'∧w=.tuple #[.agg (stl (Ait L s x cs)).toArray,.agg #[S64 (prB L x (Ait L s x cs)),S32 (Ait L s x cs).po]]∧H'=H:=by
 suffices h':∃w H',Aau Tryz.prog 0 171 [ptr b 0,.agg (stl s).toArray,.agg (inl x cv).toArray] H w H'∧w=.tuple #[.agg (stl (Ait L s x cs)).toArray,.agg #[S64 (prB L x (Ait L s x cs)),S32 (Ait L s x cs).po]]∧Aac H H' by
  obtain⟨_,_,a,rfl,k⟩:=h'
  exact⟨_,_,a.gc0 k (.inr (NV.tuple_of (.cons (Ap1 _ _) (.cons (NV.agg_of (l:=[S64 (prB L x (Ait L s x cs)),S32 (Ait L s x cs).po]) (NL.plain rfl)) .nil)))),rfl,rfl⟩
 refine Aaq A4r Bb6 ?_
 intro Q hq1 hq2
 have lr:=hL.r
 have lp:=hL.p
 have isc:=Sl.is hc
 have onec:=Sl.one hc
 have clen:=hc.len
 have hM:=h
 obtain⟨vr,vl,own,room,TT,gb,ms⟩:=h
 have hbl:=Aaa.Bp9 gb
 have r1:=Sl.one ms.r
 have l1:=Sl.one ms.l
 obtain⟨K0,hK0⟩:∃X,X=(((H.alloc (.cells true false 68 (stl s) 43)).alloc (.cells true false 4 (inl x cv) 46)).alloc (.cells true false 68 (stl Abs) 43)).alloc (.cells true false 2 [.int .u64 0,.int .u32 0] 54):=⟨_,rfl⟩
 have k0:Aac H K0:=by rw[hK0];exact((((Aac.refl H).alloc _).alloc _).alloc _).alloc _
 have n0:K0.n=H.n+4:=by rw[hK0];rfl
 have gs0:K0.get H.n=some (.cells true false 68 (stl s) 43):=by rw[hK0];exact((((Aac.refl _).alloc _).alloc _).alloc _).at_ (Aaa.Bp6 H _)
 have gi0:K0.get (H.n+1)=some (.cells true false 4 (inl x cv) 46):=by rw[hK0];exact(((Aac.refl _).alloc _).alloc _).at_ (Aaa.Bp6 (H.alloc _) _)
 have ga0:K0.get (H.n+2)=some (.cells true false 68 (stl Abs) 43):=by rw[hK0];exact((Aac.refl _).alloc _).at_ (Aaa.Bp6 ((H.alloc _).alloc _) _)
 have go0:K0.get (H.n+3)=some (.cells true false 2 [.int .u64 0,.int .u32 0] 54):=by rw[hK0];exact Aaa.Bp6 (((H.alloc _).alloc _).alloc _) _
 have tT:=Bps (hM.keeps k0) s
 have hinl:inl x cv=[S64 x.oc,S32 x.nr,S32 x.rv,cv]:=rfl
 rw[hinl]at hK0 gi0 ⊢
 simp(disch:=first|assumption|omega|(simp only[LN]<;>omega)|(simp(disch:=first|assumption|omega|(simp only[LN]<;>omega))only[Aab,Aad];assumption))only[Boo,P3,seval,Aak,Aat,Aaz,Aaj,Bfm,Abc,O4,onec]
 simp only[←hK0]
 refine Aag tT ?_
 rintro _ X ⟨rfl,hX⟩
 rw[hX]
 have hs0:=Aaa.Bp9 gs0
 obtain⟨s0,hs0e⟩:∃t,t=Ac1 L s:=⟨_,rfl⟩
 rw[←hs0e]
 obtain⟨K1,hK1⟩:∃X,X=K0.set H.n (.cells true false 68 (stl s0) 43):=⟨_,rfl⟩
 have k1:Aac H K1:=by rw[hK1];exact k0.set (Nat.le_refl _) hs0 _
 have gs1:K1.get H.n=some (.cells true false 68 (stl s0) 43):=by rw[hK1];exact Aaa.Bp7 gs0 _
 have oth1:∀b,b≠H.n→K1.get b=K0.get b:=fun b hb=>by rw[hK1];exact Aaa.Bp8 K0 hb hs0 _
 have gi1:=(oth1 (H.n+1) (by omega)).trans gi0
 have ga1:=(oth1 (H.n+2) (by omega)).trans ga0
 have go1:=(oth1 (H.n+3) (by omega)).trans go0
 simp(disch:=first|assumption|omega)only[P3,seval,Aak,Aat,gs0,gi0,Abh,Aeq,Abc,isc,clen]
 simp only[←hK1]
 rw[Aah]
 refine Aan (fun q fr K=>∃i x8 x9 x24 x25,fr=[ptr b 0,.agg (stl s).toArray,.agg #[S64 x.oc,S32 x.nr,S32 x.rv,cv],ptr H.n 0,ptr (H.n+1) 0,ptr (H.n+2) 0,ptr (H.n+3) 0,S64 s0.us,x8,x9,
  undef,undef,undef,undef,undef,undef,undef,undef,undef,undef,.bool false,cv,.int .i64 ((cs.length:Nat):Int),.int .i64 ((i:Nat):Int),x24,x25,undef,undef,undef,undef,undef,undef,undef,undef]∧
  Aac H K∧K.get H.n=some (.cells true false 68 (stl (Ax9 L x.oc s0 (cs.take (min i 8)))) 43)∧K.get (H.n+1)=some (.cells true false 4 [S64 x.oc,S32 x.nr,S32 x.rv,cv] 46)∧
  K.get (H.n+2)=some (.cells true false 68 (stl Abs) 43)∧K.get (H.n+3)=some (.cells true false 2 [.int .u64 0,.int .u32 0] 54)∧i≤cs.length∧q=cs.length-i) cs.length
  ⟨0,_,_,_,_,rfl,k1,gs1,gi1,ga1,go1,by omega,rfl⟩ ?_
 rintro Q' q fr K ⟨i,x8,x9,x24,x25,rfl,kK,gs,gi,ga,go,hi,rfl⟩ hn' hx' hret
 by_cases hlt:i<cs.length
 ·obtain⟨na,ra⟩:=(hc.keeps kK).at_ hlt
  have e0:(0:Int)≤(i:Int):=by omega
  have e1:(i:Int)<((cs.length:Nat):Int):=by omega
  have hw:IntKind.i64.wrap ((i:Int)+1)=((i+1:Nat):Int):=by rw[Aae (by omega) (by omega)];simp
  have hgd:cs.getD i (0,0)=cs[i]:=by rw[List.getD_eq_getElem?_getD,List.getElem?_eq_getElem hlt];rfl
  have htk:i<8→cs.take (min (i+1) 8)=cs.take (min i 8)++[cs.getD i (0,0)]:=fun h8=>by
   rw[Nat.min_eq_left (by omega),Nat.min_eq_left (by omega),List.take_add_one,List.getElem?_eq_getElem hlt,hgd];rfl
  have htn:¬i<8→cs.take (min (i+1) 8)=cs.take (min i 8):=fun h8=>by rw[Nat.min_eq_right (by omega),Nat.min_eq_right (by omega)]
  generalize cs.getD i (0,0)=c at*
  obtain⟨kd,n⟩:=c
  obtain⟨K2,hK2⟩:∃X,X=K.alloc (.cells true false 2 [.int .u8 kd,.int .i64 n] 83):=⟨_,rfl⟩
  have kK2:Aac K K2:=by rw[hK2];exact(Aac.refl K).alloc _
  have gc2:K2.get K.n=some (.cells true false 2 [.int .u8 kd,.int .i64 n] 83):=by rw[hK2];exact Aaa.Bp6 K _
  have gs2:=kK2.at_ gs
  have gi2:=kK2.at_ gi
  have ga2:=kK2.at_ ga
  have go2:=kK2.at_ go
  have hsK:=Aaa.Bp9 gs
  have hiK:=Aaa.Bp9 gi
  by_cases h8:i<8
  ·have e8:(i:Int)<8:=by omega
   have tC:=t176 (kd:=kd) (n:=n) (oc:=x.oc) hM (kK.trans kK2) (Nat.le_refl _) lr lp gs2
   simp(disch:=first|assumption|omega|(simp only[LN]<;>omega)|(simp(disch:=first|assumption|omega|(simp only[LN]<;>omega))only[Aab,Aad];assumption))only[P4,seval,e0,e1,e8,na,ra,clen,Aai,gi,hiK]
   simp only[←hK2]
   refine Aag tC ?_
   rintro _ K3 ⟨c3,gs3⟩
   simp(disch:=first|assumption|omega)only[P4,seval,hw]
   refine hn' _ _ _ ⟨i+1,_,_,_,_,rfl,(kK.trans kK2).Bqa c3 (by simp),?_,c3.at_ gi2 (by simp),c3.at_ ga2 (by simp),c3.at_ go2 (by simp),by omega,rfl⟩ (by omega)
   rw[htk h8,Ayb];exact gs3
  ·have e8:¬(i:Int)<8:=by omega
   simp(disch:=first|assumption|omega|(simp only[LN]<;>omega)|(simp(disch:=first|assumption|omega|(simp only[LN]<;>omega))only[Aab,Aad];assumption))only[P4,seval,e0,e1,e8,na,ra,clen,Aai,gi,hiK,hw]
   simp only[←hK2]
   refine hn' _ _ _ ⟨i+1,_,_,_,_,rfl,kK.trans kK2,?_,gi2,ga2,go2,by omega,rfl⟩ (by omega)
   rw[htn h8];exact gs2
 ·have e1:¬((i:Nat):Int)<((cs.length:Nat):Int):=by omega
  have hie:i=cs.length:=by omega
  subst hie
  have htk8:cs.take (min cs.length 8)=cs.take 8:=by
   by_cases h:cs.length≤8
   ·rw[Nat.min_eq_left h,List.take_of_length_le (Nat.le_refl _),List.take_of_length_le h]
   ·rw[Nat.min_eq_right (by omega)]
  rw[htk8]at gs
  obtain⟨s1,hs1⟩:∃t,t=Ax9 L x.oc s0 (cs.take 8):=⟨_,rfl⟩
  rw[←hs1]at gs
  have ti1:∀i,s1.ti i≤20:=by rw[hs1,hs0e];exact A0k (Aoy L s)
  have hst:Ait L s x cs=Aya L x s0.us s1:=by unfold Ait;rw[hs1,hs0e]
  rw[hst]at hq1 hq2
  have gbK:=kK.at_ gb
  have msK:=ms.keeps kK
  unfold Abm at gbK
  simp(disch:=first|assumption|omega)only[P4,seval,e1]
  refine hx' _ _ _ ?_
  simp(disch:=first|assumption|omega)only[P3,seval,Aak,Aat,gbK,r1,l1]
  have tF:=Bmn (H:=K) (p:=fun i=>Aa0 fun j=>trP (ro L i) j&&x.oc j) (fn:=178) (ca:= #[ptr (H.n+1) 0]) msK.r lr (fun K' i k _=>t178 (k.at_ (by rw[hinl];exact gi)))
  have tE:=Bmn (H:=K) (p:=fun i=> !Aa0 fun j=>fiP (ro L i) j&&x.oc j) (fn:=179) (ca:= #[ptr (H.n+1) 0]) msK.r lr (fun K' i k _=>t179 (k.at_ (by rw[hinl];exact gi)))
  have t8:=t180 gs
  refine Aag tF ?_
  rintro _ X ⟨rfl,hX⟩
  rw[hX]
  simp(disch:=first|assumption|omega)only[P3,seval,Aak,Aat,gbK,r1,l1]
  refine Aag tE ?_
  rintro _ X ⟨rfl,hX⟩
  rw[hX]
  obtain⟨fr_,hfr⟩:∃f,f=Arb L x:=⟨_,rfl⟩
  obtain⟨en_,hen⟩:∃f,f=A61 L x:=⟨_,rfl⟩
  have hfr':(fun i=>decide (i<L.r.length)&&Aa0 fun j=>trP (ro L i) j&&x.oc j)=fr_:=by rw[hfr];rfl
  have hen':(fun i=>decide (i<L.r.length)&& !Aa0 fun j=>fiP (ro L i) j&&x.oc j)=en_:=by rw[hen];rfl
  rw[hfr',hen']
  have hsl:Aam (.slarr 1 64 (ptr H.n 3) none none none) K=some (slc H.n 3 64 64,K):=rfl
  simp(disch:=first|assumption|omega)only[P3,seval,Aak,Aat,gs,Adv,Aec,hsl]
  refine Aag t8 ?_
  rintro _ X ⟨rfl,hX⟩
  rw[hX]
  simp(disch:=first|assumption|omega)only[P3,seval,Aak,Aat,Aeb,Ahh,Aec]
  refine Aag (Bpx _) ?_
  rintro w1 K2 ⟨il1,k2,f1⟩
  have rel_:(fun i=>fr_ i&&(s0.us i||(((s1.ca i&& !s0.us i)&& !en_ i)&&decide (s1.ti i=0))))=Ali L x s0.us s1:=by rw[hfr,hen];rfl
  have wai_:(fun i=>((s1.ca i&& !s0.us i)&& !en_ i)&& !decide (s1.ti i=0))=fun i=>Ah7 L x s0.us s1 i&& !decide (s1.ti i=0):=by rw[hen];rfl
  rw[wai_]at il1
  have is1:=Sl.is il1
  have len1:=il1.len
  simp only[List.length_map]at len1
  obtain⟨l1_,hl1⟩:∃l,l=(List.range 64).filter (fun i=>Ah7 L x s0.us s1 i&& !decide (s1.ti i=0)):=⟨_,rfl⟩
  have gsK2:=k2.at_ gs
  simp(disch:=first|assumption|omega)only[P3,seval,Aak,Aat,is1,len1]
  have wai2:(fun i=>(s1.ca i&& !s0.us i)&& !en_ i)=Ah7 L x s0.us s1:=by rw[hen];rfl
  rw[rel_,wai2,Aah]
  rw[←hl1]at il1 len1
  simp only[←hl1]
  have l1len:l1_.length≤64:=by rw[hl1];exact A52 _ 64
  refine Aan (fun q fr X=>∃k x15 x29,fr=[ptr b 0,.agg (stl s).toArray,.agg #[S64 x.oc,S32 x.nr,S32 x.rv,cv],ptr H.n 0,ptr (H.n+1) 0,ptr (H.n+2) 0,ptr (H.n+3) 0,S64 s0.us,x8,x9,S64 fr_,S64 en_,S64 (Ah7 L x s0.us s1),S64 (fun i=>decide (s1.ti i=0)),S64 (Ali L x s0.us s1),x15,undef,undef,undef,undef,.bool false,cv,.int .i64 ((cs.length:Nat):Int),.int .i64 ((cs.length:Nat):Int),.bool false,x25,w1,.int .i64 ((l1_.length:Nat):Int),.int .i64 ((k:Nat):Int),x29,undef,undef,undef,undef]∧
   Chg [H.n] K2 X∧X.get H.n=some (.cells true false 68 (stl {s1 with ti:=tiA s1.ti (l1_.take k)}) 43)∧k≤l1_.length∧q=l1_.length-k) l1_.length
   ⟨0,_,_,rfl,Chg.refl _ _,by rw[gsK2,List.take_zero];rfl,by omega,rfl⟩ ?_
  rintro Q2 q fr X ⟨k,x15,x29,rfl,cX,gsX,hk,rfl⟩ hn2 hx2 hret2
  have hsX:=Aaa.Bp9 gsX
  by_cases hlk:k<l1_.length
  ·obtain⟨n1,ro1⟩:=(IL.at_ (Sl.chg il1 cX (fun b hb=>by have:=f1 b hb;have:=Aaa.Bp9 gs;simp;omega)) (i:=k) (by simpa using hlk))
   have fa:=Bfo (f:=fun i=>Ah7 L x s0.us s1 i&& !decide (s1.ti i=0)) (k:=k) (by rw[←hl1];exact hlk)
   simp only[←hl1]at fa
   have hgd:(l1_.map fun(i:Nat)=>(i:Int)).getD k 0=((l1_[k]:Nat):Int):=by rw[List.getD_eq_getElem?_getD,List.getElem?_map,List.getElem?_eq_getElem hlk];rfl
   rw[hgd]at ro1
   have htk:l1_.take (k+1)=l1_.take k++[l1_[k]]:=by rw[List.take_add_one,List.getElem?_eq_getElem hlk];rfl
   obtain⟨m,hm⟩:∃m,m=l1_[k]:=⟨_,rfl⟩
   rw[←hm]at fa ro1 htk
   obtain⟨f1a,f1b,f1c⟩:=fa
   simp only[Bool.and_eq_true,Bool.not_eq_true',decide_eq_false_iff_not]at f1b
   have tim:=ti1 m
   have e0:(0:Int)≤(k:Int):=by omega
   have e1:(k:Int)<((l1_.length:Nat):Int):=by omega
   have m0:(0:Int)≤(m:Int):=by omega
   have m1:(m:Int)<64:=by omega
   have hll:3+m<68:=by omega
   have hw:IntKind.i64.wrap ((k:Int)+1)=((k+1:Nat):Int):=by rw[Aae (by omega) (by omega)];simp
   have hta:tiA s1.ti (l1_.take k) m=s1.ti m:=by unfold tiA;simp[f1c]
   have st:=Amg {s1 with ti:=tiA s1.ti (l1_.take k)} f1a
   simp only[hta]at st
   have hsub:IntKind.u8.wrap (((s1.ti m:Nat):Int)-1)=((s1.ti m-1:Nat):Int):=by rw[Al6];omega
   have sett:=Akw {s1 with ti:=tiA s1.ti (l1_.take k)} f1a (s1.ti m-1)
   simp only[Bmp f1c,←htk]at sett
   simp(disch:=first|assumption|omega)only[P4,seval,e0,e1,n1,ro1,len1,Aal,m0,m1,Aa1,gsX,st,hsub,sett,Aaj,hll,hw,Int.toNat_natCast,Nat.mul_one]
   exact hn2 _ _ _ ⟨k+1,_,_,rfl,cX.trans (Chg.set X hsX _) (by simp),Aaa.Bp7 gsX _,by omega,rfl⟩ (by omega)
  ·have hke:k=l1_.length:=by omega
   subst hke
   rw[List.take_length]at gsX
   have e1:¬((l1_.length:Nat):Int)<((l1_.length:Nat):Int):=by omega
   simp(disch:=first|assumption|omega)only[P4,seval,e1]
   refine hx2 _ _ _ ?_
   simp(disch:=first|assumption|omega)only[P4,seval]
   refine Aag (Bpx _) ?_
   rintro w2 X2 ⟨il2,kX2,f2⟩
   have is2:=Sl.is il2
   have len2:=il2.len
   simp only[List.length_map]at len2
   obtain⟨l2_,hl2⟩:∃l,l=(List.range 64).filter (Ali L x s0.us s1):=⟨_,rfl⟩
   rw[←hl2]at il2 len2
   have gsX2:=kX2.at_ gsX
   simp(disch:=first|assumption|omega)only[P3,seval,Aak,Aat,is2,len2]
   rw[Aah]
   have l2len:l2_.length≤64:=by rw[hl2];exact A52 _ 64
   refine Aan (fun q fr Y=>∃k x16 x33,fr=[ptr b 0,.agg (stl s).toArray,.agg #[S64 x.oc,S32 x.nr,S32 x.rv,cv],ptr H.n 0,ptr (H.n+1) 0,ptr (H.n+2) 0,ptr (H.n+3) 0,S64 s0.us,x8,x9,S64 fr_,S64 en_,S64 (Ah7 L x s0.us s1),S64 (fun i=>decide (s1.ti i=0)),S64 (Ali L x s0.us s1),x15,x16,undef,undef,undef,.bool false,cv,.int .i64 ((cs.length:Nat):Int),.int .i64 ((cs.length:Nat):Int),.bool false,x25,w1,.int .i64 ((l1_.length:Nat):Int),.int .i64 ((l1_.length:Nat):Int),.bool false,w2,.int .i64 ((l2_.length:Nat):Int),.int .i64 ((k:Nat):Int),x33]∧
    Chg [H.n] X2 Y∧Y.get H.n=some (.cells true false 68 (stl {s1 with ti:=tiB (tiA s1.ti l1_) (l2_.take k)}) 43)∧k≤l2_.length∧q=l2_.length-k) l2_.length
    ⟨0,_,_,rfl,Chg.refl _ _,by rw[gsX2,List.take_zero];rfl,by omega,rfl⟩ ?_
   rintro Q3 q fr Y ⟨k,x16,x33,rfl,cY,gsY,hk,rfl⟩ hn3 hx3 hret3
   have hsY:=Aaa.Bp9 gsY
   by_cases hlk:k<l2_.length
   ·obtain⟨n1,ro1⟩:=(IL.at_ (Sl.chg il2 cY (fun b hb=>by have:=f2 b hb;have:=Aaa.Bp9 gsX;simp;omega)) (i:=k) (by simpa using hlk))
    have fa:=Bfo (f:=Ali L x s0.us s1) (k:=k) (by rw[←hl2];exact hlk)
    simp only[←hl2]at fa
    have hgd:(l2_.map fun(i:Nat)=>(i:Int)).getD k 0=((l2_[k]:Nat):Int):=by rw[List.getD_eq_getElem?_getD,List.getElem?_map,List.getElem?_eq_getElem hlk];rfl
    rw[hgd]at ro1
    have htk:l2_.take (k+1)=l2_.take k++[l2_[k]]:=by rw[List.take_add_one,List.getElem?_eq_getElem hlk];rfl
    obtain⟨m,hm⟩:∃m,m=l2_[k]:=⟨_,rfl⟩
    rw[←hm]at fa ro1 htk
    obtain⟨f1a,f1b,f1c⟩:=fa
    have e0:(0:Int)≤(k:Int):=by omega
    have e1:(k:Int)<((l2_.length:Nat):Int):=by omega
    have m0:(0:Int)≤(m:Int):=by omega
    have m1:(m:Int)<64:=by omega
    have hll:3+m<68:=by omega
    have hw:IntKind.i64.wrap ((k:Int)+1)=((k+1:Nat):Int):=by rw[Aae (by omega) (by omega)];simp
    have sett:=Anh {s1 with ti:=tiB (tiA s1.ti l1_) (l2_.take k)} f1a
    simp only[Bmq,←htk]at sett
    simp(disch:=first|assumption|omega)only[P4,seval,e0,e1,n1,ro1,len2,Aal,m0,m1,Aa1,gsY,sett,Aaj,hll,hw,Int.toNat_natCast,Nat.mul_one]
    exact hn3 _ _ _ ⟨k+1,_,_,rfl,cY.trans (Chg.set Y hsY _) (by simp),Aaa.Bp7 gsY _,by omega,rfl⟩ (by omega)
   ·have hke:k=l2_.length:=by omega
    subst hke
    rw[List.take_length]at gsY
    have e1:¬((l2_.length:Nat):Int)<((l2_.length:Nat):Int):=by omega
    have kKX:Aac H X2:=((kK.trans k2).Bqa cX (by simp)).trans kX2
    have kHY:Aac H Y:=kKX.Bqa cY (by simp)
    have giY:Y.get (H.n+1)=some (.cells true false 4 [S64 x.oc,S32 x.nr,S32 x.rv,cv] 46):=cY.at_ (kX2.at_ (cX.at_ (k2.at_ gi) (by simp))) (by simp)
    have gaY:Y.get (H.n+2)=some (.cells true false 68 (stl Abs) 43):=cY.at_ (kX2.at_ (cX.at_ (k2.at_ ga) (by simp))) (by simp)
    have goY:Y.get (H.n+3)=some (.cells true false 2 [.int .u64 0,.int .u32 0] 54):=cY.at_ (kX2.at_ (cX.at_ (k2.at_ go) (by simp))) (by simp)
    have gbY:=kHY.at_ gb
    have msY:=ms.keeps kHY
    unfold Abm at gbY
    have stE:stl {s1 with ti:=tiB (tiA s1.ti l1_) l2_}=stl {s1 with ti:=(Aya L x s0.us s1).ti}:=by
     refine Adn (fun _ _=>rfl) (fun _ _=>rfl) (fun _ _=>rfl) (fun j hj=>?_) (fun _ _=>rfl)
     show tiB (tiA s1.ti l1_) l2_ j=(if Ali L x s0.us s1 j then 0 else if Ah7 L x s0.us s1 j&& !decide (s1.ti j=0)then s1.ti j-1 else s1.ti j)
     unfold tiB tiA
     rw[hl1,hl2,A0l hj,A0l hj]
    rw[stE]at gsY
    simp(disch:=first|assumption|omega)only[P4,seval,e1]
    refine hx3 _ _ _ ?_
    obtain⟨Y1,hY1⟩:∃Z,Z=Y.set H.n (.cells true false 68 (stl (Aya L x s0.us s1)) 43):=⟨_,rfl⟩
    simp(disch:=first|assumption|omega|(simp only[LN]<;>omega)|(simp(disch:=first|assumption|omega|(simp only[LN]<;>omega))only[Aab,Aad];assumption))only[P4,seval,gsY,giY,Abv,Aeq,Adv,Aaj,Ah6,Ais,Ahe,Aec,Aeb,Ahh,Abn,Acu]
    have eE:stl (⟨fun i=>s1.lo i&& !Ali L x s0.us s1 i,fun i=>(s1.lo i&& !Ali L x s0.us s1 i)&&(s0.us i||en_ i),fun i=>s1.ca i&& !Ali L x s0.us s1 i,(Aya L x s0.us s1).ti,s1.po⟩:Sta)=stl (Aya L x s0.us s1):=by rw[hen];rfl
    have kY1:Aac H Y1:=by rw[hY1];exact kHY.set (Nat.le_refl _) hsY _
    have gsY1:Y1.get H.n=some (.cells true false 68 (stl (Aya L x s0.us s1)) 43):=by rw[hY1];exact Aaa.Bp7 gsY _
    have othY:∀b,b≠H.n→Y1.get b=Y.get b:=fun b hb=>by rw[hY1];exact Aaa.Bp8 Y hb hsY _
    have gaY1:=(othY (H.n+2) (by omega)).trans gaY
    have goY1:=(othY (H.n+3) (by omega)).trans goY
    have tS:=Bpy (H:=Y1) (x:=x) isc
    rw[hinl]at tS
    rw[eE,←hY1]
    refine Aag tS ?_
    rintro _ X' ⟨rfl,hX'⟩
    rw[hX']
    obtain⟨Y2,hY2⟩:∃Z,Z=(Y1.alloc (.cells true false 1 [S32 (Ada x)] 41)).alloc (.cells true false 1 [S32 (Adb x)] 41):=⟨_,rfl⟩
    have kY2:Aac Y1 Y2:=by rw[hY2];exact((Aac.refl Y1).alloc _).alloc _
    have g1:Y2.get Y1.n=some (.cells true false 1 [S32 (Ada x)] 41):=by rw[hY2];exact((Aac.refl _).alloc _).at_ (Aaa.Bp6 Y1 _)
    have g2:Y2.get (Y1.n+1)=some (.cells true false 1 [S32 (Adb x)] 41):=by rw[hY2];exact Aaa.Bp6 (Y1.alloc _) _
    have kH2:=kY1.trans kY2
    have gb2:=kH2.at_ gb
    have ms2:=ms.keeps kH2
    have gb1:=kY1.at_ gb
    have hb1:=Aaa.Bp9 gb1
    unfold Abm at gb2 gb1
    have gs2:=kY2.at_ gsY1
    have ga2:=kY2.at_ gaY1
    have go2:=kY2.at_ goY1
    have hs2:=Aaa.Bp9 gs2
    have ha2:=Aaa.Bp9 ga2
    have ho2:=Aaa.Bp9 go2
    have tD:=Bmn (H:=Y2) (p:=fun i=>(Abk fun p=>nor L i p&& !Ada x p)&&(Abk fun p=>rev L i p&& !Adb x p)) (fn:=183) (ca:= #[ptr Y1.n 0,ptr (Y1.n+1) 0]) ms2.r lr (fun K' i k _=>t183 (k.at_ g1) (k.at_ g2))
    have hb1':b<Y1.n+1:=by omega
    simp(disch:=first|assumption|omega|(simp only[LN]<;>omega)|(simp(disch:=first|assumption|omega|(simp only[LN]<;>omega))only[Aab,Aad];assumption))only[P4,seval,gb1,hb1,hb1',r1,l1,Afs,Ab8]
    simp only[←hY2]
    refine Aag tD ?_
    rintro _ X' ⟨rfl,hX'⟩
    rw[hX']
    have hde:(fun i=>decide (i<L.r.length)&&((Abk fun p=>nor L i p&& !Ada x p)&&Abk fun p=>rev L i p&& !Adb x p))=Bhd L x:=rfl
    rw[hde]
    obtain⟨e,hee⟩:∃e,e=Aya L x s0.us s1:=⟨_,rfl⟩
    rw[←hee]at gs2 hq1 hq2
    have oa:∀o,(Y2.set (H.n+2) o).get (H.n+3)=Y2.get (H.n+3):=fun o=>Aaa.Bp8 Y2 (by omega) ha2 o
    have oh:∀o,(Y2.set (H.n+2) o).get H.n=Y2.get H.n:=fun o=>Aaa.Bp8 Y2 (by omega) ha2 o
    simp(disch:=first|assumption|omega|(simp only[LN]<;>omega)|(simp(disch:=first|assumption|omega|(simp only[LN]<;>omega))only[Aab,Aad];assumption))only[P4,seval,gs2,ga2,go2,oa,oh,Abc,Abh,Abv,Aeq,Adv,Ab4,Aeb,Aec,Bmo,O4,Ajx,Anf]
    have hpr:(fun i=>(((e.lo i&&fr_ i)&&Bhd L x i)&& !e.us i)&& !e.ca i)=prB L x e:=by rw[hfr];rfl
    rw[hpr]
    refine⟨by simp,hq2 _ _ ⟨.tuple #[.agg (stl e).toArray,.agg #[S64 (prB L x e),S32 e.po]],?_,rfl,(kH2.set (by omega) ha2 _).set (by omega) (by rw[Ab7];exact ho2) _⟩⟩
    have ga3:((Y2.set (H.n+2) (.cells true false 68 (stl e) 43)).set (H.n+3) (.cells true false 2 [S64 (prB L x e),S32 e.po] 54)).get (H.n+2)=some (.cells true false 68 (stl e) 43):=by
     rw[Aaa.Bp8 _ (by omega) (by rw[Ab7];exact ho2)];exact Aaa.Bp7 ga2 _
    have go3:((Y2.set (H.n+2) (.cells true false 68 (stl e) 43)).set (H.n+3) (.cells true false 2 [S64 (prB L x e),S32 e.po] 54)).get (H.n+3)=some (.cells true false 2 [S64 (prB L x e),S32 e.po] 54):=
     Aaa.Bp7 ((oa _).trans go2) _
    show Acx [.cn 68 5,.cn 2 6] _ _=_
    have r1':Adm 68 (ptr (H.n+2) 0) ((Y2.set (H.n+2) (.cells true false 68 (stl e) 43)).set (H.n+3) (.cells true false 2 [S64 (prB L x e),S32 e.po] 54))=some (.agg (stl e).toArray):=by
     rw[Acq,Abj,ga3,Abc];rfl
    have r2':Adm 2 (ptr (H.n+3) 0) ((Y2.set (H.n+2) (.cells true false 68 (stl e) 43)).set (H.n+3) (.cells true false 2 [S64 (prB L x e),S32 e.po] 54))=some (.agg #[S64 (prB L x e),S32 e.po]):=by
     rw[Acq,Abj,go3];rfl
    have e5:∀l:List Value,l.getD 5 undef=ptr (H.n+2) 0→l.getD 6 undef=ptr (H.n+3) 0→∀K,Adm 68 (ptr (H.n+2) 0) K=some (.agg (stl e).toArray)→Adm 2 (ptr (H.n+3) 0) K=some (.agg #[S64 (prB L x e),S32 e.po])→
     Acx [.cn 68 5,.cn 2 6] l K=some (.tuple #[.agg (stl e).toArray,.agg #[S64 (prB L x e),S32 e.po]]):=fun l a b K c d=>by
     simp only[Acx,Agl,RX.get,a,b,c,d];rfl
    exact e5 _ rfl rfl _ r1' r2'
end Go.AM.Fd

set_option maxRecDepth 100000
set_option maxHeartbeats 0
namespace Go.AM.F
def Bow:List Value:=[(.int .u64 0),(.int .u64 0),(.int .u64 0)]++List.replicate 64 (.int .u8 0)++[(.int .u32 0)]
def Akf:TypeId→List Value
 |43=>Bow
 |54=>[(.int .u64 0),(.int .u32 0)]
 |46=>[(.int .u64 0),(.int .u32 0),(.int .u32 0),(.slice none 0 0)]
 |87=>[(.string ByteArray.empty),(.int .i64 0),(.slice none 0 0),(.slice none 0 0),(.slice none 0 0),(.slice none 0 0)]
 |83=>[(.int .u8 0),(.int .i64 0)]
 |_=>[]
def Akg:TypeId→Value
 |_=>undef
def Akh:TypeId→List Nat
 |_=>[]
def Aki:Nat→TypeId→List Value
 |1,83=>[(.int .u8 0),(.int .i64 0)]
 |_,_=>[]
noncomputable def f89:Aao:=by
 refine(fun(_:Cz Akf Akg Akh Aki Go.Proofs.Tryz.prog 0 [0,1,2,3,4,5,6,7,8,9,10,11,12,26,42,48,62,69] 89 ?a)=>?a) ?h
 case h=>
 intro zc zv zk zr hc hv hk hr
 conv=>lhs;cbv;try simp only[hc,hv,hk,hr,Akf,Akg,Akh,Aki]
theorem Bcj:Aap Go.Proofs.Tryz.prog 0 [0,1,2,3,4,5,6,7,8,9,10,11,12,26,42,48,62,69] 89=some f89:=by kernel_rfl
theorem Bki:Aaf Go.Proofs.Tryz.prog 89 3=true:=by kernel_rfl
noncomputable def Box:Aao:=by
 refine(fun(_:Cz Akf Akg Akh Aki Go.Proofs.Tryz.prog 0 [0,1,2,3,4,5,6,7,8,9,10,16,18,47,64,75,117,122] 113 ?a)=>?a) ?h
 case h=>
 intro zc zv zk zr hc hv hk hr
 conv=>lhs;cbv;try simp only[hc,hv,hk,hr,Akf,Akg,Akh,Aki]
theorem A4z:Aap Go.Proofs.Tryz.prog 0 [0,1,2,3,4,5,6,7,8,9,10,16,18,47,64,75,117,122] 113=some Box:=by kernel_rfl
theorem Bck:Aaf Go.Proofs.Tryz.prog 113 4=true:=by kernel_rfl
noncomputable def Boy:Aao:=by
 refine(fun(_:Cz Akf Akg Akh Aki Go.Proofs.Tryz.prog 0 [0,1,2,3,4,5,6,7,10,11,17,23,27,41,60] 114 ?a)=>?a) ?h
 case h=>
 intro zc zv zk zr hc hv hk hr
 conv=>lhs;cbv;try simp only[hc,hv,hk,hr,Akf,Akg,Akh,Aki]
theorem A40:Aap Go.Proofs.Tryz.prog 0 [0,1,2,3,4,5,6,7,10,11,17,23,27,41,60] 114=some Boy:=by kernel_rfl
theorem Bcl:Aaf Go.Proofs.Tryz.prog 114 5=true:=by kernel_rfl
noncomputable def Bkj:Aao:=by
 refine(fun(_:Cz Akf Akg Akh Aki Go.Proofs.Tryz.prog 0 [0,1,2,3,4,5,6,8,9,10,11,12,13,34,49,57,67] 115 ?a)=>?a) ?h
 case h=>
 intro zc zv zk zr hc hv hk hr
 conv=>lhs;cbv;try simp only[hc,hv,hk,hr,Akf,Akg,Akh,Aki]
theorem A41:Aap Go.Proofs.Tryz.prog 0 [0,1,2,3,4,5,6,8,9,10,11,12,13,34,49,57,67] 115=some Bkj:=by kernel_rfl
theorem Bcm:Aaf Go.Proofs.Tryz.prog 115 4=true:=by kernel_rfl
noncomputable def f12:Aao:=by
 refine(fun(_:Cz Akf Akg Akh Aki Go.Proofs.Tryz.prog 0 [0,1,2,3,4,5,6,7,8,22,40,45,59,82] 12 ?a)=>?a) ?h
 case h=>
 intro zc zv zk zr hc hv hk hr
 conv=>lhs;cbv;try simp only[hc,hv,hk,hr,Akf,Akg,Akh,Aki]
theorem Bcn:Aap Go.Proofs.Tryz.prog 0 [0,1,2,3,4,5,6,7,8,22,40,45,59,82] 12=some f12:=by kernel_rfl
theorem Bkk:Aaf Go.Proofs.Tryz.prog 12 2=true:=by kernel_rfl
noncomputable def Bkl:Aao:=by
 refine(fun(_:Cz Akf Akg Akh Aki Go.Proofs.Tryz.prog 0 [0,1,2,3,4,5,6,8,9,10,11,12,27,32,48,54,84] 129 ?a)=>?a) ?h
 case h=>
 intro zc zv zk zr hc hv hk hr
 conv=>lhs;cbv;try simp only[hc,hv,hk,hr,Akf,Akg,Akh,Aki]
theorem A42:Aap Go.Proofs.Tryz.prog 0 [0,1,2,3,4,5,6,8,9,10,11,12,27,32,48,54,84] 129=some Bkl:=by kernel_rfl
theorem Bco:Aaf Go.Proofs.Tryz.prog 129 4=true:=by kernel_rfl
noncomputable def Boz:Aao:=by
 refine(fun(_:Cz Akf Akg Akh Aki Go.Proofs.Tryz.prog 0 [0,1,2,4] 130 ?a)=>?a) ?h
 case h=>
 intro zc zv zk zr hc hv hk hr
 conv=>lhs;cbv;try simp only[hc,hv,hk,hr,Akf,Akg,Akh,Aki]
theorem A43:Aap Go.Proofs.Tryz.prog 0 [0,1,2,4] 130=some Boz:=by kernel_rfl
theorem Bcp:Aaf Go.Proofs.Tryz.prog 130 2=true:=by kernel_rfl
noncomputable def Bo0:Aao:=by
 refine(fun(_:Cz Akf Akg Akh Aki Go.Proofs.Tryz.prog 0 [0,1,2,3,4,6,7,8,9,14,26,41] 131 ?a)=>?a) ?h
 case h=>
 intro zc zv zk zr hc hv hk hr
 conv=>lhs;cbv;try simp only[hc,hv,hk,hr,Akf,Akg,Akh,Aki]
theorem A44:Aap Go.Proofs.Tryz.prog 0 [0,1,2,3,4,6,7,8,9,14,26,41] 131=some Bo0:=by kernel_rfl
theorem Bcq:Aaf Go.Proofs.Tryz.prog 131 3=true:=by kernel_rfl
noncomputable def Bo1:Aao:=by
 refine(fun(_:Cz Akf Akg Akh Aki Go.Proofs.Tryz.prog 0 [0,1,2,3,4,5,6,12,21] 132 ?a)=>?a) ?h
 case h=>
 intro zc zv zk zr hc hv hk hr
 conv=>lhs;cbv;try simp only[hc,hv,hk,hr,Akf,Akg,Akh,Aki]
theorem A45:Aap Go.Proofs.Tryz.prog 0 [0,1,2,3,4,5,6,12,21] 132=some Bo1:=by kernel_rfl
theorem Bcr:Aaf Go.Proofs.Tryz.prog 132 2=true:=by kernel_rfl
noncomputable def Bo2:Aao:=by
 refine(fun(_:Cz Akf Akg Akh Aki Go.Proofs.Tryz.prog 0 [0,1,2,4] 133 ?a)=>?a) ?h
 case h=>
 intro zc zv zk zr hc hv hk hr
 conv=>lhs;cbv;try simp only[hc,hv,hk,hr,Akf,Akg,Akh,Aki]
theorem A46:Aap Go.Proofs.Tryz.prog 0 [0,1,2,4] 133=some Bo2:=by kernel_rfl
theorem Bcs:Aaf Go.Proofs.Tryz.prog 133 2=true:=by kernel_rfl
noncomputable def Bo3:Aao:=by
 refine(fun(_:Cz Akf Akg Akh Aki Go.Proofs.Tryz.prog 0 [0,1,2,3] 134 ?a)=>?a) ?h
 case h=>
 intro zc zv zk zr hc hv hk hr
 conv=>lhs;cbv;try simp only[hc,hv,hk,hr,Akf,Akg,Akh,Aki]
theorem A47:Aap Go.Proofs.Tryz.prog 0 [0,1,2,3] 134=some Bo3:=by kernel_rfl
theorem Bct:Aaf Go.Proofs.Tryz.prog 134 1=true:=by kernel_rfl
end Go.AM.F

set_option maxRecDepth 8000
namespace Go.AM.Fd
open Nat (reduceAdd reduceEqDiff reduceLT reduceLeDiff reduceMul reduceSub)
open Go.Proofs Go.AM.F
theorem Aml:Bow=stl Abs:=Ado
theorem Bhe{H:Aaa}{x:Inp}{cv:Value}(hc:isS cv=true)(n:Int):∃w H',Aau Tryz.prog 0 130 [.agg (inl x cv).toArray,.int .i64 n] H w H'∧w=.bool (!Ab2 x.oc n)∧H'=H:=by
 refine gcb ?_
 refine Aaq A43 Bcp ?_
 intro Q hq1 hq2
 have kA:=(Aac.refl H).alloc (.cells true false 4 (inl x cv) 46)
 have o1:=Aas hc
 unfold inl at kA ⊢
 simp(disch:=first|assumption|omega)only[Boz,P4,seval,o1,O4]
 refine Aaw (Anv _ _) ?_
 simp(disch:=first|assumption|omega)only[P4,seval]
 exact hq2 _ _ ⟨_,rfl,rfl,kA⟩
theorem t134{H:Aaa}{x:Inp}{cv:Value}(hc:isS cv=true):
 ∃w H',Aau Tryz.prog 0 134 [.agg (inl x cv).toArray] H w H'∧w=.tuple #[S32 (Ada x),S32 (Adb x)]∧H'=H:=by
 suffices h':∃w H',Aau Tryz.prog 0 134 [.agg (inl x cv).toArray] H w H'∧w=.tuple #[S32 (Ada x),S32 (Adb x)]∧Aac H H' by
  obtain⟨_,_,a,rfl,k⟩:=h'
  exact⟨_,_,a.gc0 k (.inr (.tuple _ _ rfl (fun i a b=>by
   match i,a with
   |0,_=>exact .int _ _
   |1,_=>exact .int _ _))),rfl,rfl⟩
 refine Aaq A47 Bct ?_
 intro Q hq1 hq2
 have kA:=(Aac.refl H).alloc (.cells true false 4 (inl x cv) 46)
 have o1:=Aas hc
 unfold inl at kA ⊢
 simp(disch:=first|assumption|omega)only[Bo3,P4,seval,o1,O4,Ac8]
 exact hq2 _ _ ⟨_,rfl,rfl,kA⟩
def Akk(s:Sta)(i:Nat):Sta where
 lo:=fun j=>s.lo j&& !decide (j=i)
 us:=fun j=>s.us j&& !decide (j=i)
 ca:=fun j=>s.ca j&& !decide (j=i)
 ti:=upd s.ti i 0
 po:=s.po
theorem Bp4{H:Aaa}(s:Sta){i:Nat}(hi:i<64):∃w H',Aau Tryz.prog 0 133 [.agg (stl s).toArray,.int .i64 (i:Nat)] H w H'∧w=.agg (stl (Akk s i)).toArray∧H'=H:=by
 refine A0g ?_
 refine Aaq A46 Bcs ?_
 intro Q hq1 hq2
 have s1:=Aej hi
 have z0:=fun t:Sta=>Anh t hi
 have hll:3+i<68:=by omega
 have e0:(0:Int)≤(i:Int):=by omega
 have e1:(i:Int)<64:=by omega
 have hr:(⟨fun j=>s.lo j&& !decide (j=i),fun j=>s.us j&& !decide (j=i),fun j=>s.ca j&& !decide (j=i),upd s.ti i 0,s.po⟩:Sta)=Akk s i:=rfl
 simp(disch:=first|assumption|omega|(simp only[LN]<;>omega)|(simp(disch:=first|assumption|omega|(simp only[LN]<;>omega))only[Aab,Aad];assumption))only[Bo2,P4,seval,Aaz,Aaj,Aml,Abv,Aeq,Adv,Ah6,Ais,Ahe,s1,Aec,Acu,Abn,e0,e1,Aa1,z0,hll,Abc,Abh,Int.toNat_natCast,Nat.mul_one]
 rw[hr]
 refine hq2 _ _ ⟨.agg (stl (Akk s i)).toArray,?_,rfl,((Aac.refl H).alloc _).alloc _⟩
 show Acx [.cn 68 3] _ _=_
 rw[Aqx]
 show Adm 68 (ptr (H.n+1) 0) _=_
 have gg:=Aaa.Bp6 (H.alloc (.cells true false 68 (stl (Akk s i)) 43)) (.cells true false 68 (stl (Akk s i)) 43)
 have gg':((H.alloc (.cells true false 68 (stl (Akk s i)) 43)).alloc (.cells true false 68 (stl (Akk s i)) 43)).get (H.n+1)=_:=gg
 rw[Acq,Abj,gg',Abc];rfl
def frD(x:Inp)(r:Ro):Bool:=(trk r).all fun t=> !Ab2 x.oc t
theorem Ahj{α:Type}{p:α→Bool}{l:List α}{i:Nat}(h:i<l.length)(h1:(l.take i).all p=true)(h2:p l[i]=true):(l.take (i+1)).all p=true:=by
 rw[List.take_add_one,List.getElem?_eq_getElem h,List.all_append,h1];simp[h2]
set_option maxHeartbeats 1000000 in
theorem Bmu{H:Aaa}{y:RV}{x:Inp}{cv:Value}(h:y.ok H)(hl:y.r.path.length+y.r.ov.length≤1000000)(hc:isS cv=true):
 ∃w H',Aau Tryz.prog 0 132 [.agg y.row.toArray,.agg (inl x cv).toArray] H w H'∧w=.bool (frD x y.r)∧H'=H:=by
 refine gcb ?_
 refine Aaq A45 Bcr ?_
 intro Q hq1 hq2
 have o1:=Aas hc
 obtain⟨a3,a4,a5,a6⟩:=RV.ones h
 have a1:one1 (Value.int .i64 y.r.g)=True:=by simp[one1,Aax]
 have a2:one1 (Value.string ⟨y.r.n.toArray⟩)=True:=by simp[one1,Abe]
 have rowy:y.row=[.string ⟨y.r.n.toArray⟩,.int .i64 y.r.g,y.vp,y.vq,y.vo,y.vf]:=rfl
 obtain⟨K0,hK0⟩:∃X,X=(H.alloc (.cells true false 6 y.row 87)).alloc (.cells true false 4 (inl x cv) 46):=⟨_,rfl⟩
 have k0:Aac H K0:=by rw[hK0];exact((Aac.refl H).alloc _).alloc _
 have gi0:K0.get (H.n+1)=some (.cells true false 4 (inl x cv) 46):=by rw[hK0];exact Aaa.Bp6 (H.alloc _) _
 have tT:=t83 (h.keeps k0) hl
 have tCl:=fun K n=>Bhe (H:=K) (x:=x) hc n
 obtain⟨A1,hA1⟩:∃v:Value,v=.agg y.row.toArray:=⟨_,rfl⟩
 obtain⟨A2,hA2⟩:∃v:Value,v=.agg (inl x cv).toArray:=⟨_,rfl⟩
 have ti:trk y.r=trk y.r:=rfl
 have hinl:inl x cv=[S64 x.oc,S32 x.nr,S32 x.rv,cv]:=rfl
 rw[rowy,hinl]at hK0
 rw[rowy]at tT hA1 ⊢
 rw[hinl]at gi0 hA2 ⊢
 simp only[hinl]at tCl
 simp(disch:=first|assumption|omega|(simp only[LN]<;>omega)|(simp(disch:=first|assumption|omega|(simp only[LN]<;>omega))only[Aab,Aad];assumption))only[Bo1,P4,seval,a1,a2,a3,a4,a5,a6,o1,O4]
 simp only[←hK0]
 refine Aag tT ?_
 rintro tv K1 ⟨ht,k1,ft⟩
 have gi1:=k1.at_ gi0
 have len:=ht.len
 have is:=Sl.is ht
 have tl:(trk y.r).length≤1000000:=by simp[trk];omega
 have frd:frD x y.r=(trk y.r).all fun t=> !Ab2 x.oc t:=rfl
 generalize trk y.r=l at*
 simp(disch:=first|assumption|omega)only[P3,seval,Aak,Aat]
 rw[Aah,←hA1,←hA2]
 refine Aan (fun q fr X=>∃i x7 x8,fr=[A1,A2,ptr H.n 0,ptr (H.n+1) 0,.bool false,tv,.int .i64 ((i:Nat):Int),x7,x8]∧K1=X∧(l.take i).all (fun t=> !Ab2 x.oc t)=true∧i≤l.length∧q=l.length-i) l.length
  ⟨0,_,_,rfl,rfl,by simp,by omega,rfl⟩ ?_
 rintro Q' q fr X ⟨i,x7,x8,rfl,rfl,hp,hi,rfl⟩ hn' hx' hret
 by_cases hlt:i<l.length
 ·obtain⟨na,ra⟩:=ht.at_ hlt
  have e0:(0:Int)≤(i:Int):=by omega
  have e1:(i:Int)<((l.length:Nat):Int):=by omega
  have hw:IntKind.i64.wrap ((i:Int)+1)=((i+1:Nat):Int):=by rw[Aae (by omega) (by omega)];simp
  have hgd:l.getD i 0=l[i]:=by rw[List.getD_eq_getElem?_getD,List.getElem?_eq_getElem hlt];rfl
  rw[hgd]at ra
  simp(disch:=first|assumption|omega|(simp only[LN]<;>omega)|(simp(disch:=first|assumption|omega|(simp only[LN]<;>omega))only[Aab,Aad];assumption))only[P4,seval,is,len,e0,e1,na,ra,Aal,gi1]
  refine Aaw (tCl _ _) ?_
  cases hb:Ab2 x.oc l[i]with
  |true=>
   simp(disch:=first|assumption|omega)only[P4,seval]
   refine hret _ _ ?_
   refine hq2 _ _ ⟨_,rfl,?_,k0.trans k1⟩
   have:l.all (fun t=> !Ab2 x.oc t)=false:=List.all_eq_false.2 ⟨l[i],List.getElem_mem hlt,by simp[hb]⟩
   rw[frd,this];rfl
  |false=>
   simp(disch:=first|assumption|omega)only[P4,seval,hw]
   exact hn' _ _ _ ⟨i+1,_,_,rfl,rfl,Ahj hlt hp (by simp[hb]),by omega,rfl⟩ (by omega)
 ·have e1:¬((i:Nat):Int)<((l.length:Nat):Int):=by omega
  have hie:i=l.length:=by omega
  subst hie
  rw[List.take_length]at hp
  simp(disch:=first|assumption|omega)only[P4,seval,is,len,e1]
  refine hx' _ _ _ ?_
  simp(disch:=first|assumption|omega)only[P4,seval]
  exact hq2 _ _ ⟨_,rfl,by rw[frd,hp];rfl,k0.trans k1⟩
end Go.AM.Fd

set_option maxRecDepth 8000
namespace Go.AM.Fd
open Nat (reduceAdd reduceEqDiff reduceLT reduceLeDiff reduceMul reduceSub)
open Go.Proofs Go.AM.F
def Aga(L:Ly)(s:Sta)(p:Int):Bool:=(List.range L.r.length).any fun i=>(nds (ro L i)).any fun z=>s.lo i&&(z.1==p)
theorem A0n{p:Nat→Bool}{n i:Nat}(hi:i<n)(h:p i=true):(List.range n).any p=true:=List.any_eq_true.2 ⟨i,List.mem_range.2 hi,h⟩
theorem Ap9{p:Nat→Bool}{i:Nat}(h:(List.range i).any p=false)(h2:p i=false):(List.range (i+1)).any p=false:=by
 rw[List.range_succ,List.any_append,h];simp[h2]
theorem Ann{α:Type}{p:α→Bool}{l:List α}{i:Nat}(h:i<l.length)(h1:(l.take i).any p=false)(h2:p l[i]=false):(l.take (i+1)).any p=false:=by
 rw[List.take_add_one,List.getElem?_eq_getElem h,List.any_append,h1];simp[h2]
set_option maxHeartbeats 1000000 in
theorem t131{H:Aaa}{u:V4}{xs:List RV}{L:Ly}(h:LyR H u xs L)(he:Aar L=0)(s:Sta)(p:Int):
 ∃w H',Aau Tryz.prog 0 131 [.agg u.l.toArray,.agg (stl s).toArray,.int .i64 p] H w H'∧w=.bool (Aga L s p)∧H'=H:=by
 refine gcb ?_
 refine Aaq A44 Bcq ?_
 intro Q hq1 hq2
 have hmay:=Aav he
 have hL:=Aa8 hmay
 have lr:=hL.r
 have os:=Sl.one h.s
 have op:=Sl.one h.p
 have og:=Sl.one h.g
 have or:=Sl.one h.r
 have ir:=Sl.is h.r
 have lenr:=h.r.len
 rw[h.rlen]at lenr
 have hul:u.l=[u.s,u.p,u.g,u.r]:=rfl
 obtain⟨K0,hK0⟩:∃X,X=(H.alloc (.cells true false 4 [u.s,u.p,u.g,u.r] 27)).alloc (.cells true false 68 (stl s) 43):=⟨_,rfl⟩
 have k0:Aac H K0:=by rw[hK0];exact((Aac.refl H).alloc _).alloc _
 have gl0:K0.get H.n=some (.cells true false 4 [u.s,u.p,u.g,u.r] 27):=by rw[hK0];exact((Aac.refl _).alloc _).at_ (Aaa.Bp6 H _)
 have gs0:K0.get (H.n+1)=some (.cells true false 68 (stl s) 43):=by rw[hK0];exact Aaa.Bp6 (H.alloc _) _
 rw[hul]
 simp(disch:=first|assumption|omega)only[Bo0,P3,seval,Aak,Aat,os,op,og,or,Aaz,Aaj,Abc]
 simp only[←hK0]
 obtain⟨A1,hA1⟩:∃v:Value,v=.agg #[u.s,u.p,u.g,u.r]:=⟨_,rfl⟩
 obtain⟨A2,hA2⟩:∃v:Value,v=.agg (stl s).toArray:=⟨_,rfl⟩
 rw[Aah,←hA1,←hA2]
 refine Aan (fun q fr K=>∃i x7 x8 x9 x10 x11,fr=[A1,A2,.int .i64 p,ptr H.n 0,ptr (H.n+1) 0,.bool false,.int .i64 ((i:Nat):Int),x7,x8,x9,x10,x11]∧
  Aac K0 K∧((List.range i).any fun i=>(nds (ro L i)).any fun z=>s.lo i&&(z.1==p))=false∧i≤L.r.length∧q=L.r.length-i) L.r.length
  ⟨0,_,_,_,_,_,rfl,Aac.refl _,rfl,by omega,rfl⟩ ?_
 rintro Q' q fr K ⟨i,x7,x8,x9,x10,x11,rfl,kK,hall,hi,rfl⟩ hn' hx' hret
 have gl:=kK.at_ gl0
 by_cases hlt:i<L.r.length
 ·have iN:i<64:=by omega
  have e0:(0:Int)≤(i:Int):=by omega
  have e1:(i:Int)<((L.r.length:Nat):Int):=by omega
  have hw:IntKind.i64.wrap ((i:Int)+1)=((i+1:Nat):Int):=by rw[Aae (by omega) (by omega)];simp
  obtain⟨hyr,hyo⟩:=Agn h hlt
  obtain⟨na,ra⟩:=(h.r.keeps (k0.trans kK)).at_ (i:=i) (by rw[h.rlen];exact hlt)
  have hgood:=Aa2 he (List.getElem_mem hlt)
  rw[←Ac4 hlt,←hyr]at hgood
  have yes:((nds (ro L i)).any fun z=>s.lo i&&(z.1==p))=true→Aga L s p=true:=fun e=>A0n (p:=fun i=>(nds (ro L i)).any fun z=>s.lo i&&(z.1==p)) hlt e
  have no:((nds (ro L i)).any fun z=>s.lo i&&(z.1==p))=false→((List.range (i+1)).any fun i=>(nds (ro L i)).any fun z=>s.lo i&&(z.1==p))=false:=fun e=>Ap9 hall e
  rw[←hyr]at yes no
  generalize xs.getD i rv0=y at*
  have rowy:y.row=[.string ⟨y.r.n.toArray⟩,.int .i64 y.r.g,y.vp,y.vq,y.vo,y.vf]:=rfl
  have tN:=t85 ((hyo.keeps k0).keeps kK) (by have:=hgood.lim.q;have:=hgood.lim.f;omega)
  simp only[rowy]at tN ra
  simp(disch:=first|assumption|omega)only[P4,seval,gl,ir,lenr,na,ra,e0,e1,Aai]
  refine Aag tN ?_
  rintro nv K2 ⟨hnv,k2,fnv⟩
  have gs2:=(kK.trans k2).at_ gs0
  have isn:=Sl.is hnv
  have lenn:=hnv.len
  have ndl:(nds y.r).length≤32:=by have:=hgood.lim.q;have:=hgood.lim.f;simp[nds];omega
  generalize nds y.r=l at*
  simp(disch:=first|assumption|omega)only[P3,seval,Aak,Aat]
  rw[Aah]
  refine Aan (fun q fr X=>∃j x10 x11,fr=[A1,A2,.int .i64 p,ptr H.n 0,ptr (H.n+1) 0,.bool false,.int .i64 ((i:Nat):Int),nv,.int .i64 ((j:Nat):Int),.bool true,x10,x11]∧
   K2=X∧((l.take j).any fun z=>s.lo i&&(z.1==p))=false∧j≤l.length∧q=l.length-j) l.length
   ⟨0,_,_,rfl,rfl,by simp,by omega,rfl⟩ ?_
  rintro Q3 q fr X ⟨j,x10,x11,rfl,rfl,hj,hjl,rfl⟩ hn3 hx3 hret3
  by_cases hjlt:j<l.length
  ·obtain⟨nj,rj⟩:=hnv.at_ hjlt
   have j0:(0:Int)≤(j:Int):=by omega
   have j1:(j:Int)<((l.length:Nat):Int):=by omega
   have hw3:IntKind.i64.wrap ((j:Int)+1)=((j+1:Nat):Int):=by rw[Aae (by omega) (by omega)];simp
   have hgd:l.getD j (0,false)=l[j]:=by rw[List.getD_eq_getElem?_getD,List.getElem?_eq_getElem hjlt];rfl
   rw[hgd]at rj
   simp(disch:=first|assumption|omega)only[P4,seval,isn,lenn,j1,gs2,Abv]
   refine Aag (Anv _ _) ?_
   rintro _ X ⟨rfl,hX⟩
   rw[hX,Aa9 _ iN]
   cases hlo:s.lo i with
   |false=>
    simp(disch:=first|assumption|omega)only[P4,seval,hw3]
    exact hn3 _ _ _ ⟨j+1,_,_,rfl,rfl,Ann hjlt hj (by rw[hlo];rfl),by omega,rfl⟩ (by omega)
   |true=>
    cases hz:(l[j].1 ==p)with
    |true=>
     simp(disch:=first|assumption|omega)only[P4,seval,nj,rj,lenn,j0,j1,Aal,hz]
     refine hret3 _ _ ?_
     refine hret _ _ ?_
     exact hq2 _ _ ⟨.bool true,rfl,by rw[yes (List.any_eq_true.2 ⟨l[j],List.getElem_mem hjlt,by rw[hlo,hz];rfl⟩)],(k0.trans kK).trans k2⟩
    |false=>
     simp(disch:=first|assumption|omega)only[P4,seval,nj,rj,lenn,j0,j1,Aal,hz,hw3]
     exact hn3 _ _ _ ⟨j+1,_,_,rfl,rfl,Ann hjlt hj (by rw[hlo,hz];rfl),by omega,rfl⟩ (by omega)
  ·have j1:¬((j:Nat):Int)<((l.length:Nat):Int):=by omega
   have hje:j=l.length:=by omega
   subst hje
   rw[List.take_length]at hj
   simp(disch:=first|assumption|omega)only[P4,seval,isn,lenn,j1]
   refine hx3 _ _ _ ?_
   simp(disch:=first|assumption|omega)only[P4,seval,hw]
   exact hn' _ _ _ ⟨i+1,_,_,_,_,_,rfl,kK.trans k2,no hj,by omega,rfl⟩ (by omega)
 ·have e1:¬((i:Nat):Int)<((L.r.length:Nat):Int):=by omega
  have hie:i=L.r.length:=by omega
  subst hie
  simp(disch:=first|assumption|omega)only[P4,seval,gl,ir,lenr,e1]
  refine hx' _ _ _ ?_
  simp(disch:=first|assumption|omega)only[P4,seval]
  exact hq2 _ _ ⟨_,rfl,by unfold Aga;rw[hall];rfl,k0.trans kK⟩
def Aes(L:Ly)(x:Inp)(s:Sta)(i:Nat):Bool:=(((s.lo i&& !s.us i)&& !s.ca i)&&frD x (ro L i))&&(nds (ro L i)).all fun z=>if z.2 then Adb x z.1.toNat else Ada x z.1.toNat
set_option maxHeartbeats 2000000 in
theorem t115{H:Aaa}{u:V4}{xs:List RV}{L:Ly}{x:Inp}{cv:Value}(h:LyR H u xs L)(he:Aar L=0)(s:Sta)(hc:isS cv=true){i:Nat}(hlt:i<L.r.length):
 ∃w H',Aau Tryz.prog 0 115 [.agg u.l.toArray,.agg (stl s).toArray,.agg (inl x cv).toArray,.int .i64 (i:Nat)] H w H'∧w=.bool (Aes L x s i)∧H'=H:=by
 refine gcb ?_
 refine Aaq A41 Bcm ?_
 intro Q hq1 hq2
 have hmay:=Aav he
 have hL:=Aa8 hmay
 have lr:=hL.r
 have os:=Sl.one h.s
 have op:=Sl.one h.p
 have og:=Sl.one h.g
 have or:=Sl.one h.r
 have ir:=Sl.is h.r
 have lenr:=h.r.len
 rw[h.rlen]at lenr
 have o1:=Aas hc
 have hul:u.l=[u.s,u.p,u.g,u.r]:=rfl
 have hinl:inl x cv=[S64 x.oc,S32 x.nr,S32 x.rv,cv]:=rfl
 obtain⟨K0,hK0⟩:∃X,X=((H.alloc (.cells true false 4 [u.s,u.p,u.g,u.r] 27)).alloc (.cells true false 68 (stl s) 43)).alloc (.cells true false 4 (inl x cv) 46):=⟨_,rfl⟩
 have k0:Aac H K0:=by rw[hK0];exact(((Aac.refl H).alloc _).alloc _).alloc _
 have gl0:K0.get H.n=some (.cells true false 4 [u.s,u.p,u.g,u.r] 27):=by rw[hK0];exact(((Aac.refl _).alloc _).alloc _).at_ (Aaa.Bp6 H _)
 have gs0:K0.get (H.n+1)=some (.cells true false 68 (stl s) 43):=by rw[hK0];exact((Aac.refl _).alloc _).at_ (Aaa.Bp6 (H.alloc _) _)
 have gi0:K0.get (H.n+2)=some (.cells true false 4 (inl x cv) 46):=by rw[hK0];exact Aaa.Bp6 ((H.alloc _).alloc _) _
 have l0:=Aaa.Bp9 gl0
 have l1:=Aaa.Bp9 gs0
 have l2:=Aaa.Bp9 gi0
 have iN:i<64:=by omega
 have e0:(0:Int)≤(i:Int):=by omega
 have e1:(i:Int)<((L.r.length:Nat):Int):=by omega
 obtain⟨hyr,hyo⟩:=Agn h hlt
 obtain⟨na,ra⟩:=(h.r.keeps k0).at_ (i:=i) (by rw[h.rlen];exact hlt)
 have hgood:=Aa2 he (List.getElem_mem hlt)
 rw[←Ac4 hlt,←hyr]at hgood
 have hpro:Aes L x s i=((((s.lo i&& !s.us i)&& !s.ca i)&&frD x (ro L i))&&(nds (ro L i)).all fun z=>if z.2 then Adb x z.1.toNat else Ada x z.1.toNat):=rfl
 rw[←hyr]at hpro
 generalize xs.getD i rv0=y at*
 have rowy:y.row=[.string ⟨y.r.n.toArray⟩,.int .i64 y.r.g,y.vp,y.vq,y.vo,y.vf]:=rfl
 have lP:=hgood.lim.p
 have lO:=hgood.lim.o
 have lQ:=hgood.lim.q
 have lF:=hgood.lim.f
 have tF:=Bmu (x:=x) (cv:=cv) (hyo.keeps k0) (by omega) hc
 have tS:=t134 (H:=K0) (x:=x) hc
 have tN:=t85 (hyo.keeps k0) (by omega)
 simp only[rowy,hinl]at tN tF tS ra
 rw[hinl]at hK0 gi0
 have hno:Aes L x s i=false→∀{K:Aaa} {fr:List Value},Aac H K→Acx Bkj.res fr K=some (.bool false)→Q .ret fr K:=fun e K fr k hr=>hq2 _ _ ⟨_,hr,by rw[e],k⟩
 rw[hul,hinl]
 simp(disch:=first|assumption|omega)only[Bkj,P4,seval,os,op,og,or,Aaz,Aaj,Abc,o1,O4]
 simp only[←hK0]
 simp(disch:=first|assumption|omega)only[P4,seval,gs0,Abv,Aeq,Adv,Aec]
 refine Aag (Anv _ _) ?_
 rintro _ X ⟨rfl,hX⟩
 rw[hX,Aa9 _ iN]
 cases hb1:((s.lo i&& !s.us i)&& !s.ca i)with
 |false=>
  rw[hb1]at hpro
  simp(disch:=first|assumption|omega)only[P4,seval]
  exact hno (by rw[hpro];rfl) k0 rfl
 |true=>
 rw[hb1]at hpro
 have qq:=Af8 ra
 simp(disch:=first|assumption|omega|(simp only[LN]<;>omega)|(simp(disch:=first|assumption|omega|(simp only[LN]<;>omega))only[Aab,Aad];assumption))only[P4,seval,gl0,gi0,ir,lenr,na,ra,e0,e1,Aai,l0,l1,l2,qq]
 refine Aag tF ?_
 rintro _ X ⟨rfl,hX⟩
 rw[hX]
 cases hb2:frD x y.r with
 |false=>
  rw[hb2]at hpro
  simp(disch:=first|assumption|omega)only[P4,seval]
  exact hno (by rw[hpro];rfl) k0 rfl
 |true=>
 rw[hb2]at hpro
 simp(disch:=first|assumption|omega|(simp only[LN]<;>omega)|(simp(disch:=first|assumption|omega|(simp only[LN]<;>omega))only[Aab,Aad];assumption))only[P4,seval,gi0]
 refine Aag tS ?_
 rintro _ X ⟨rfl,hX⟩
 rw[hX]
 simp(disch:=first|assumption|omega)only[P4,seval,gl0,ir,lenr,na,ra,e0,e1,Aai]
 refine Aag tN ?_
 rintro nv K2 ⟨hnv,k2,fnv⟩
 have isn:=Sl.is hnv
 have lenn:=hnv.len
 have ndl:(nds y.r).length≤32:=by simp[nds];omega
 have hnd:=hgood.nd
 generalize nds y.r=l at*
 simp(disch:=first|assumption|omega)only[P3,seval,Aak,Aat]
 obtain⟨A1,hA1⟩:∃v:Value,v=.agg #[u.s,u.p,u.g,u.r]:=⟨_,rfl⟩
 obtain⟨A2,hA2⟩:∃v:Value,v=.agg (stl s).toArray:=⟨_,rfl⟩
 obtain⟨A4,hA4⟩:∃v:Value,v=.agg #[S64 x.oc,S32 x.nr,S32 x.rv,cv]:=⟨_,rfl⟩
 rw[Aah,←hA1,←hA2,←hA4]
 refine Aan (fun q fr X=>∃j x12 x14 x15 x16,fr=[A1,A2,A4,.int .i64 ((i:Nat):Int),ptr H.n 0,ptr (H.n+1) 0,ptr (H.n+2) 0,.bool false,S32 (Ada x),S32 (Adb x),nv,.int .i64 ((j:Nat):Int),x12,.bool false,x14,x15,x16]∧
  K2=X∧((l.take j).all fun z=>if z.2 then Adb x z.1.toNat else Ada x z.1.toNat)=true∧j≤l.length∧q=l.length-j) l.length
  ⟨0,_,_,_,_,rfl,rfl,by simp,by omega,rfl⟩ ?_
 rintro Q3 q fr X ⟨j,x12,x14,x15,x16,rfl,rfl,hj,hjl,rfl⟩ hn3 hx3 hret3
 by_cases hjlt:j<l.length
 ·obtain⟨nj,rj⟩:=hnv.at_ hjlt
  have j0:(0:Int)≤(j:Int):=by omega
  have j1:(j:Int)<((l.length:Nat):Int):=by omega
  have hw3:IntKind.i64.wrap ((j:Int)+1)=((j+1:Nat):Int):=by rw[Aae (by omega) (by omega)];simp
  have hgd:l.getD j (0,false)=l[j]:=by rw[List.getD_eq_getElem?_getD,List.getElem?_eq_getElem hjlt];rfl
  have hmem:=List.getElem_mem hjlt
  have hrng:=hnd _ hmem
  have ok1:(if l[j].2 then Adb x l[j].1.toNat else Ada x l[j].1.toNat)=true→((l.take (j+1)).all fun z=>if z.2 then Adb x z.1.toNat else Ada x z.1.toNat)=true:=fun e=>Ahj hjlt hj e
  have bad1:(if l[j].2 then Adb x l[j].1.toNat else Ada x l[j].1.toNat)=false→Aes L x s i=false:=fun e=>by
   have:(l.all fun z=>if z.2 then Adb x z.1.toNat else Ada x z.1.toNat)=false:=List.all_eq_false.2 ⟨_,hmem,by rw[e];simp⟩
   rw[hpro,this];rfl
  rw[hgd]at rj
  generalize l[j]=z at*
  obtain⟨zp,zb⟩:=z
  obtain⟨m,rfl⟩:∃m:Nat,zp=(m:Int):=⟨zp.toNat,by have:=hrng.1;simp only at this;omega⟩
  have hm32:m<32:=by have:=hrng.2;have:=hL.p;simp only at*;omega
  have hmt:(Int.toNat (m:Int))=m:=by omega
  simp only[hmt]at ok1 bad1
  have hz:(decide (0+m<32))=true:=by simp;omega
  have hz2:0+m=m:=by omega
  cases zb with
  |true=>
   simp only[if_true]at ok1 bad1
   cases hs:Adb x m with
   |true=>
    simp(disch:=first|assumption|omega)only[P4,seval,isn,lenn,j0,j1,nj,rj,Aal,Ank,Anl,Ami,hs,hz,hz2,hw3]
    exact hn3 _ _ _ ⟨j+1,_,_,_,_,rfl,rfl,ok1 hs,by omega,rfl⟩ (by omega)
   |false=>
    simp(disch:=first|assumption|omega)only[P4,seval,isn,lenn,j0,j1,nj,rj,Aal,Ank,Anl,Ami,hs,hz,hz2,hw3]
    refine hret3 _ _ ?_
    exact hno (bad1 hs) (k0.trans k2) rfl
  |false=>
   simp only[Bool.false_eq_true,if_false]at ok1 bad1
   cases hs:Ada x m with
   |true=>
    simp(disch:=first|assumption|omega)only[P4,seval,isn,lenn,j0,j1,nj,rj,Aal,Ank,Anl,Ami,hs,hz,hz2,hw3]
    exact hn3 _ _ _ ⟨j+1,_,_,_,_,rfl,rfl,ok1 hs,by omega,rfl⟩ (by omega)
   |false=>
    simp(disch:=first|assumption|omega)only[P4,seval,isn,lenn,j0,j1,nj,rj,Aal,Ank,Anl,Ami,hs,hz,hz2,hw3]
    refine hret3 _ _ ?_
    exact hno (bad1 hs) (k0.trans k2) rfl
 ·have j1:¬((j:Nat):Int)<((l.length:Nat):Int):=by omega
  have hje:j=l.length:=by omega
  subst hje
  rw[List.take_length]at hj
  simp(disch:=first|assumption|omega)only[P4,seval,isn,lenn,j1]
  refine hx3 _ _ _ ?_
  simp(disch:=first|assumption|omega)only[P4,seval]
  exact hq2 _ _ ⟨_,rfl,by rw[hpro,hj];rfl,k0.trans k2⟩
end Go.AM.Fd

set_option maxRecDepth 20000
namespace Go.AM.Fd
open Go.Proofs Go.AM.F
theorem Afu{H:Aaa}{o rm:Bool}{esz e n:Nat}{c:List Value}{rows:List (List Value)}(hr:∀r∈rows,r.length=esz)(hc:c=rows.flatten)(hn:n=rows.length):Sl (H.alloc (.cells o rm esz c e)) esz (slc H.n 0 n n) rows:=by
 subst hc hn
 exact⟨⟨_,_,rfl⟩,hr,Ach rfl (Aco hr)⟩
def wn:Nat→Bool:=fun _=>false
theorem F2(x a:ByteArray)(k j:IntKind)(n m:Int):Aa4 [.string x,.int k m] [(0,1,.string a),(1,1,.int j n)]=some [.string a,.int j n]:=rfl
theorem F3(x a:ByteArray)(k:IntKind)(m:Int):Aa4 [.string x,.int k m] [(0,1,.string a)]=some [.string a,.int k m]:=rfl
theorem F4(k j:IntKind)(n m p q:Int):Aa4 [.int k n,.int k m] [(0,1,.int j p),(1,1,.int j q)]=some [.int j p,.int j q]:=rfl
theorem F5(a b c d:Value):Aa4 [c,d] [(0,2,.agg #[a,b])]=some [a,b]:=rfl
theorem F8(x y z w a b c d e f g h i j k l:Nat):Aa4 [.slice none 0 0,.slice none 0 0,.slice none 0 0,.slice none 0 0] [(0,1,slc a b c d),(1,1,slc e f g h),(2,1,slc i j k l),(3,1,slc x y z w)]=some [slc a b c d,slc e f g h,slc i j k l,slc x y z w]:=rfl
theorem z64:Value.int .u64 0=S64 wn:=Ac2
theorem z32:Value.int .u32 0=S32 wn:=Afn
theorem i2v(cv:Value):inl ⟨wn,wn,wn⟩ cv=[.int .u64 0,.int .u32 0,.int .u32 0,cv]:=by unfold inl;rw[z64,z32]
end Go.AM.Fd
