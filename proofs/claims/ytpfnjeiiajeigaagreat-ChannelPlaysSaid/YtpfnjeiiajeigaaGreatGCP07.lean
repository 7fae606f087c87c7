/- Part of the proof. -/
import Derived.Test.YtpfnjeiiajeigaaGreatGCP06
set_option linter.unusedSimpArgs false
set_option linter.unusedVariables false
set_option maxRecDepth 8000
namespace Go.AM.Fd
open Nat (reduceAdd reduceEqDiff reduceLT reduceLeDiff reduceMul reduceSub)
open Go.Proofs Go.AM.F
theorem Bm7{H:Aaa}{u:V4}{xs:List RV}{L:Ly}(h:LyR H u xs L)(hf:Aih 9223372036854775807 L):∃w H',Aau Tryz.prog 0 47 [.agg u.l.toArray] H w H'∧w=.bool (Afc L)∧H'=H:=by
 cases hfl:Agy L with
 |false=>exact t47 h (hf.fit2 (Ame hfl))
 |true=>
 refine gcb ?_
 refine Aaq Azz Bac ?_
 intro Q hq1 hq2
 rw[Apz hfl]at hq1 hq2
 have os:=Sl.one h.s
 have op:=Sl.one h.p
 have og:=Sl.one h.g
 have or:=Sl.one h.r
 have hfu:=t77 (h.keeps ((Aac.refl H).alloc (.cells true false 4 u.l 27)))
 obtain⟨us,up,ug,ur⟩:=u
 simp only[V4.l]at*
 simp(disch:=first|assumption|omega|(simp only[LN]<;>omega)|(simp(disch:=first|assumption|omega|(simp only[LN]<;>omega))only[Aab,Aad];assumption))only[f47,P4,seval,os,op,og,or]
 refine Aag hfu ?_
 rintro _ X ⟨rfl,hX⟩
 rw[hX,hfl]
 simp(disch:=first|assumption|omega)only[P4,seval]
 exact hq2 _ _ ⟨_,rfl,rfl,(Aac.refl H).alloc _⟩
theorem t86{H:Aaa}{v:Value}{l:List Int}(h:IL H v l)(hl:l.length≤1000000)(n:Int):
 ∃w H',Aau Tryz.prog 0 86 [v,.int .i64 n] H w H'∧w=.int .i64 ((l.count n:Nat):Int)∧H'=H:=by
 refine Aaq Bdh Bkw ?_
 intro Q hq1 hq2
 have is:=Sl.is h
 have len:=h.len
 simp(disch:=first|assumption|omega)only[f86,P3,seval,Aak,Aat]
 rw[Aah]
 refine Aan (fun q fr X=>∃i x5 x6,fr=[v,.int .i64 n,.int .i64 0,.int .i64 (((l.take i).count n:Nat):Int),.int .i64 ((i:Nat):Int),x5,x6]∧H=X∧i≤l.length∧q=l.length-i) l.length
  ⟨0,_,_,by simp;exact⟨rfl,rfl⟩,rfl,by omega,rfl⟩ ?_
 rintro Q' q fr X ⟨i,x5,x6,rfl,rfl,hi,rfl⟩ hn' hx' hret
 by_cases hlt:i<l.length
 ·obtain⟨na,ra⟩:=h.at_ hlt
  have e0:(0:Int)≤(i:Int):=by omega
  have e1:(i:Int)<((l.length:Nat):Int):=by omega
  have hw:IntKind.i64.wrap ((i:Int)+1)=((i+1:Nat):Int):=by rw[Aae (by omega) (by omega)];simp
  have hgd:l.getD i 0=l[i]:=by rw[List.getD_eq_getElem?_getD,List.getElem?_eq_getElem hlt];rfl
  have hc:(l.take (i+1)).count n=(l.take i).count n+if(l[i]==n)=true then 1 else 0:=by
   rw[List.take_add_one,List.getElem?_eq_getElem hlt,List.count_append];simp[List.count_cons]
  have hcl:(l.take i).count n≤i:=Nat.le_trans List.count_le_length (by rw[List.length_take];omega)
  have hw2:IntKind.i64.wrap ((((l.take i).count n:Nat):Int)+1)=(((l.take i).count n+1:Nat):Int):=by rw[Aae (by omega) (by omega)];simp
  rw[hgd]at ra
  generalize l[i]=z at*
  cases hz:(z==n)with
  |true=>
   rw[hz]at hc
   simp(disch:=first|assumption|omega)only[P4,seval,is,len,e0,e1,na,ra,Aal,hz,hw,hw2]
   exact hn' _ _ _ ⟨i+1,_,_,by rw[hc];exact rfl,rfl,by omega,rfl⟩ (by omega)
  |false=>
   rw[hz]at hc
   simp(disch:=first|assumption|omega)only[P4,seval,is,len,e0,e1,na,ra,Aal,hz,hw]
   exact hn' _ _ _ ⟨i+1,_,_,by rw[hc];exact rfl,rfl,by omega,rfl⟩ (by omega)
 ·have e1:¬(i:Int)<((l.length:Nat):Int):=by omega
  have hie:i=l.length:=by omega
  subst hie
  simp(disch:=first|assumption|omega)only[P4,seval,is,len,e1]
  refine hx' _ _ _ ?_
  simp(disch:=first|assumption|omega)only[P4,seval]
  exact hq2 _ _ ⟨.int .i64 _,rfl,by rw[List.take_length],rfl⟩
theorem t84{H:Aaa}{v:Value}{l:List (Int×Bool)}(h:NL H v l)(hl:l.length≤1000000):
 ∃w H',Aau Tryz.prog 0 84 [v] H w H'∧OW 3 1 H H' w ((l.map (·.1)).map Agw):=by
 refine Aaq Bdi Bkx ?_
 intro Q hq1 hq2
 have is:=Sl.is h
 have len:=h.len
 simp(disch:=first|assumption|omega)only[f84,P3,seval,Aak,Aat]
 rw[Aah]
 refine Aan (fun q fr X=>∃i w x4,fr=[v,.slice none 0 0,w,.int .i64 ((i:Nat):Int),x4]∧OW 3 1 H X w (((l.take i).map (·.1)).map Agw)∧i≤l.length∧q=l.length-i) l.length
  ⟨0,_,_,rfl,OW.nil _ _ (Aac.refl H),by omega,rfl⟩ ?_
 rintro Q' q fr X ⟨i,w,x4,rfl,ow,hi,rfl⟩ hn' hx' hret
 by_cases hlt:i<l.length
 ·have hX:NL X v l:=Sl.keeps h ow.k
  obtain⟨na,ra⟩:=hX.at_ hlt
  have e0:(0:Int)≤(i:Int):=by omega
  have e1:(i:Int)<((l.length:Nat):Int):=by omega
  have hw:IntKind.i64.wrap ((i:Int)+1)=((i+1:Nat):Int):=by rw[Aae (by omega) (by omega)];simp
  have hgd:l.getD i (0,false)=l[i]:=by rw[List.getD_eq_getElem?_getD,List.getElem?_eq_getElem hlt];rfl
  have htk:l.take (i+1)=l.take i++[l[i]]:=by rw[List.take_add_one,List.getElem?_eq_getElem hlt];rfl
  have isw:=ow.is
  rw[hgd]at ra
  generalize l[i]=z at*
  simp(disch:=first|assumption|omega)only[P4,seval,is,len,e0,e1,na,ra,Aal,isw]
  refine OW.appR (ow.keeps ((Aac.refl X).alloc _)) (Sl.one1 (row:=[.int .i64 z.1]) rfl rfl) (by simp;omega) ?_
  intro v' K' ow' c'
  simp(disch:=first|assumption|omega)only[P4,seval,hw]
  exact hn' _ _ _ ⟨i+1,v',_,rfl,by rw[htk,List.map_append,List.map_append];exact ow',by omega,rfl⟩ (by omega)
 ·have e1:¬(i:Int)<((l.length:Nat):Int):=by omega
  have hie:i=l.length:=by omega
  subst hie
  rw[List.take_length]at ow
  simp(disch:=first|assumption|omega)only[P4,seval,is,len,e1]
  refine hx' _ _ _ ?_
  simp(disch:=first|assumption|omega)only[P4,seval]
  exact hq2 _ _ ⟨_,rfl,ow⟩
theorem Aj7{l:List Int}{n:Int}:decide ((0:Int)<((l.count n:Nat):Int))=l.contains n:=by
 rw[Bool.eq_iff_iff,decide_eq_true_eq,List.contains_iff_mem]
 constructor
 ·intro h;exact List.count_pos_iff.1 (by omega)
 ·intro h;have:=List.count_pos_iff.2 h;omega
theorem A0z{l:List Int}{i:Nat}(hi:i<l.length)(h:(1:Int)<((l.count l[i]:Nat):Int)):decide l.Nodup=false:=by
 rw[decide_eq_false_iff_not]
 intro hn
 have:=List.nodup_iff_count.1 hn l[i]
 omega
theorem Aqd{l:List Int}(h:∀i (hi:i<l.length),¬(1:Int)<((l.count l[i]:Nat):Int)):decide l.Nodup=true:=by
 rw[decide_eq_true_eq,List.nodup_iff_count]
 intro a
 by_cases ha:a∈l
 ·obtain⟨i,hi,rfl⟩:=List.mem_iff_getElem.1 ha
  have:=h i hi;omega
 ·have:=List.count_eq_zero_of_not_mem ha;omega
theorem Ao3(l:List (Int×Bool))(n:Int):(l.map (·.1)).contains n=l.any (fun x=>x.1==n):=by
 rw[Bool.eq_iff_iff,List.contains_iff_mem,List.mem_map,List.any_eq_true]
 constructor
 ·rintro⟨z,hz,rfl⟩;exact⟨z,hz,by simp⟩
 ·rintro⟨z,hz,h⟩;exact⟨z,hz,by simpa using h⟩
set_option maxHeartbeats 4000000 in
theorem t48{H:Aaa}{u:V4}{xs:List RV}{L:Ly}{y:RV}(h:LyR H u xs L)(hy:y.ok H)(hr:Air L y.r)(hL:Ah4 L):
 ∃w H',Aau Tryz.prog 0 48 [.agg u.l.toArray,.agg y.row.toArray] H w H'∧w=.bool (Abp L y.r)∧H'=H:=by
 refine gcb ?_
 refine Aaq Bdj Bky ?_
 intro Q hq1 hq2
 have os:=Sl.one h.s
 have op:=Sl.one h.p
 have og:=Sl.one h.g
 have or:=Sl.one h.r
 have ig:=Sl.is h.g
 have ip:=Sl.is h.p
 have lg:=h.g.len
 have lp:=h.p.len
 have hLp:=hL.p
 obtain⟨a3,a4,a5,a6⟩:=RV.ones hy
 have a1:one1 (Value.int .i64 y.r.g)=True:=by simp[one1,Aax]
 have a2:one1 (Value.string ⟨y.r.n.toArray⟩)=True:=by simp[one1,Abe]
 have hul:u.l=[u.s,u.p,u.g,u.r]:=rfl
 have rowy:y.row=[.string ⟨y.r.n.toArray⟩,.int .i64 y.r.g,y.vp,y.vq,y.vo,y.vf]:=rfl
 have lP:=hr.p
 have lO:=hr.o
 have lQ:=hr.q
 have lF:=hr.f
 obtain⟨K0,hK0⟩:∃X,X=(H.alloc (.cells true false 4 [u.s,u.p,u.g,u.r] 27)).alloc (.cells true false 6 y.row 87):=⟨_,rfl⟩
 have k0:Aac H K0:=by rw[hK0];exact((Aac.refl H).alloc _).alloc _
 have gl0:K0.get H.n=some (.cells true false 4 [u.s,u.p,u.g,u.r] 27):=by rw[hK0];exact((Aac.refl _).alloc _).at_ (Aaa.Bp6 H _)
 have gy0:K0.get (H.n+1)=some (.cells true false 6 y.row 87):=by rw[hK0];exact Aaa.Bp6 (H.alloc _) _
 have hy0:=hy.keeps k0
 have tT:=t83 hy0 (by omega)
 simp only[rowy]at tT hK0 gy0
 rw[hul,rowy]
 simp(disch:=first|assumption|omega|(simp only[LN]<;>omega)|(simp(disch:=first|assumption|omega|(simp only[LN]<;>omega))only[Aab,Aad];assumption))only[f48,P4,seval,os,op,og,or,a1,a2,a3,a4,a5,a6]
 simp only[←hK0]
 refine Aag tT ?_
 rintro tv K1 ⟨ht,k1,ft⟩
 have gl1:=k1.at_ gl0
 have gy1:=k1.at_ gy0
 have tN:=t85 (hy0.keeps k1) (by omega)
 simp only[rowy]at tN
 simp(disch:=first|assumption|omega|(simp only[LN]<;>omega)|(simp(disch:=first|assumption|omega|(simp only[LN]<;>omega))only[Aab,Aad];assumption))only[P4,seval,gy1]
 refine Aag tN ?_
 rintro nv K2 ⟨hn,k2,fn⟩
 have ndl:(nds y.r).length≤32:=by simp[nds];omega
 have trl:(trk y.r).length≤1000000:=by simp[trk];omega
 simp(disch:=first|assumption|omega)only[P4,seval]
 refine Aag (t84 hn (by omega)) ?_
 rintro pv K3 op3
 have k3:=op3.k
 have k03:=((k0.trans k1).trans k2).trans k3
 have gl3:=(k2.trans k3).at_ gl1
 have gy3:=(k2.trans k3).at_ gy1
 have ht3:IL K3 tv (trk y.r):=Sl.keeps ht (k2.trans k3)
 have hp3:IL K3 pv ((nds y.r).map (·.1)):=op3.sl
 have hy3:=hy.keeps k03
 have iy:=Sl.is hy.p
 have ly:=hy.p.len
 have hfd:Abp L y.r=(!Aq8 L y.r&&(List.range L.p.length).all (ptB L y.r)):=rfl
 have hbd:Aq8 L y.r=(y.r.path.isEmpty|| !decide (trk y.r).Nodup||(trk y.r).contains (L.g.getD y.r.g.toNat ([],0)).2 || !decide ((nds y.r).map (·.1)).Nodup):=rfl
 have no:∀{fr:List Value} {K:Aaa},Aac H K→Aq8 L y.r=true→Acx f48.res fr K=some (.bool false)→Q .ret fr K:=fun k e hr'=>
  hq2 _ _ ⟨_,hr',by rw[hfd,e];rfl,k⟩
 by_cases hpe:y.r.path.length=0
 ·have hp0:((y.r.path.length:Nat):Int)=0:=by omega
  have hemp:y.r.path.isEmpty=true:=by rw[List.isEmpty_iff_length_eq_zero];exact hpe
  simp(disch:=first|assumption|omega)only[P4,seval,gy3,iy,ly,hp0]
  exact no k03 (by rw[hbd,hemp];rfl) rfl
 have hp0:(((y.r.path.length:Nat):Int)==0)=false:=by simp[hpe]
 have hemp:y.r.path.isEmpty=false:=by
  cases e:y.r.path with
  |nil=>rw[e]at hpe;simp at hpe
  |cons a l=>rfl
 rw[hemp,Bool.false_or]at hbd
 obtain⟨n,hn'⟩:∃n:Nat,y.r.g=(n:Int):=⟨y.r.g.toNat,by have:=hr.g.1;omega⟩
 have hnl:n<L.g.length:=by have:=hr.g.2;omega
 obtain⟨nag,rag⟩:=(h.g.keeps k03).at_ hnl
 have g0:(0:Int)≤(n:Int):=by omega
 have g1:(n:Int)<((L.g.length:Nat):Int):=by omega
 have hnt:Int.toNat (n:Int)=n:=by omega
 rw[hn',hnt]at hbd
 simp(disch:=first|assumption|omega)only[P4,seval,gy3,gl3,iy,ly,hp0,hn',g0,g1,ig,lg,nag,rag,Aal]
 refine Aaw (t86 ht3 trl _) ?_
 have hcn:=Aj7 (l:=trk y.r) (n:=(L.g.getD n ([],0)).2)
 by_cases hc:(0:Int)<(((trk y.r).count (L.g.getD n ([],0)).2 :Nat):Int)
 ·rw[decide_eq_true hc]at hcn
  simp(disch:=first|assumption|omega)only[P4,seval,hc]
  exact no k03 (by rw[hbd,←hcn];simp) rfl
 rw[decide_eq_false hc]at hcn
 rw[←hcn,Bool.or_false]at hbd
 have it:=Sl.is ht3
 have lt:=ht3.len
 have isp:=Sl.is hp3
 have lpn:=hp3.len
 obtain⟨A1,hA1⟩:∃v:Value,v=.agg #[u.s,u.p,u.g,u.r]:=⟨_,rfl⟩
 obtain⟨A2,hA2⟩:∃v:Value,v=.agg #[.string ⟨y.r.n.toArray⟩,.int .i64 (n:Int),y.vp,y.vq,y.vo,y.vf]:=⟨_,rfl⟩
 have trk':trk y.r=y.r.path++y.r.ov:=rfl
 simp(disch:=first|assumption|omega)only[P3,seval,Aak,Aat,hc]
 rw[Aah,←hA1,←hA2]
 refine Aan (fun q fr X=>∃i x12 x13,fr=[A1,A2,ptr H.n 0,ptr (H.n+1) 0,.bool false,tv,pv,.int .i64 ((i:Nat):Int),undef,undef,undef,.bool false,x12,x13,undef,undef,undef,undef]∧K3=X∧
  (∀j (hj:j<(trk y.r).length),j<i→¬(1:Int)<(((trk y.r).count (trk y.r)[j]:Nat):Int))∧i≤(trk y.r).length∧q=(trk y.r).length - i) (trk y.r).length
  ⟨0,_,_,rfl,rfl,fun j _ hj=>by omega,by omega,rfl⟩ ?_
 rintro Q1 q fr X ⟨i,x12,x13,rfl,rfl,hall,hi,rfl⟩ hn1 hx1 hret1
 by_cases hlt:i<(trk y.r).length
 ·obtain⟨na,ra⟩:=ht3.at_ hlt
  have e0:(0:Int)≤(i:Int):=by omega
  have e1:(i:Int)<(((trk y.r).length:Nat):Int):=by omega
  have hw:IntKind.i64.wrap ((i:Int)+1)=((i+1:Nat):Int):=by rw[Aae (by omega) (by omega)];simp
  have hgd:(trk y.r).getD i 0=(trk y.r)[i]:=by rw[List.getD_eq_getElem?_getD,List.getElem?_eq_getElem hlt];rfl
  rw[hgd]at ra
  simp(disch:=first|assumption|omega)only[P4,seval,it,lt,e0,e1,na,ra,Aal]
  refine Aaw (t86 ht3 trl _) ?_
  by_cases hc1:(1:Int)<(((trk y.r).count (trk y.r)[i]:Nat):Int)
  ·simp(disch:=first|assumption|omega)only[P4,seval,hc1]
   refine hret1 _ _ ?_
   exact no k03 (by rw[hbd,A0z hlt hc1];rfl) rfl
  ·simp(disch:=first|assumption|omega)only[P4,seval,hc1,hw]
   exact hn1 _ _ _ ⟨i+1,_,_,rfl,rfl,fun j hj hji=>by
    rcases Nat.lt_or_ge j i with h5|h5
    ·exact hall j hj h5
    ·have:j=i:=by omega
     subst this;exact hc1,by omega,rfl⟩ (by omega)
 have e1:¬(i:Int)<(((trk y.r).length:Nat):Int):=by omega
 have hnd:decide (trk y.r).Nodup=true:=Aqd fun j hj=>hall j hj (by omega)
 rw[hnd,Bool.not_true,Bool.false_or]at hbd
 simp(disch:=first|assumption|omega)only[P4,seval,it,lt,e1]
 refine hx1 _ _ _ ?_
 simp(disch:=first|assumption|omega)only[P3,seval,Aak,Aat]
 rw[Aah]
 obtain⟨pl,hpl⟩:∃pl,pl=(nds y.r).map (·.1):=⟨_,rfl⟩
 rw[←hpl]at hp3 hbd lpn
 have pll:pl.length≤1000000:=by rw[hpl,List.length_map];omega
 refine Aan (fun q fr X=>∃j x14 x15,fr=[A1,A2,ptr H.n 0,ptr (H.n+1) 0,.bool false,tv,pv,.int .i64 ((i:Nat):Int),.int .i64 ((j:Nat):Int),undef,undef,.bool false,.bool false,x13,x14,x15,undef,undef]∧K3=X∧
  (∀k (hk:k<pl.length),k<j→¬(1:Int)<((pl.count pl[k]:Nat):Int))∧j≤pl.length∧q=pl.length-j) pl.length
  ⟨0,_,_,rfl,rfl,fun j _ hj=>by omega,by omega,rfl⟩ ?_
 rintro Q2 q fr X ⟨j,x14,x15,rfl,rfl,hall2,hj,rfl⟩ hn2 hx2 hret2
 by_cases hlt2:j<pl.length
 ·obtain⟨na,ra⟩:=hp3.at_ hlt2
  have e0:(0:Int)≤(j:Int):=by omega
  have e2:(j:Int)<((pl.length:Nat):Int):=by omega
  have hw:IntKind.i64.wrap ((j:Int)+1)=((j+1:Nat):Int):=by rw[Aae (by omega) (by omega)];simp
  have hgd:pl.getD j 0=pl[j]:=by rw[List.getD_eq_getElem?_getD,List.getElem?_eq_getElem hlt2];rfl
  rw[hgd]at ra
  simp(disch:=first|assumption|omega)only[P4,seval,isp,lpn,e0,e2,na,ra,Aal]
  refine Aaw (t86 hp3 pll _) ?_
  by_cases hc1:(1:Int)<((pl.count pl[j]:Nat):Int)
  ·simp(disch:=first|assumption|omega)only[P4,seval,hc1]
   refine hret2 _ _ ?_
   exact no k03 (by rw[hbd,A0z hlt2 hc1];rfl) rfl
  ·simp(disch:=first|assumption|omega)only[P4,seval,hc1,hw]
   exact hn2 _ _ _ ⟨j+1,_,_,rfl,rfl,fun k hk hkj=>by
    rcases Nat.lt_or_ge k j with h5|h5
    ·exact hall2 k hk h5
    ·have:k=j:=by omega
     subst this;exact hc1,by omega,rfl⟩ (by omega)
 have e2:¬(j:Int)<((pl.length:Nat):Int):=by omega
 have hnd2:decide pl.Nodup=true:=Aqd fun k hk=>hall2 k hk (by omega)
 rw[hnd2]at hbd
 have hfd2:Abp L y.r=(List.range L.p.length).all (ptB L y.r):=by rw[hfd,hbd];rfl
 simp(disch:=first|assumption|omega)only[P4,seval,isp,lpn,e2]
 refine hx2 _ _ _ ?_
 simp(disch:=first|assumption|omega)only[P3,seval,Aak,Aat]
 rw[Aah]
 refine Aan (fun q fr X=>∃k x10 x16 x17,fr=[A1,A2,ptr H.n 0,ptr (H.n+1) 0,.bool false,tv,pv,.int .i64 ((i:Nat):Int),.int .i64 ((j:Nat):Int),.int .i64 ((k:Nat):Int),x10,.bool false,.bool false,x13,.bool false,x15,x16,x17]∧Aac K3 X∧
  (List.range k).all (ptB L y.r)=true∧k≤L.p.length∧q=L.p.length-k) L.p.length
  ⟨0,_,_,_,rfl,Aac.refl _,rfl,by omega,rfl⟩ ?_
 rintro Q3 q fr X ⟨k,x10,x16,x17,rfl,kX,hall3,hk,rfl⟩ hn3 hx3 hret3
 have glX:=kX.at_ gl3
 have gyX:=kX.at_ gy3
 by_cases hlt3:k<L.p.length
 ·obtain⟨np,rp⟩:=(h.p.keeps (k03.trans kX)).at_ hlt3
  have e0:(0:Int)≤(k:Int):=by omega
  have e3:(k:Int)<((L.p.length:Nat):Int):=by omega
  have hw:IntKind.i64.wrap ((k:Int)+1)=((k+1:Nat):Int):=by rw[Aae (by omega) (by omega)];simp
  have hpt:ptB L y.r k=(((trk y.r).contains (L.p.getD k ([],0)).2 ==y.r.pts.any (fun x=>x.1==(k:Int)))&& !((trk y.r).contains (L.p.getD k ([],0)).2 &&y.r.fl.any (fun x=>x.1==(k:Int)))):=rfl
  have snoc:=fun e=>Agj (p:=ptB L y.r) hall3 e
  have bad:=fun e=>Anm (p:=ptB L y.r) hlt3 e
  generalize L.p.getD k ([],0)=z at*
  simp(disch:=first|assumption|omega)only[P4,seval,glX,ip,lp,e0,e3,np,rp,Aal]
  refine Aaw (t86 (ht3.keeps kX) trl _) ?_
  have hq3:NL X y.vq y.r.pts:=(hy.keeps (k03.trans kX)).q
  have hf3:NL X y.vf y.r.fl:=(hy.keeps (k03.trans kX)).f
  have c1:=Aj7 (l:=trk y.r) (n:=z.2)
  have go:∀(b1:Bool),decide ((0:Int)<(((trk y.r).count z.2:Nat):Int))=b1→(trk y.r).contains z.2=b1:=fun b1 e=>by rw[←c1,e]
  by_cases hin:(0:Int)<(((trk y.r).count z.2:Nat):Int)
  ·have hin':=go true (decide_eq_true hin)
   rw[hin']at hpt
   simp(disch:=first|assumption|omega)only[P4,seval,hin,gyX]
   refine Aag (t84 hq3 (by omega)) ?_
   rintro qv X1 oq
   have c2:=Aj7 (l:=y.r.pts.map (·.1)) (n:=(k:Int))
   rw[Ao3]at c2
   simp(disch:=first|assumption|omega)only[P4,seval]
   refine Aaw (t86 oq.sl (by rw[List.length_map];omega) _) ?_
   by_cases hp2:(0:Int)<(((y.r.pts.map (·.1)).count (k:Int):Nat):Int)
   ·rw[decide_eq_true hp2]at c2
    rw[←c2]at hpt
    have gyX1:=oq.k.at_ gyX
    have hf4:NL X1 y.vf y.r.fl:=Sl.keeps hf3 oq.k
    simp(disch:=first|assumption|omega)only[P4,seval,hp2,gyX1]
    refine Aag (t84 hf4 (by omega)) ?_
    rintro fv X2 of
    have c3:=Aj7 (l:=y.r.fl.map (·.1)) (n:=(k:Int))
    rw[Ao3]at c3
    simp(disch:=first|assumption|omega)only[P4,seval]
    refine Aaw (t86 of.sl (by rw[List.length_map];omega) _) ?_
    by_cases hp3:(0:Int)<(((y.r.fl.map (·.1)).count (k:Int):Nat):Int)
    ·rw[decide_eq_true hp3]at c3
     rw[←c3]at hpt
     simp(disch:=first|assumption|omega)only[P4,seval,hp3]
     refine hret3 _ _ ?_
     exact hq2 _ _ ⟨.bool false,rfl,by rw[hfd2,bad hpt],((k03.trans kX).trans oq.k).trans of.k⟩
    ·rw[decide_eq_false hp3]at c3
     rw[←c3]at hpt
     simp(disch:=first|assumption|omega)only[P4,seval,hp3,hw]
     exact hn3 _ _ _ ⟨k+1,_,_,_,rfl,(kX.trans oq.k).trans of.k,snoc hpt,by omega,rfl⟩ (by omega)
   ·rw[decide_eq_false hp2]at c2
    rw[←c2]at hpt
    simp(disch:=first|assumption|omega)only[P4,seval,hp2]
    refine hret3 _ _ ?_
    exact hq2 _ _ ⟨.bool false,rfl,by rw[hfd2,bad hpt],(k03.trans kX).trans oq.k⟩
  ·have hin':=go false (decide_eq_false hin)
   rw[hin']at hpt
   simp(disch:=first|assumption|omega)only[P4,seval,hin,gyX]
   refine Aag (t84 hq3 (by omega)) ?_
   rintro qv X1 oq
   have c2:=Aj7 (l:=y.r.pts.map (·.1)) (n:=(k:Int))
   rw[Ao3]at c2
   simp(disch:=first|assumption|omega)only[P4,seval]
   refine Aaw (t86 oq.sl (by rw[List.length_map];omega) _) ?_
   by_cases hp2:(0:Int)<(((y.r.pts.map (·.1)).count (k:Int):Nat):Int)
   ·rw[decide_eq_true hp2]at c2
    rw[←c2]at hpt
    simp(disch:=first|assumption|omega)only[P4,seval,hp2]
    refine hret3 _ _ ?_
    exact hq2 _ _ ⟨.bool false,rfl,by rw[hfd2,bad hpt],(k03.trans kX).trans oq.k⟩
   ·rw[decide_eq_false hp2]at c2
    rw[←c2]at hpt
    simp(disch:=first|assumption|omega)only[P4,seval,hp2,hw]
    exact hn3 _ _ _ ⟨k+1,_,_,_,rfl,kX.trans oq.k,snoc hpt,by omega,rfl⟩ (by omega)
 ·have e3:¬(k:Int)<((L.p.length:Nat):Int):=by omega
  have hke:k=L.p.length:=by omega
  subst hke
  simp(disch:=first|assumption|omega)only[P4,seval,glX,ip,lp,e3]
  refine hx3 _ _ _ ?_
  simp(disch:=first|assumption|omega)only[P4,seval]
  exact hq2 _ _ ⟨.bool true,rfl,by rw[hfd2,hall3],k03.trans kX⟩
set_option maxHeartbeats 2000000 in
theorem t20{H:Aaa}{u:V4}{xs:List RV}{L:Ly}(h:LyR H u xs L)(hf:Aih 9223372036854775807 L):
 ∃w H',Aau Tryz.prog 0 20 [.agg u.l.toArray] H w H'∧H'=H∧∃i,w=.tuple #[.int .i64 (Aar L),.int .i64 i]:=by
 suffices h':∃w H',Aau Tryz.prog 0 20 [.agg u.l.toArray] H w H'∧Aac H H'∧∃i,w=.tuple #[.int .i64 (Aar L),.int .i64 i] by
  obtain⟨_,_,a,k,i,rfl⟩:=h'
  exact⟨_,_,a.gc0 k (.inr (.tuple _ _ rfl (fun i a b=>by
   match i,a with
   |0,_=>exact .int _ _
   |1,_=>exact .int _ _))),rfl,_,rfl⟩
 refine Aaq Bdk Bkz ?_
 intro Q hq1 hq2
 have os:=Sl.one h.s
 have op:=Sl.one h.p
 have og:=Sl.one h.g
 have or:=Sl.one h.r
 have ir:=Sl.is h.r
 have lr:=h.r.len
 rw[h.rlen]at lr
 have hul:u.l=[u.s,u.p,u.g,u.r]:=rfl
 have hce:Aar L=if Afc L then(if L.r.all (Abp L)then 0 else 50)else 2:=rfl
 obtain⟨K0,hK0⟩:∃X,X=H.alloc (.cells true false 4 [u.s,u.p,u.g,u.r] 27):=⟨_,rfl⟩
 have k0:Aac H K0:=by rw[hK0];exact(Aac.refl H).alloc _
 have gl0:K0.get H.n=some (.cells true false 4 [u.s,u.p,u.g,u.r] 27):=by rw[hK0];exact Aaa.Bp6 H _
 have tM:=Bm7 (h.keeps k0) hf
 simp only[hul]at tM ⊢
 simp(disch:=first|assumption|omega|(simp only[LN]<;>omega)|(simp(disch:=first|assumption|omega|(simp only[LN]<;>omega))only[Aab,Aad];assumption))only[f20,P4,seval,os,op,og,or]
 simp only[←hK0]
 refine Aag tM ?_
 rintro _ X ⟨rfl,hX⟩
 rw[hX]
 cases hmay:Afc L with
 |false=>
  rw[hmay]at hce
  simp(disch:=first|assumption|omega)only[P4,seval]
  exact hq2 _ _ ⟨.tuple #[.int .i64 2,.int .i64 0],rfl,k0,0,by rw[hce];rfl⟩
 |true=>
 rw[hmay]at hce
 have hL:=Aa8 hmay
 have lrr:=hL.r
 simp(disch:=first|assumption|omega)only[P3,seval,Aak,Aat]
 obtain⟨A1,hA1⟩:∃v:Value,v=.agg #[u.s,u.p,u.g,u.r]:=⟨_,rfl⟩
 rw[Aah,←hA1]
 refine Aan (fun q fr X=>∃i x6 x7,fr=[A1,ptr H.n 0,.int .i64 0,.int .i64 0,.int .i64 ((i:Nat):Int),.bool false,x6,x7]∧K0=X∧(L.r.take i).all (Abp L)=true∧i≤L.r.length∧q=L.r.length-i) L.r.length
  ⟨0,_,_,rfl,rfl,by simp,by omega,rfl⟩ ?_
 rintro Q' q fr X ⟨i,x6,x7,rfl,rfl,hall,hi,rfl⟩ hn' hx' hret
 by_cases hlt:i<L.r.length
 ·have e0:(0:Int)≤(i:Int):=by omega
  have e1:(i:Int)<((L.r.length:Nat):Int):=by omega
  have hw:IntKind.i64.wrap ((i:Int)+1)=((i+1:Nat):Int):=by rw[Aae (by omega) (by omega)];simp
  obtain⟨hyr,hyo⟩:=Agn h hlt
  obtain⟨na,ra⟩:=(h.r.keeps k0).at_ (i:=i) (by rw[h.rlen];exact hlt)
  have hlim:=Aim hmay (List.getElem_mem hlt)
  have snoc:=fun e=>Ahj (p:=Abp L) hlt hall e
  have bad:Abp L L.r[i]=false→L.r.all (Abp L)=false:=fun e=>List.all_eq_false.2 ⟨_,List.getElem_mem hlt,by rw[e];simp⟩
  rw[←Ac4 hlt,←hyr]at hlim snoc bad
  generalize xs.getD i rv0=y at*
  have rowy:y.row=[.string ⟨y.r.n.toArray⟩,.int .i64 y.r.g,y.vp,y.vq,y.vo,y.vf]:=rfl
  have tF:=t48 (h.keeps k0) (hyo.keeps k0) hlim hL
  simp only[rowy]at ra
  simp only[hul,rowy]at tF
  simp(disch:=first|assumption|omega|(simp only[LN]<;>omega)|(simp(disch:=first|assumption|omega|(simp only[LN]<;>omega))only[Aab,Aad];assumption))only[P4,seval,gl0,ir,lr,e0,e1,na,ra,Aai]
  refine Aag tF ?_
  rintro _ X ⟨rfl,hX⟩
  rw[hX]
  cases hfo:Abp L y.r with
  |false=>
   rw[bad hfo]at hce
   simp(disch:=first|assumption|omega)only[P4,seval]
   refine hret _ _ ?_
   exact hq2 _ _ ⟨.tuple #[.int .i64 50,.int .i64 (i:Int)],rfl,k0,i,by rw[hce];rfl⟩
  |true=>
   simp(disch:=first|assumption|omega)only[P4,seval,hw]
   exact hn' _ _ _ ⟨i+1,_,_,rfl,rfl,snoc hfo,by omega,rfl⟩ (by omega)
 ·have e1:¬(i:Int)<((L.r.length:Nat):Int):=by omega
  rw[List.take_of_length_le (by omega)]at hall
  rw[hall]at hce
  simp(disch:=first|assumption|omega)only[P4,seval,gl0,ir,lr,e1]
  refine hx' _ _ _ ?_
  simp(disch:=first|assumption|omega)only[P4,seval]
  exact hq2 _ _ ⟨.tuple #[.int .i64 0,.int .i64 0],rfl,k0,0,by rw[hce];rfl⟩
end Go.AM.Fd

set_option maxRecDepth 20000
namespace Go.AM.Fd
open Nat (reduceAdd reduceEqDiff reduceLT reduceLeDiff reduceMul reduceSub)
open Go.Proofs Go.AM.F
def yL:Ly:=⟨[[97],[98],[99],[100],[101],[102]],[([80],1),([81],3)],[([71],0),([72],4),([75],5)],[⟨[82,49],0,[1,2],[(0,false),(1,false)],[3],[]⟩,⟨[82,50],0,[1,5],[(0,true)],[],[]⟩,⟨[82,51],1,[3,2],[(1,false)],[],[]⟩,⟨[82,52],2,[4],[],[],[(1,true)]⟩,⟨[82,53],1,[3],[(1,true)],[5],[]⟩]⟩
def yX(H:Aaa):List RV:=[⟨⟨[82,49],0,[1,2],[(0,false),(1,false)],[3],[]⟩,slc (H.n+4) 0 2 2,slc (H.n+5) 0 2 2,slc (H.n+6) 0 1 1,.slice none 0 0⟩,⟨⟨[82,50],0,[1,5],[(0,true)],[],[]⟩,slc (H.n+7) 0 2 2,slc (H.n+8) 0 1 1,.slice none 0 0,.slice none 0 0⟩,⟨⟨[82,51],1,[3,2],[(1,false)],[],[]⟩,slc (H.n+9) 0 2 2,slc (H.n+10) 0 1 1,.slice none 0 0,.slice none 0 0⟩,⟨⟨[82,52],2,[4],[],[],[(1,true)]⟩,slc (H.n+11) 0 1 1,.slice none 0 0,.slice none 0 0,slc (H.n+12) 0 1 1⟩,⟨⟨[82,53],1,[3],[(1,true)],[5],[]⟩,slc (H.n+13) 0 1 1,slc (H.n+14) 0 1 1,slc (H.n+15) 0 1 1,.slice none 0 0⟩]
def yR(H:Aaa):List Value:=((yX H).map RV.row).flatten
def yU(H:Aaa):V4:=⟨slc (H.n+1) 0 6 6,slc (H.n+2) 0 2 2,slc (H.n+3) 0 3 3,slc (H.n+16) 0 5 5⟩
def yK(H:Aaa):Aaa:=(((((((((((((((((H).alloc (.cells true false 4 [slc (H.n+1) 0 6 6,slc (H.n+2) 0 2 2,slc (H.n+3) 0 3 3,slc (H.n+16) 0 5 5] 27)).alloc (.cells true false 1 [.string ⟨#[97]⟩,.string ⟨#[98]⟩,.string ⟨#[99]⟩,.string ⟨#[100]⟩,.string ⟨#[101]⟩,.string ⟨#[102]⟩] 9)).alloc (.cells true false 2 [.string ⟨#[80]⟩,.int .i64 1,.string ⟨#[81]⟩,.int .i64 3] 89)).alloc (.cells true false 2 [.string ⟨#[71]⟩,.int .i64 0,.string ⟨#[72]⟩,.int .i64 4,.string ⟨#[75]⟩,.int .i64 5] 90)).alloc (.cells true false 1 [.int .i64 1,.int .i64 2] 3)).alloc (.cells true false 2 [.int .i64 0,.bool false,.int .i64 1,.bool false] 120)).alloc (.cells true false 1 [.int .i64 3] 3)).alloc (.cells true false 1 [.int .i64 1,.int .i64 5] 3)).alloc (.cells true false 2 [.int .i64 0,.bool true] 120)).alloc (.cells true false 1 [.int .i64 3,.int .i64 2] 3)).alloc (.cells true false 2 [.int .i64 1,.bool false] 120)).alloc (.cells true false 1 [.int .i64 4] 3)).alloc (.cells true false 2 [.int .i64 1,.bool true] 120)).alloc (.cells true false 1 [.int .i64 3] 3)).alloc (.cells true false 2 [.int .i64 1,.bool true] 120)).alloc (.cells true false 1 [.int .i64 5] 3)).alloc (.cells true false 6 (yR H) 87)
theorem Bp5(H:Aaa):Aac H (yK H):=((((((((((((((((((Aac.refl H).alloc _).alloc _).alloc _).alloc _).alloc _).alloc _).alloc _).alloc _).alloc _).alloc _).alloc _).alloc _).alloc _).alloc _).alloc _).alloc _).alloc _)
theorem Bgq(H:Aaa):LyR (yK H) (yU H) (yX H) yL:=by
 refine⟨?_,?_,?_,?_,rfl,?_⟩
 ·exact Sl.keeps (Afu (rows:=[[.string ⟨#[97]⟩],[.string ⟨#[98]⟩],[.string ⟨#[99]⟩],[.string ⟨#[100]⟩],[.string ⟨#[101]⟩],[.string ⟨#[102]⟩]]) (by simp) rfl rfl) ((((((((((((((((Aac.refl _).alloc _).alloc _).alloc _).alloc _).alloc _).alloc _).alloc _).alloc _).alloc _).alloc _).alloc _).alloc _).alloc _).alloc _).alloc _)
 ·exact Sl.keeps (Afu (rows:=[[.string ⟨#[80]⟩,.int .i64 1],[.string ⟨#[81]⟩,.int .i64 3]]) (by simp) rfl rfl) (((((((((((((((Aac.refl _).alloc _).alloc _).alloc _).alloc _).alloc _).alloc _).alloc _).alloc _).alloc _).alloc _).alloc _).alloc _).alloc _).alloc _)
 ·exact Sl.keeps (Afu (rows:=[[.string ⟨#[71]⟩,.int .i64 0],[.string ⟨#[72]⟩,.int .i64 4],[.string ⟨#[75]⟩,.int .i64 5]]) (by simp) rfl rfl) ((((((((((((((Aac.refl _).alloc _).alloc _).alloc _).alloc _).alloc _).alloc _).alloc _).alloc _).alloc _).alloc _).alloc _).alloc _).alloc _)
 ·exact Afu (rows:=(yX H).map RV.row) (by intro r hr;obtain⟨y,_,rfl⟩:=List.mem_map.1 hr;rfl) rfl rfl
 ·intro x hx
  have b4:IL (yK H) (slc (H.n+4) 0 2 2) [1,2]:=Sl.keeps (Afu (rows:=[[.int .i64 1],[.int .i64 2]]) (by simp) rfl rfl) (((((((((((((Aac.refl _).alloc _).alloc _).alloc _).alloc _).alloc _).alloc _).alloc _).alloc _).alloc _).alloc _).alloc _).alloc _)
  have b5:NL (yK H) (slc (H.n+5) 0 2 2) [(0,false),(1,false)]:=Sl.keeps (Afu (rows:=[[.int .i64 0,.bool false],[.int .i64 1,.bool false]]) (by simp) rfl rfl) ((((((((((((Aac.refl _).alloc _).alloc _).alloc _).alloc _).alloc _).alloc _).alloc _).alloc _).alloc _).alloc _).alloc _)
  have b6:IL (yK H) (slc (H.n+6) 0 1 1) [3]:=Sl.keeps (Afu (rows:=[[.int .i64 3]]) (by simp) rfl rfl) (((((((((((Aac.refl _).alloc _).alloc _).alloc _).alloc _).alloc _).alloc _).alloc _).alloc _).alloc _).alloc _)
  have b7:IL (yK H) (slc (H.n+7) 0 2 2) [1,5]:=Sl.keeps (Afu (rows:=[[.int .i64 1],[.int .i64 5]]) (by simp) rfl rfl) ((((((((((Aac.refl _).alloc _).alloc _).alloc _).alloc _).alloc _).alloc _).alloc _).alloc _).alloc _)
  have b8:NL (yK H) (slc (H.n+8) 0 1 1) [(0,true)]:=Sl.keeps (Afu (rows:=[[.int .i64 0,.bool true]]) (by simp) rfl rfl) (((((((((Aac.refl _).alloc _).alloc _).alloc _).alloc _).alloc _).alloc _).alloc _).alloc _)
  have b9:IL (yK H) (slc (H.n+9) 0 2 2) [3,2]:=Sl.keeps (Afu (rows:=[[.int .i64 3],[.int .i64 2]]) (by simp) rfl rfl) ((((((((Aac.refl _).alloc _).alloc _).alloc _).alloc _).alloc _).alloc _).alloc _)
  have b10:NL (yK H) (slc (H.n+10) 0 1 1) [(1,false)]:=Sl.keeps (Afu (rows:=[[.int .i64 1,.bool false]]) (by simp) rfl rfl) (((((((Aac.refl _).alloc _).alloc _).alloc _).alloc _).alloc _).alloc _)
  have b11:IL (yK H) (slc (H.n+11) 0 1 1) [4]:=Sl.keeps (Afu (rows:=[[.int .i64 4]]) (by simp) rfl rfl) ((((((Aac.refl _).alloc _).alloc _).alloc _).alloc _).alloc _)
  have b12:NL (yK H) (slc (H.n+12) 0 1 1) [(1,true)]:=Sl.keeps (Afu (rows:=[[.int .i64 1,.bool true]]) (by simp) rfl rfl) (((((Aac.refl _).alloc _).alloc _).alloc _).alloc _)
  have b13:IL (yK H) (slc (H.n+13) 0 1 1) [3]:=Sl.keeps (Afu (rows:=[[.int .i64 3]]) (by simp) rfl rfl) ((((Aac.refl _).alloc _).alloc _).alloc _)
  have b14:NL (yK H) (slc (H.n+14) 0 1 1) [(1,true)]:=Sl.keeps (Afu (rows:=[[.int .i64 1,.bool true]]) (by simp) rfl rfl) (((Aac.refl _).alloc _).alloc _)
  have b15:IL (yK H) (slc (H.n+15) 0 1 1) [5]:=Sl.keeps (Afu (rows:=[[.int .i64 5]]) (by simp) rfl rfl) ((Aac.refl _).alloc _)
  have iz:IL (yK H) (.slice none 0 0) []:=Sl.nil _ _
  have nz:NL (yK H) (.slice none 0 0) []:=Sl.nil _ _
  simp only[yX,List.mem_cons,List.not_mem_nil,or_false]at hx
  rcases hx with rfl|rfl|rfl|rfl|rfl
  ·exact⟨b4,b5,b6,nz⟩
  ·exact⟨b7,b8,iz,nz⟩
  ·exact⟨b9,b10,iz,nz⟩
  ·exact⟨b11,nz,iz,b12⟩
  ·exact⟨b13,b14,b15,nz⟩
theorem Ao4:Aar yL=0:=by decide+kernel
theorem Bgr:Aih 9223372036854775807 yL:=by
 refine⟨?_,?_,?_,?_⟩<;>decide
theorem G1(x a b c d e f:ByteArray):Aa4 [.string x,.string x,.string x,.string x,.string x,.string x] [(0,1,.string a),(1,1,.string b),(2,1,.string c),(3,1,.string d),(4,1,.string e),(5,1,.string f)]=some [.string a,.string b,.string c,.string d,.string e,.string f]:=rfl
theorem G2(a b c d e f g h:Value):Aa4 [e,f,g,h] [(0,2,.agg #[a,b]),(2,2,.agg #[c,d])]=some [a,b,c,d]:=rfl
theorem G3(a b c d e f g h i j k l:Value):Aa4 [g,h,i,j,k,l] [(0,2,.agg #[a,b]),(2,2,.agg #[c,d]),(4,2,.agg #[e,f])]=some [a,b,c,d,e,f]:=rfl
theorem G4(k:IntKind)(n m:Int)(b c:Bool):Aa4 [.int k n,.bool b] [(0,1,.int k m),(1,1,.bool c)]=some [.int k m,.bool c]:=rfl
theorem G5(k:IntKind)(n m:Int)(b:Bool):Aa4 [.int k n,.bool b] [(0,1,.int k m)]=some [.int k m,.bool b]:=rfl
theorem G6(k:IntKind)(n m:Int):Aa4 [.int k n] [(0,1,.int k m)]=some [.int k m]:=rfl
theorem H1(x a:ByteArray)(k:IntKind)(m n:Int)(b c d e f g h i j l o p:Nat):Aa4 [.string x,.int k m,.slice none 0 0,.slice none 0 0,.slice none 0 0,.slice none 0 0] [(0,1,.string a),(1,1,.int k n),(2,1,slc b c d e),(3,1,slc f g h i),(4,1,slc j l o p)]=some [.string a,.int k n,slc b c d e,slc f g h i,slc j l o p,.slice none 0 0]:=rfl
theorem H2(x a:ByteArray)(k:IntKind)(m n:Int)(b c d e f g h i:Nat):Aa4 [.string x,.int k m,.slice none 0 0,.slice none 0 0,.slice none 0 0,.slice none 0 0] [(0,1,.string a),(1,1,.int k n),(2,1,slc b c d e),(3,1,slc f g h i)]=some [.string a,.int k n,slc b c d e,slc f g h i,.slice none 0 0,.slice none 0 0]:=rfl
theorem H3(x a:ByteArray)(k:IntKind)(m n:Int)(b c d e f g h i:Nat):Aa4 [.string x,.int k m,.slice none 0 0,.slice none 0 0,.slice none 0 0,.slice none 0 0] [(0,1,.string a),(1,1,.int k n),(2,1,slc b c d e),(5,1,slc f g h i)]=some [.string a,.int k n,slc b c d e,.slice none 0 0,.slice none 0 0,slc f g h i]:=rfl
theorem H4(a0 b0 c0 d0 e0 f0 a1 b1 c1 d1 e1 f1 a2 b2 c2 d2 e2 f2 a3 b3 c3 d3 e3 f3 a4 b4 c4 d4 e4 f4:Value):Aa4 Bpg [(0,6,.agg #[a0,b0,c0,d0,e0,f0]),(6,6,.agg #[a1,b1,c1,d1,e1,f1]),(12,6,.agg #[a2,b2,c2,d2,e2,f2]),(18,6,.agg #[a3,b3,c3,d3,e3,f3]),(24,6,.agg #[a4,b4,c4,d4,e4,f4])]=some [a0,b0,c0,d0,e0,f0,a1,b1,c1,d1,e1,f1,a2,b2,c2,d2,e2,f2,a3,b3,c3,d3,e3,f3,a4,b4,c4,d4,e4,f4]:=rfl
set_option maxHeartbeats 4000000 in
theorem t27(H:Aaa):∃w H',Aau Tryz.prog 0 27 [] H w H'∧w=.agg (yU H).l.toArray∧H'=yK H:=by
 refine Aaq Bdl Bk0 ?_
 intro Q hq1 hq2
 simp(disch:=first|assumption|omega|(simp only[LN]<;>omega)|(simp(disch:=first|assumption|omega|(simp only[LN]<;>omega))only[Aab,Aad];assumption))only[f27,P4,seval,G1,F2,F3,F4,F8,G2,G3,G4,G5,G6,H1,H2,H3,H4,F5]
 have gg:(yK H).get H.n=some (.cells true false 4 (yU H).l 27):=Aac.at_ (((((((((((((((((Aac.refl _).alloc _).alloc _).alloc _).alloc _).alloc _).alloc _).alloc _).alloc _).alloc _).alloc _).alloc _).alloc _).alloc _).alloc _).alloc _).alloc _) (Aaa.Bp6 H _)
 refine hq2 _ _ ⟨.agg (yU H).l.toArray,?_,rfl,rfl⟩
 show Acx [.cn 4 0] _ (yK H)=_
 rw[Aqx]
 show Adm 4 (ptr H.n 0) (yK H)=_
 rw[Acq,Abj,gg];rfl
end Go.AM.Fd

set_option maxRecDepth 20000
namespace Go.AM.Fd
open Go.Proofs Go.AM.F
structure NwC (H K:Aaa) (c sb:Nat) (wh:Int) (L:Ly) (v:Chv):Prop where
 k:Aac H K
 e:v.wh=wh∧v.sb=sb∧v.ep=0∧v.fl=0∧v.tk=false∧v.nx=.pointer none
 g:K.get c=some (.cells true false 79 (chl v Abs) 99)
 l:A9a ⟨v.ls,v.lp,.slice none 0 0,v.lr⟩ L.s.length L.p.length L.r.length
 a:AgR K sb (sd0 wh)
 lc:H.n≤c
 ls:H.n≤sb
 m:∀S K',Chg S K K'→(∀b∈S,(b<H.n∨b=c∨b=sb∨K.n≤b)∧∀o r z c T,K.get b=some (.cells o r z c T)→¬(z=1∨z=2∨z=4∨z=5))→MaM K' v.iv L
theorem u9{H:Aaa}{u:V4}{xs:List RV}{L:Ly}{wh:Int}(h:LyR H u xs L)(hf:Aih 9223372036854775807 L)(hw:wh=0∨wh=1)(he:Aar L=0):
 ∃w K,Aau Tryz.prog 0 9 [.int .i64 wh,.agg u.l.toArray] H w K∧∃c sb v,w=.tuple #[ptr c 0,.int .i64 0]∧NwC H K c sb wh L v:=by
 obtain⟨w,K,a,k,_,b⟩:=t9 (wh:=wh) h hf
 obtain⟨c,sb,v,e,h1,h2,h3,h4,h5,h6,h7⟩:=(b hw).2 he
 exact⟨w,K,a,c,sb,v,e,k,h1,h2,h3,h4,h5,h6,h7⟩
theorem NwC.lt{H K:Aaa}{c sb:Nat}{wh:Int}{L:Ly}{v:Chv}(h:NwC H K c sb wh L v):c<K.n∧sb<K.n∧c≠sb:=by
 obtain⟨_,_,_,g,_⟩:=h.a
 refine⟨Aaa.Bp9 h.g,Aaa.Bp9 g,fun e=>?_⟩
 subst e;rw[h.g]at g;cases g
theorem NwC.ty{H K:Aaa}{c sb:Nat}{wh:Int}{L:Ly}{v:Chv}(h:NwC H K c sb wh L v){Z:Aaa}(k:Aac K Z):∀b,b=c∨b=sb→∀o r z c T,Z.get b=some (.cells o r z c T)→¬(z=1∨z=2∨z=4∨z=5):=by
 obtain⟨_,_,_,g,_⟩:=h.a
 rintro b (rfl|rfl) o r z D T e
 ·rw[k.at_ h.g]at e;cases e;decide
 ·rw[k.at_ g]at e;cases e;decide
theorem NwC.ch{H K Z:Aaa}{c sb:Nat}{wh:Int}{L:Ly}{v:Chv}{S:List Nat}(h:NwC H K c sb wh L v)(k:Aac K Z)(hc:c∈S)(hs:sb∈S)(hS:∀b∈S,(b<H.n∨b=c∨b=sb∨K.n≤b)∧∀o r z c T,K.get b=some (.cells o r z c T)→¬(z=1∨z=2∨z=4∨z=5)):ChR ⟨Z,S⟩ Z c sb wh L (ch0 wh):=by
 obtain⟨e1,e2,e3,e4,e5,e6⟩:=h.e
 refine⟨v,⟨e1,e2,e3,e4,e5⟩,k.at_ h.g,h.l,e6,fun K' c'=>h.m S K' ((k.chg S).trans c' (fun x hx=>.inl hx)) hS,h.a.keeps k,Apu wh,rfl,Chg.refl _ _,.inl hc,.inl hs⟩
theorem NwC.one{H K:Aaa}{c sb:Nat}{wh:Int}{L:Ly}{v:Chv}(h:NwC H K c sb wh L v):ChR ⟨K,[c,sb]⟩ K c sb wh L (ch0 wh):=
 h.ch (Aac.refl K) (by simp) (by simp) fun b hb=>by
  simp only[List.mem_cons,List.not_mem_nil,or_false]at hb
  exact⟨by omega,h.ty (Aac.refl K) b hb⟩
structure Avn (W:Wd) (H:Aaa) (a sa b sb:Nat) (p q:Int) (L:Ly) (A B:Ch):Prop where
 ca:ChR W H a sa p L A
 cb:ChR W H b sb q L B
 n:a≠b∧sa≠sb
theorem Avn.swap{W:Wd}{H:Aaa}{a sa b sb:Nat}{p q:Int}{L:Ly}{A B:Ch}(h:Avn W H a sa b sb p q L A B):Avn W H b sb a sa q p L B A:=⟨h.cb,h.ca,fun e=>h.n.1 e.symm,fun e=>h.n.2 e.symm⟩
theorem Avn.keeps{W:Wd}{H K:Aaa}{a sa b sb:Nat}{p q:Int}{L:Ly}{A B:Ch}(h:Avn W H a sa b sb p q L A B)(k:Aac H K):Avn W K a sa b sb p q L A B:=⟨h.ca.keeps k,h.cb.keeps k,h.n⟩
theorem ChR.lt{W:Wd}{H:Aaa}{a sa:Nat}{p:Int}{L:Ly}{A:Ch}(h:ChR W H a sa p L A):a<H.n∧sa<H.n∧a≠sa:=by
 obtain⟨v,hv⟩:=h
 obtain⟨_,_,_,ga,_⟩:=hv.sd
 exact⟨Aaa.Bp9 hv.g,Aaa.Bp9 ga,hv.ne⟩
theorem ChR.o2{W:Wd}{H:Aaa}{a sa:Nat}{p:Int}{L:Ly}{A:Ch}(h:ChR W H a sa p L A):∀b∈[a,sa],∀o r z C T,H.get b=some (.cells o r z C T)→z≠2:=by
 obtain⟨v,hv⟩:=h
 exact fun b hb o r z C T e=>(hv.o68 b hb o r z C T e).2.1
theorem Avn.step{W:Wd}{H K:Aaa}{a sa b sb:Nat}{p q:Int}{L:Ly}{A B A':Ch}(h:Avn W H a sa b sb p q L A B)(c:Chg [a,sa] H K){sa':Nat}(hs:sa'=sa∨H.n≤sa')(hA:ChR W K a sa' p L A'):Avn W K a sa' b sb p q L A' B:=by
 obtain⟨v,hv⟩:=h.ca
 obtain⟨w,hw⟩:=h.cb
 obtain⟨_,_,_,ga,_⟩:=hv.sd
 obtain⟨_,_,_,gb,_⟩:=hw.sd
 have n1:b≠sa:=fun e=>by subst e;rw[hw.g]at ga;cases ga
 have n2:sb≠a:=fun e=>by subst e;rw[hv.g]at gb;cases gb
 have lb:=Aaa.Bp9 gb
 refine⟨hA,⟨w,hw.oth c (by simp;exact⟨fun e=>h.n.1 e.symm,n1⟩) (by simp;exact⟨n2,fun e=>h.n.2 e.symm⟩) (fun x hx=>?_) hv.o68⟩,h.n.1,?_⟩
 ·simp only[List.mem_cons,List.not_mem_nil,or_false]at hx
  rcases hx with rfl|rfl
  ·exact hv.wc
  ·exact hv.ws
 ·rcases hs with rfl|hs
  ·exact h.n.2
  ·omega
theorem NwC.two{H1 K1 H2 K2:Aaa}{a sa b sb:Nat}{p q:Int}{L:Ly}{v w:Chv}(h:NwC H1 K1 a sa p L v)(k:Aac K1 H2)(h2:NwC H2 K2 b sb q L w):Avn ⟨K2,[a,sa,b,sb]⟩ K2 a sa b sb p q L (ch0 p) (ch0 q):=by
 have l1:=h.lt
 have l2:=h2.lt
 have nk:=k.n
 have c2:=h2.lc
 have s2:=h2.ls
 refine⟨h.ch (k.trans h2.k) (by simp) (by simp) fun x hx=>?_,h2.ch (Aac.refl _) (by simp) (by simp) fun x hx=>?_,by omega,by omega⟩
 ·simp only[List.mem_cons,List.not_mem_nil,or_false]at hx
  refine⟨by omega,fun o r z D T e=>?_⟩
  have lx:=Aaa.Bp9 e
  exact h.ty (Aac.refl _) x (by omega) o r z D T e
 ·simp only[List.mem_cons,List.not_mem_nil,or_false]at hx
  refine⟨by omega,fun o r z D T e=>?_⟩
  rcases hx with rfl|rfl|rfl|rfl
  ·exact h.ty (k.trans h2.k) _ (.inl rfl) o r z D T e
  ·exact h.ty (k.trans h2.k) _ (.inr rfl) o r z D T e
  ·exact h2.ty (Aac.refl _) _ (.inl rfl) o r z D T e
  ·exact h2.ty (Aac.refl _) _ (.inr rfl) o r z D T e
end Go.AM.Fd

set_option maxRecDepth 20000
namespace Go.AM.Fd
open Nat (reduceAdd reduceEqDiff reduceLT reduceLeDiff reduceMul reduceSub)
open Go.Proofs Go.AM.F
def cwx:Inp:=⟨fun _=>false,fun i=>(3:Nat).testBit i,fun _=>false⟩
def cwc:List (Int×Int):=[(1,0)]
theorem A3e(z:Value):inl cwx z=[.int .u64 0,.int .u32 3,.int .u32 0,z]:=by
 have h:Value.int .u32 3=S32 fun i=>(3:Nat).testBit i:=by
  show Value.int .u32 ((3:Nat):Int)=_
  unfold S32
  rw[Aos (by decide)]
 show[S64 _,S32 _,S32 _,z]=_
 rw[Ac2,Afn,h];rfl
theorem Azp:inR 6 2 5 cwx cwc=true:=by decide+kernel
theorem Azq:A28 yL Abs 1 0=true:=by decide+kernel
def cwC(wh:Int):Ch:=⟨Abs,1,0,sd0 wh,false,none⟩
theorem At6(C:Ch)(wh:Int):Arg yL C wh Abs 1 0=cwC wh:=by unfold Arg;rw[Azq];rfl
theorem At7:Arh yL Abs 1 0=0:=by unfold Arh;rw[Azq];rfl
def cwR(wh:Int):Rd:=⟨wh,1,cwx,cwc⟩
def cwD(wh:Int):Ch:={cwC wh with sd:=⟨wh,1,some (cwR wh),none,none,false⟩,tk:=false,nx:=none}
theorem At8(wh:Int):bgB yL (cwC wh) 1 cwx cwc=true:=by
 have:=Azp
 unfold bgB
 rw[show yL.s.length=6 from rfl,show yL.p.length=2 from rfl,show yL.r.length=5 from rfl,this];rfl
theorem Azr(wh:Int):bgS yL (cwC wh) 1 cwx cwc=cwD wh:=by unfold bgS;rw[At8];rfl
theorem Azs(wh:Int):bgR yL (cwC wh) 1 cwx cwc=cwR wh:=by unfold bgR;rw[At8];rfl
theorem Azt(wh:Int):bgE yL (cwC wh) 1 cwx cwc=0:=by unfold bgE;rw[At8];rfl
def cwE(wh oth:Int):Ch:={cwD wh with sd:=⟨wh,1,some (cwR wh),some (cwR oth),none,false⟩}
theorem Azu(wh:Int):inR yL.s.length yL.p.length yL.r.length (cwR wh).x (cwR wh).c=true:=Azp
theorem A3f:hhS yL (cwD 0) (cwR 1)=cwE 0 1∧hhS yL (cwD 1) (cwR 0)=cwE 1 0∧hhE yL (cwD 0) (cwR 1)=0∧hhE yL (cwD 1) (cwR 0)=0:=by
 unfold hhS hhE
 rw[Azu,Azu]
 exact⟨rfl,rfl,rfl,rfl⟩
def cwT:Sta:=Ac5 yL Abs (Agv cwx cwx) (Ana cwc cwc)
theorem Bjf:(((Aa3 (fun i=>decide (i<yL.r.length)&&Aes yL (Agv cwx cwx) cwT i) 64:Nat):Int)==1)=true:=by decide+kernel
theorem Bjg:(((Aa3 cwT.lo 64:Nat):Int)==1)=true:=by decide+kernel
theorem Azv(wh:Int):ROk (cwR wh):=⟨by show cwc.length≤1000;decide,by show∀c∈cwc,_;decide⟩
theorem Azw(f:Nat→Bool):Ab9 .eql (S64 f) (.int .u64 1)=some (.bool (((Aa3 f 64:Nat):Int)==1)):=by unfold S64;rw[Aqr]
theorem A93(a b c d:Int)(f:Nat→Bool)(g:Nat→Bool)(H:Aaa):Aam (.eqs [1,1,1,1] false (.agg #[.int .i64 a,.int .i64 b,S64 f,S32 g]) (.agg #[.int .i64 a,.int .i64 b,S64 f,S32 g])) H=some (.bool true,H):=by
 simp[Aam,Afv,eqC,S64,S32]
theorem A94:Aa4 [.int .u8 0,.int .i64 0] [(0,1,.int .u8 1)]=some [.int .u8 1,.int .i64 0]:=rfl
theorem A3g:Aa4 [.int .u8 0,.int .i64 0] [(0,2,.agg #[.int .u8 1,.int .i64 0])]=some [.int .u8 1,.int .i64 0]:=rfl
theorem A95(z:Value)(h:isS z=true):Aa4 [.int .u64 0,.int .u32 0,.int .u32 0,.slice none 0 0] [(1,1,.int .u32 3),(3,1,z)]=some [.int .u64 0,.int .u32 3,.int .u32 0,z]:=by
 obtain⟨_,_,_,rfl⟩:=Aeo h;rfl
set_option maxHeartbeats 8000000 in
theorem t8(H:Aaa):∃w K,Aau Tryz.prog 0 8 [] H w K∧w=.bool true∧K=H:=by
 refine gcb ?_
 refine Aaq Blr f8_n ?_
 intro Q hq1 hq2
 simp(disch:=first|assumption|omega)only[f8,P4,seval]
 refine Aaw (t27 H) ?_
 have hul:(yU H).l=[(yU H).s,(yU H).p,(yU H).g,(yU H).r]:=rfl
 have ho:=Avb (Bgq H)
 have ll:(yU H).l.length=4:=rfl
 obtain⟨K0,hK0⟩:∃X,X=(yK H).alloc (.cells true false 4 (yU H).l 27):=⟨_,rfl⟩
 have k0:Aac (yK H) K0:=by rw[hK0];exact(Aac.refl _).alloc _
 have gl0:K0.get (yK H).n=some (.cells true false 4 (yU H).l 27):=by rw[hK0];exact Aaa.Bp6 (yK H) _
 have hl0:=(Bgq H).keeps k0
 have hs4:∀(h:Aaa) (b:Nat) (c:List Value),c.length=4→∀(r:Bool) (T:Nat),Aw9 h b 0 4 (yU H).l (some (.cells true r 4 c T))=some (undef,h.set b (.cells true r 4 (yU H).l T)):=fun h b c hc r T=>by
  rw[Ag8 hc,if_pos ⟨ll,ho⟩]
 simp(disch:=first|assumption|omega|(simp only[LN]<;>omega)|(simp(disch:=first|assumption|omega|(simp only[LN]<;>omega))only[Aab,Aad];assumption))only[P4,seval,ho,ll,hs4]
 rw[←hK0]
 refine Aag (u9 (wh:=0) hl0 Bgr (.inl rfl) Ao4) ?_
 rintro _ K1 ⟨a,sa,va,rfl,na⟩
 have gl1:=na.k.at_ gl0
 have hl1:=hl0.keeps na.k
 simp(disch:=first|assumption|omega)only[P4,seval,gl1,Abx,ll]
 refine Aag (u9 (wh:=1) hl1 Bgr (.inr rfl) Ao4) ?_
 rintro _ K2 ⟨b,sb,vb,rfl,nb⟩
 have tw:=na.two (Aac.refl K1) nb
 obtain⟨W,hW⟩:∃W:Wd,W=⟨K2,[a,sa,b,sb]⟩:=⟨_,rfl⟩
 rw[←hW]at tw
 have kH:Aac H K2:=((Bp5 H).trans k0).trans (na.k.trans nb.k)
 simp(disch:=first|assumption|omega)only[P4,seval,Af6]
 refine Aag (t11 tw.ca (.inl rfl) Ao4 Abs 1 0) ?_
 rintro _ K3 ⟨rfl,c3,sa',hs3,hA⟩
 rw[At7]
 rw[At6]at hA
 have tw:=tw.step c3 hs3 hA
 simp(disch:=first|assumption|omega)only[P4,seval,Af6]
 refine Aag (t11 tw.cb (.inr rfl) Ao4 Abs 1 0) ?_
 rintro _ K4 ⟨rfl,c4,sb',hs4',hB⟩
 rw[At7]
 rw[At6]at hB
 have tw:=(tw.swap.step c4 hs4' hB).swap
 simp(disch:=first|assumption|omega)only[P4,seval,Af6]
 refine Aag (t15 tw.ca Ao4) ?_
 rintro _ K5 ⟨rfl,c5,hA⟩
 have e5:thW yL (cwC 0)=.tuple #[.agg (stl Abs).toArray,.agg (frl 0 0 [.int .u64 0,.int .u32 0]).toArray,.int .i64 4]:=rfl
 have e5':thC yL (cwC 0)=cwC 0:=rfl
 rw[e5]
 rw[e5']at hA
 have tw:=tw.step c5 (.inl rfl) hA
 have ef0:frl 0 0 [.int .u64 0,.int .u32 0]=[.int .i64 0,.int .i64 0,.int .u64 0,.int .u32 0]:=rfl
 rw[ef0]
 have fi:=A95 (slc (K5.n+1+1) 0 1 1) rfl
 obtain⟨K6,hK6⟩:∃X,X=(((K5.alloc (.cells true false 68 (stl Abs) 43)).alloc (.cells true false 4 [.int .i64 0,.int .i64 0,.int .u64 0,.int .u32 0] 56)).alloc (.cells true false 2 [.int .u8 1,.int .i64 0] 83)).alloc (.cells true false 4 (inl cwx (slc (K5.n+1+1) 0 1 1)) 46):=⟨_,rfl⟩
 have k6:Aac K5 K6:=by rw[hK6];exact((((Aac.refl _).alloc _).alloc _).alloc _).alloc _
 have n6:K6.n=K5.n+4:=by rw[hK6];rfl
 have gi6:K6.get (K5.n+1+1+1)=some (.cells true false 4 (inl cwx (slc (K5.n+1+1) 0 1 1)) 46):=by rw[hK6];exact Aaa.Bp6 (((K5.alloc _).alloc _).alloc _) _
 have sc6:SlC K6 2 (slc (K5.n+1+1) 0 1 1) (cwc.map Aft):=by
  rw[hK6]
  have h1:SlC (((K5.alloc (.cells true false 68 (stl Abs) 43)).alloc (.cells true false 4 [.int .i64 0,.int .i64 0,.int .u64 0,.int .u32 0] 56)).alloc (.cells true false 2 [.int .u8 1,.int .i64 0] 83)) 2 (slc (K5.n+1+1) 0 1 1) (cwc.map Aft):=
   ⟨Afu (H:=(K5.alloc _).alloc _) (rows:=[[.int .u8 1,.int .i64 0]]) (by simp) rfl rfl,.inr (.inr ⟨_,1,1,_,_,_,_,rfl,Nat.le_refl _,Aaa.Bp6 ((K5.alloc _).alloc _) _⟩)⟩
  exact h1.keeps ((Aac.refl _).alloc _)
 rw[A3e]at hK6 gi6
 have tw5:=tw
 have tw:=tw.keeps k6
 simp(disch:=first|assumption|omega|(simp only[LN]<;>omega)|(simp(disch:=first|assumption|omega|(simp only[LN]<;>omega))only[Aab,Aad];assumption))only[P4,seval,Af6,Aaz,Aaj,Abh,A94,A3g,fi]
 rw[←hK6]
 have tB:=t13 tw.ca 1 (x:=cwx) sc6 (by decide) (by decide)
 rw[A3e,Azr,Azs,Azt]at tB
 refine Aag tB ?_
 rintro _ K7 ⟨c7,hA,y7,rfl,hy7⟩
 have er:∀wh y,rdl (cwR wh) y=[.int .i64 wh,.int .i64 1,S64 cwx.oc,S32 cwx.nr,S32 cwx.rv,y]:=fun _ _=>rfl
 have oy7:=Sl.one hy7.s
 obtain⟨la,lsa,_⟩:=tw.ca.lt
 obtain⟨lb,lsb,_⟩:=tw.cb.lt
 obtain⟨l5a,l5sa,_⟩:=tw5.ca.lt
 obtain⟨l5b,l5sb,_⟩:=tw5.cb.lt
 have gi7:=c7.at_ gi6 (by simp;omega)
 have sc7:=sc6.oth c7 tw.ca.o2
 have tw:=tw.step c7 (.inl rfl) hA
 have n7:=c7.n
 obtain⟨K8,hK8⟩:∃X,X=K7.alloc (.cells true false 6 (rdl (cwR 0) y7) 49):=⟨_,rfl⟩
 have k8:Aac K7 K8:=by rw[hK8];exact(Aac.refl _).alloc _
 have g8:K8.get K7.n=some (.cells true false 6 (rdl (cwR 0) y7) 49):=by rw[hK8];exact Aaa.Bp6 K7 _
 have gi8:=k8.at_ gi7
 have tw:=tw.keeps k8
 have tB:=t13 tw.cb 1 (x:=cwx) (sc7.keeps k8) (by decide) (by decide)
 rw[A3e,Azr,Azs,Azt]at tB
 rw[er]at hK8 g8 ⊢
 simp(disch:=first|assumption|omega|(simp only[LN]<;>omega)|(simp(disch:=first|assumption|omega|(simp only[LN]<;>omega))only[Aab,Aad];assumption))only[P4,seval,oy7,gi7,O4]
 rw[←hK8]
 refine Aag tB ?_
 rintro _ K9 ⟨c9,hB,y9,rfl,hy9⟩
 have oy9:=Sl.one hy9.s
 have n8:=k8.n
 have n9:=c9.n
 have g9:=c9.at_ g8 (by simp;omega)
 have h7:=(hy7.keeps k8).oth c9 tw.cb.o2
 have tw:=(tw.swap.step c9 (.inl rfl) hB).swap
 obtain⟨K10,hK10⟩:∃X,X=K9.alloc (.cells true false 6 (rdl (cwR 1) y9) 49):=⟨_,rfl⟩
 have k10:Aac K9 K10:=by rw[hK10];exact(Aac.refl _).alloc _
 have g10:K10.get K9.n=some (.cells true false 6 (rdl (cwR 1) y9) 49):=by rw[hK10];exact Aaa.Bp6 K9 _
 have g10':=k10.at_ g9
 have tw:=tw.keeps k10
 have tH:=t14 tw.ca (Azv 1) (hy9.keeps k10)
 obtain⟨w1,w2,w3,w4⟩:=A3f
 rw[w1,w3]at tH
 rw[er]at hK10 g10 tH ⊢
 simp(disch:=first|assumption|omega|(simp only[LN]<;>omega)|(simp(disch:=first|assumption|omega|(simp only[LN]<;>omega))only[Aab,Aad];assumption))only[P4,seval,oy9,O4]
 rw[←hK10]
 refine Aag tH ?_
 rintro _ K11 ⟨rfl,c11,hA⟩
 have g11:=c11.at_ g10' (by simp;omega)
 have n10:=k10.n
 have l7:K7.n<K10.n:=Aaa.Bp9 g10'
 have h8:=(h7.keeps k10).oth c11 tw.ca.o2
 have tw:=tw.step c11 (.inl rfl) hA
 have tH:=t14 tw.cb (Azv 0) h8
 rw[w2,w4,er]at tH
 simp(disch:=first|assumption|omega|(simp only[LN]<;>omega)|(simp(disch:=first|assumption|omega|(simp only[LN]<;>omega))only[Aab,Aad];assumption))only[P4,seval,g11,l7]
 refine⟨g10'.symm,Aag tH ?_⟩
 rintro _ K12 ⟨rfl,c12,hB⟩
 have tw:=(tw.swap.step c12 (.inl rfl) hB).swap
 have n11:=c11.n
 have n12:=c12.n
 simp(disch:=first|assumption|omega)only[P4,seval]
 refine Aag (t15 tw.ca Ao4) ?_
 rintro _ K13 ⟨rfl,c13,hA⟩
 have n13:=c13.n
 have tw:=tw.step c13 (.inl rfl) hA
 have ew:∀p q,thW yL (cwE p q)=.tuple #[.agg (stl cwT).toArray,.agg #[.int .i64 1,.int .i64 1,S64 fun i=>decide (i<yL.r.length)&&Aes yL (Agv cwx cwx) cwT i,S32 cwT.po],.int .i64 0]:=fun _ _=>rfl
 rw[ew]
 obtain⟨f,hf⟩:∃f:Nat→Bool,f=fun i=>decide (i<yL.r.length)&&Aes yL (Agv cwx cwx) cwT i:=⟨_,rfl⟩
 rw[←hf]
 obtain⟨K14,hK14⟩:∃X,X=(K13.alloc (.cells true false 68 (stl cwT) 43)).alloc (.cells true false 4 [.int .i64 1,.int .i64 1,S64 f,S32 cwT.po] 56):=⟨_,rfl⟩
 have k14:Aac K13 K14:=by rw[hK14];exact((Aac.refl _).alloc _).alloc _
 have gs14:K14.get K13.n=some (.cells true false 68 (stl cwT) 43):=by rw[hK14];exact((Aac.refl _).alloc _).at_ (Aaa.Bp6 K13 _)
 have gf14:K14.get (K13.n+1)=some (.cells true false 4 [.int .i64 1,.int .i64 1,S64 f,S32 cwT.po] 56):=by rw[hK14];exact Aaa.Bp6 (K13.alloc _) _
 have tw:=tw.keeps k14
 simp(disch:=first|assumption|omega|(simp only[LN]<;>omega)|(simp(disch:=first|assumption|omega|(simp only[LN]<;>omega))only[Aab,Aad];assumption))only[P4,seval,Af6,Aaz,Aaj,Abh,O4]
 rw[←hK14]
 refine Aag (t15 tw.cb Ao4) ?_
 rintro _ K15 ⟨rfl,c15,hB⟩
 have n14:=k14.n
 have n15:=c15.n
 have gs15:=c15.at_ gs14 (by simp;omega)
 have gf15:=c15.at_ gf14 (by simp;omega)
 have tw:=(tw.swap.step c15 (.inl rfl) hB).swap
 rw[ew,←hf]
 obtain⟨K16,hK16⟩:∃X,X=(K15.alloc (.cells true false 68 (stl cwT) 43)).alloc (.cells true false 4 [.int .i64 1,.int .i64 1,S64 f,S32 cwT.po] 56):=⟨_,rfl⟩
 have k16:Aac K15 K16:=by rw[hK16];exact((Aac.refl _).alloc _).alloc _
 have tw:=tw.keeps k16
 have ls15:=Aaa.Bp9 gs15
 have lf15:=Aaa.Bp9 gf15
 have eqs:∀K,Aam (.eqs Bpi false (.agg (stl cwT).toArray) (.agg (stl cwT).toArray)) K=some (.bool true,K):=fun K=>(Alg K false cwT cwT).trans (by rw[Amo];rfl)
 have eqf:=fun K=>A93 1 1 0 0 f cwT.po K
 have pr:=Bjf
 rw[←hf]at pr
 simp(disch:=first|assumption|omega|(simp only[LN]<;>omega)|(simp(disch:=first|assumption|omega|(simp only[LN]<;>omega))only[Aab,Aad];assumption))only[P4,seval,Af6,Aaz,Aaj,Abh,O4,gs15,gf15,Abc,eqs,eqf,Azw,pr]
 rw[←hK16]
 refine Aag (t17 tw.ca) ?_
 rintro _ K17 ⟨rfl,c17,hA⟩
 have et:tkE (thC yL (cwE 0 1))=0:=rfl
 have es:tkS (thC yL (cwE 0 1))={cwE 0 1 with s:=cwT,nx:=none,tk:=true}:=rfl
 rw[es]at hA
 rw[et]
 simp(disch:=first|assumption|omega)only[P4,seval]
 refine Aaw (t18 hA) ?_
 have lo:=Bjg
 have a0:=na.lc
 have s0:=na.ls
 have b0:=nb.lc
 have t0:=nb.ls
 have nk0:=(Bp5 H).n
 have nk1:=k0.n
 have nk2:=na.k.n
 have nk3:=nb.k.n
 have nk4:=c3.n
 have j3:=kH.Bqa c3 (by simp;omega)
 have j4:=j3.Bqa c4 (by simp;omega)
 have j5:=j4.Bqa c5 (by simp;omega)
 have j7:=(j5.trans k6).Bqa c7 (by simp;omega)
 have j9:=(j7.trans k8).Bqa c9 (by simp;omega)
 have j11:=(j9.trans k10).Bqa c11 (by simp;omega)
 have j12:=j11.Bqa c12 (by simp;omega)
 have j13:=j12.Bqa c13 (by simp;omega)
 have j15:=(j13.trans k14).Bqa c15 (by simp;omega)
 have j17:=(j15.trans k16).Bqa c17 (by simp;omega)
 simp(disch:=first|assumption|omega)only[P4,seval,Abv,Azw,lo]
 exact hq2 _ _ ⟨.bool true,rfl,rfl,j17⟩
end Go.AM.Fd

set_option maxRecDepth 20000
namespace Go.AM.Fd
open Nat (reduceAdd reduceEqDiff reduceLT reduceLeDiff reduceMul reduceSub)
open Go.Proofs Go.AM.F
structure CV where
 k:Int
 n:Int
 x:Inp
 v:Value
 c:List (Int×Int)
 r:Rd
 z:Value
 s:Sta
 ep:Int
def Ad1(p:CV):List Value:=.int .i64 p.k:: .int .i64 p.n::S64 p.x.oc::S32 p.x.nr::S32 p.x.rv::p.v:: .int .i64 p.r.ch:: .int .i64 p.r.cy::S64 p.r.x.oc::S32 p.r.x.nr::S32 p.r.x.rv::p.z::(stl p.s++[.int .i64 p.ep])
def cv0:CV:=⟨0,0,xn,.slice none 0 0,[],⟨0,0,xn,[]⟩,.slice none 0 0,Abs,0⟩
structure CvO (H:Aaa) (p:CV):Prop where
 a:SlC H 2 p.v (p.c.map Aft)
 b:SlC H 2 p.z (p.r.c.map Aft)
 ka:∀c∈p.c,0≤c.1∧c.1<256
 kb:∀c∈p.r.c,0≤c.1∧c.1<256
theorem CvO.keeps{H K:Aaa}{p:CV}(h:CvO H p)(k:Aac H K):CvO K p:=⟨h.a.keeps k,h.b.keeps k,h.ka,h.kb⟩
structure CvL (H:Aaa) (v:Value) (l:List CV):Prop where
 s:Sl H 81 v (l.map Ad1)
 c:∀p∈l,CvO H p
theorem CvL.keeps{H K:Aaa}{v:Value}{l:List CV}(h:CvL H v l)(k:Aac H K):CvL K v l:=⟨h.s.keeps k,fun p hp=>(h.c p hp).keeps k⟩
theorem CvL.at_{H:Aaa}{v:Value}{l:List CV}(h:CvL H v l){i:Nat}(hi:i<l.length):nnS v=true∧Afp H 81 v i=some (Ad1 (l.getD i cv0)):=by
 have:=Sl.at_ h.s (by omega) (i:=i) (by simpa using hi)
 refine⟨this.1,?_⟩
 rw[this.2];simp[List.getD,List.getElem?_eq_getElem hi]
section
variable (p:CV)
theorem A96:(Ad1 p).length=81:=by simp[Ad1,Aaj]
theorem cv_s:((Ad1 p).drop 12).take 68=stl p.s:=by
 show(stl p.s++_).take 68=_
 rw[List.take_append_of_le_length (by rw[Aaj];omega),List.take_of_length_le (by rw[Aaj];omega)]
theorem Bjh:(Ad1 p)[80]? =some (.int .i64 p.ep):=by
 show(stl p.s++_)[68]? =_
 rw[List.getElem?_append_right (by rw[Aaj];omega),Aaj];rfl
end
theorem A97{H:Aaa}{cs:List Value}(h1:Ace Tryz.prog H.get (.int .u64:: .int .u64:: .int .u64::(List.replicate 64 (.int .u8)++[.int .u32])) cs):∃s,cs=stl s:=by
 obtain⟨a,as1,rfl,ha,h2⟩:=h1.inv
 obtain⟨b,bs,rfl,hb,h3⟩:=h2.inv
 obtain⟨c,ct,rfl,hc,h4⟩:=h3.inv
 obtain⟨h5,h6⟩:=h4.split
 obtain⟨l,hl,e5⟩:=h5.u8
 obtain⟨d,ds,e6,hd,h7⟩:=h6.inv
 have:=h7.end_;subst this
 obtain⟨n1,rfl,g1⟩:=Aiv ha
 obtain⟨n2,rfl,g2⟩:=Aiv hb
 obtain⟨n3,rfl,g3⟩:=Aiv hc
 obtain⟨n4,rfl,g4⟩:=Alk hd
 obtain⟨f1,q1⟩:=Ap3 (x:=(n1:Int)) (by omega) (by omega)
 obtain⟨f2,q2⟩:=Ap3 (x:=(n2:Int)) (by omega) (by omega)
 obtain⟨f3,q3⟩:=Ap3 (x:=(n3:Int)) (by omega) (by omega)
 obtain⟨f4,q4⟩:=Au4 (x:=(n4:Int)) (by omega) (by omega)
 have ect:ct=cellsOf l++[.int .u32 (n4:Int)]:=by
  have:=List.take_append_drop (List.replicate 64 (CKd.int .u8)).length ct
  rw[e5,e6]at this;exact this.symm
 refine⟨⟨f1,f2,f3,fun i=>(l.getD i 0).toNat,f4⟩,?_⟩
 have et:tis (fun i=>(l.getD i 0).toNat)=cellsOf l:=by
  unfold tis cellsOf
  apply List.ext_getElem?
  intro i
  rw[List.getElem?_map,List.getElem?_map]
  by_cases hi:i<64
  ·have hil:i<l.length:=by omega
   rw[List.getElem?_range hi,List.getElem?_eq_getElem hil]
   simp only[Option.map_some]
   rw[List.getD_eq_getElem?_getD,List.getElem?_eq_getElem hil];rfl
  ·rw[List.getElem?_eq_none (by simp;omega),List.getElem?_eq_none (by omega)];rfl
 rw[ect,←et,q1,q2,q3,q4];rfl
theorem Azx{H:Aaa}{cells:List Value}{ks:List CKd}(h1:Ace Tryz.prog H.get (.int .u64:: .int .u32:: .int .u32:: .sl 44::ks) cells):∃(x:Inp) (cv:Value) (cs:List (Int×Int)) (r:List Value),cells=S64 x.oc::S32 x.nr::S32 x.rv::cv::r∧Ace Tryz.prog H.get ks r∧SlC H 2 cv (cs.map Aft)∧∀c∈cs,0≤c.1∧c.1<256:=by
 obtain⟨a,as1,rfl,ha,h2⟩:=h1.inv
 obtain⟨b,bs,rfl,hb,h3⟩:=h2.inv
 obtain⟨c,cs,rfl,hc,h4⟩:=h3.inv
 obtain⟨d,ds,rfl,hd,h5⟩:=h4.inv
 obtain⟨n1,rfl,g1⟩:=Aiv ha
 obtain⟨n2,rfl,g2⟩:=Alk hb
 obtain⟨n3,rfl,g3⟩:=Alk hc
 obtain⟨f1,q1⟩:=Ap3 (x:=(n1:Int)) (by omega) (by omega)
 obtain⟨f2,q2⟩:=Au4 (x:=(n2:Int)) (by omega) (by omega)
 obtain⟨f3,q3⟩:=Au4 (x:=(n3:Int)) (by omega) (by omega)
 obtain⟨rows,⟨hr,lr⟩,hrow⟩:=A0y (e:=83) (esz:=2) (by kernel_rfl) (by kernel_rfl) hd
 obtain⟨l,rfl,hl⟩:=Aci (f:=Aft) (Q:=fun c:Int×Int=>0≤c.1∧c.1<256) (l:=rows) (fun r hm=>by
  have h1:=(hrow r hm).flat (d:=5) (ks:=[.int .u8,.int .i64]) (by kernel_rfl)
  obtain⟨a,as1,rfl,ha,h2⟩:=h1.inv
  obtain⟨b,bs,rfl,hb,h3⟩:=h2.inv
  have:=h3.end_;subst this
  obtain⟨n,rfl,g⟩:=A00 ha
  obtain⟨m,rfl,_⟩:=hb
  exact⟨((n:Int),m),rfl,by simp only;omega,by simp only;omega⟩)
 exact⟨⟨f1,f2,f3⟩,d,l,ds,by rw[q1,q2,q3],h5,hr,hl⟩
def Bnk:List CKd:=.int .i64:: .int .i64:: .int .u64:: .int .u32:: .int .u32:: .sl 44:: .int .i64:: .int .i64:: .int .u64:: .int .u32:: .int .u32:: .sl 44::((.int .u64:: .int .u64:: .int .u64::(List.replicate 64 (.int .u8)++[.int .u32]))++[.int .i64])
theorem A3h{H:Aaa}{cells:List Value}(h:AR Tryz.prog H.get 71 cells):∃p,cells=Ad1 p∧CvO H p:=by
 have h1:=h.flat (d:=6) (ks:=Bnk) (by kernel_rfl)
 unfold Bnk at h1
 obtain⟨_,as1,rfl,⟨k,rfl,_⟩,h2⟩:=h1.inv
 obtain⟨_,bs,rfl,⟨n,rfl,_⟩,h3⟩:=h2.inv
 obtain⟨x,v,c,r,rfl,h4,ha,hka⟩:=Azx h3
 obtain⟨_,ds,rfl,⟨ch,rfl,_⟩,h5⟩:=h4.inv
 obtain⟨_,es,rfl,⟨cy,rfl,_⟩,h6⟩:=h5.inv
 obtain⟨y,z,d,r2,rfl,h7,hb,hkb⟩:=Azx h6
 obtain⟨h8,h9⟩:=h7.split
 obtain⟨s,e8⟩:=A97 h8
 obtain⟨_,gs,e9,⟨ep,rfl,_⟩,h10⟩:=h9.inv
 have:=h10.end_;subst this
 have e:=List.take_append_drop (CKd.int .u64:: .int .u64:: .int .u64::(List.replicate 64 (.int .u8)++[.int .u32])).length r2
 rw[e8,e9]at e
 exact⟨⟨k,n,x,v,c,⟨ch,cy,y,d⟩,z,s,ep⟩,by rw[←e];rfl,ha,hb,hka,hkb⟩
theorem Axx{H:Aaa}{v:Value}(h:AV Tryz.prog H.get 63 v):∃l:List CV,CvL H v l∧l.length≤9223372036854775807:=by
 have h1:=h.2.2 (by kernel_rfl)
 have hc:v.cells.toList=[v]:=by rw[Afy h1]
 have h2:=h.1
 rw[hc]at h2
 obtain⟨rows,⟨hr,lr⟩,hrow⟩:=A0y (e:=71) (esz:=81) (by kernel_rfl) (by kernel_rfl) h2
 obtain⟨l,rfl,hl⟩:=Aci (f:=Ad1) (Q:=CvO H) (l:=rows) (fun r hm=>A3h (hrow r hm))
 exact⟨l,⟨hr.s,hl⟩,by simpa using lr⟩
theorem t50{H:Aaa}(n:Int):∃w K,Aau Tryz.prog 0 50 [.int .i64 n,.int .i64 7] H w K∧(∃m,w=.int .i64 m)∧K=H:=by
 refine Aaq Ben Bl0 ?_
 intro Q hq1 hq2
 have e7:(7:Int)≠0:=by omega
 simp(disch:=first|assumption|omega)only[f50,P4,seval,A7m,e7]
 exact hq2 _ _ ⟨_,rfl,⟨_,rfl⟩,rfl⟩
def fwB(p:CV):Bool:= !decide (20<((p.c.length:Nat):Int))&& !decide (20<((p.r.c.length:Nat):Int))
theorem t19{H:Aaa}{v:Value}{l:List CV}(h:CvL H v l)(hl:l.length≤9223372036854775807):∃w K,Aau Tryz.prog 0 19 [v,.int .i64 50] H w K∧(∃b,w=.bool b∧(b=true→l.length≤50∧∀p∈l,p.c.length≤20∧p.r.c.length≤20))∧K=H:=by
 refine Aaq Beh Blu ?_
 intro Q hq1 hq2
 have isv:=Sl.is h.s
 have lv:lenS v=l.length:=by have:=Sl.len h.s;simpa using this
 by_cases h50:(50:Int)<((l.length:Nat):Int)
 ·simp(disch:=first|assumption|omega)only[f19,P4,seval,isv,lv,h50]
  exact hq2 _ _ ⟨_,rfl,⟨false,rfl,fun e=>by cases e⟩,rfl⟩
 simp(disch:=first|assumption|omega)only[f19,P3,seval,Aak,Aat,isv,lv,h50]
 rw[Aah]
 refine Aan (fun q fr K=>∃i x5 x6,fr=[v,.int .i64 50,.bool false,.int .i64 ((i:Nat):Int),.bool false,x5,x6]∧K=H∧(∀j,j<i→fwB (l.getD j cv0)=true)∧i≤l.length∧q=l.length-i) l.length
  ⟨0,_,_,rfl,rfl,fun j hj=>absurd hj (by omega),by omega,rfl⟩ ?_
 rintro Q' q fr K ⟨i,x5,x6,rfl,rfl,hall,hi,rfl⟩ hn' hx' hret
 by_cases hlt:i<l.length
 ·obtain⟨nn,ra⟩:=h.at_ hlt
  have e0:(0:Int)≤(i:Int):=by omega
  have e1:(i:Int)<((l.length:Nat):Int):=by omega
  have hw:IntKind.i64.wrap ((i:Int)+1)=((i+1:Nat):Int):=by rw[Aae (by omega) (by omega)];simp
  have mem:l.getD i cv0∈l:=by rw[List.getD_eq_getElem?_getD,List.getElem?_eq_getElem hlt];exact List.getElem_mem hlt
  have oc:=h.c _ mem
  obtain⟨P,eP⟩:∃P,l.getD i cv0=P:=⟨_,rfl⟩
  rw[eP]at oc ra
  have m5:(Ad1 P)[5]? =some P.v:=rfl
  have m11:(Ad1 P)[11]? =some P.z:=rfl
  have isa:=Sl.is oc.a.s
  have isb:=Sl.is oc.b.s
  have la:lenS P.v=P.c.length:=by have:=Sl.len oc.a.s;simpa using this
  have lb:lenS P.z=P.r.c.length:=by have:=Sl.len oc.b.s;simpa using this
  by_cases c1:(20:Int)<((P.c.length:Nat):Int)
  ·simp(disch:=first|assumption|omega)only[P4,seval,isv,lv,e0,e1,nn,ra,Aal,m5,m11,isa,isb,la,lb,c1]
   exact hret _ _ (hq2 _ _ ⟨_,rfl,⟨false,rfl,fun e=>by cases e⟩,rfl⟩)
  by_cases c2:(20:Int)<((P.r.c.length:Nat):Int)
  ·simp(disch:=first|assumption|omega)only[P4,seval,isv,lv,e0,e1,nn,ra,Aal,m5,m11,isa,isb,la,lb,c1,c2]
   exact hret _ _ (hq2 _ _ ⟨_,rfl,⟨false,rfl,fun e=>by cases e⟩,rfl⟩)
  simp(disch:=first|assumption|omega)only[P4,seval,isv,lv,e0,e1,nn,ra,Aal,m5,m11,isa,isb,la,lb,c1,c2,hw]
  refine hn' _ _ _ ⟨i+1,_,_,rfl,rfl,fun j hj=>?_,by omega,rfl⟩ (by omega)
  rcases Nat.lt_or_ge j i with h|h
  ·exact hall j h
  ·have:j=i:=by omega
   subst this
   rw[eP]
   unfold fwB
   simp only[c1,c2];rfl
 ·have e1:¬(i:Int)<((l.length:Nat):Int):=by omega
  have hil:i=l.length:=by omega
  simp(disch:=first|assumption|omega)only[P4,seval,isv,lv,e1]
  refine hx' _ _ _ ?_
  simp(disch:=first|assumption|omega)only[P4,seval]
  refine hq2 _ _ ⟨_,rfl,⟨true,rfl,fun _=>⟨by omega,fun p hp=>?_⟩⟩,rfl⟩
  obtain⟨j,hj,rfl⟩:=List.getElem_of_mem hp
  have:=hall j (by omega)
  rw[List.getD_eq_getElem?_getD,List.getElem?_eq_getElem hj]at this
  unfold fwB at this
  simp at this
  omega
theorem t54{H:Aaa}(a b:Int)(f g:Nat→Bool):∃w K,Aau Tryz.prog 0 54 [.agg #[.int .i64 a,.int .i64 b,S64 f,S32 g],.agg #[.int .i64 a,.int .i64 b,S64 f,S32 g]] H w K∧w=.bool true∧K=H:=by
 refine gcb ?_
 refine Aaq Ber Bl4 ?_
 intro Q hq1 hq2
 have rg:∀(o r:Bool) (T:Nat),Adz (some (.cells o r 4 [.int .i64 a,.int .i64 b,S64 f,S32 g] T)) 2 2=some [S64 f,S32 g]:=fun _ _ _=>rfl
 have k:=((Aac.refl H).alloc (.cells true false 4 [.int .i64 a,.int .i64 b,S64 f,S32 g] 56)).alloc (.cells true false 4 [.int .i64 a,.int .i64 b,S64 f,S32 g] 130)
 simp(disch:=first|assumption|omega|(simp only[LN]<;>omega)|(simp(disch:=first|assumption|omega|(simp only[LN]<;>omega))only[Aab,Aad];assumption))only[f54,P4,seval,O4,rg,A6u]
 exact hq2 _ _ ⟨.bool true,rfl,rfl,k⟩
end Go.AM.Fd

set_option maxRecDepth 20000
namespace Go.AM.Fd
open Nat (reduceAdd reduceEqDiff reduceLT reduceLeDiff reduceMul reduceSub)
open Go.Proofs Go.AM.F
structure PD (W:Wd) (H:Aaa) (c sb:Nat) (wh:Int) (L:Ly) (d sd:Nat) (u:V4) (C:Ch):Prop where
 p:ChR W H c sb wh L C
 q:DhR H d sd u C
 wd:W.B.n≤d
 ws:W.B.n≤sd
section
variable {W:Wd} {H K:Aaa} {c sb:Nat} {wh:Int} {L:Ly} {d sd:Nat} {u:V4} {C:Ch}
theorem PD.keeps(h:PD W H c sb wh L d sd u C)(k:Aac H K):PD W K c sb wh L d sd u C:=⟨h.p.keeps k,h.q.keeps k,h.wd,h.ws⟩
theorem DhR.ty(h:DhR H d sd u C):∀b∈[d,sd],∀o r z C T,H.get b=some (.cells o r z C T)→(z=145∨z=20)∧T≠49:=by
 obtain⟨v,hv⟩:=h
 obtain⟨n,g,_⟩:=hv.g
 obtain⟨_,_,_,_,_,_,gs,_⟩:=hv.sd
 intro b hb o r z C T e
 simp only[List.mem_cons,List.not_mem_nil,or_false]at hb
 rcases hb with rfl|rfl
 ·rw[g]at e;cases e;exact⟨.inl rfl,by decide⟩
 ·rw[gs]at e;cases e;exact⟨.inr rfl,by decide⟩
theorem PD.ne(h:PD W H c sb wh L d sd u C):(c≠d∧c≠sd)∧sb≠d∧sb≠sd:=by
 obtain⟨v,hv⟩:=h.p
 obtain⟨_,_,_,ga,_⟩:=hv.sd
 obtain⟨x,hx⟩:=h.q
 obtain⟨n,g,_⟩:=hx.g
 obtain⟨_,_,_,_,_,_,gs,_⟩:=hx.sd
 have gc:=hv.g
 refine⟨⟨?_,?_⟩,?_,?_⟩
 ·rintro rfl;rw[gc]at g;cases g
 ·rintro rfl;rw[gc]at gs;cases gs
 ·rintro rfl;rw[ga]at g;cases g
 ·rintro rfl;rw[ga]at gs;cases gs
theorem DhR.lt(h:DhR H d sd u C):d<H.n∧sd<H.n:=by
 obtain⟨v,hv⟩:=h
 obtain⟨n,g,_⟩:=hv.g
 obtain⟨_,_,_,_,_,_,gs,_⟩:=hv.sd
 exact⟨Aaa.Bp9 g,Aaa.Bp9 gs⟩
theorem PD.oth(h:PD W H c sb wh L d sd u C)(k:Chg [c,sb] H K):DhR K d sd u C:=by
 obtain⟨⟨n1,n2⟩,n3,n4⟩:=h.ne
 obtain⟨v,hv⟩:=h.p
 obtain⟨x,hx⟩:=h.q
 refine⟨x,hx.oth k (by simp;omega) (by simp;omega) fun b hb o r z C T e=>(hv.o68 b hb o r z C T e).2.1⟩
theorem PD.both{M:Aaa}{C':Ch}{sb' sd':Nat}(h:PD W H c sb wh L d sd u C)(k:Chg [c,sb] H K)(hs:sb'=sb∨H.n≤sb')(hp:ChR W K c sb' wh L C')(hq:DhR M d sd' u C')(ht:sd'=sd∨K.n≤sd')(k2:Chg [d,sd] K M):PD W M c sb' wh L d sd' u C':=by
 obtain⟨⟨n1,n2⟩,n3,n4⟩:=h.ne
 have hd:=h.oth k
 have ty:=hd.ty
 have l2:=h.q.lt
 obtain⟨v,hv⟩:=hp
 have wk:=hv.w.n
 have hw:=h.ws
 have hwd:=h.wd
 refine⟨⟨v,hv.oth k2 (by simp;omega) (by simp;omega) (fun x hx=>?_) fun b hb o r z C T e=>?_⟩,hq,h.wd,by omega⟩
 ·simp only[List.mem_cons,List.not_mem_nil,or_false]at hx
  rcases hx with rfl|rfl
  ·exact .inr h.wd
  ·exact .inr h.ws
 ·obtain⟨a,b⟩:=ty b hb o r z C T e
  exact⟨by omega,by omega,b⟩
theorem PD.chg{M:Aaa}(h:PD W H c sb wh L d sd u C)(k:Chg [c,sb] H K)(k2:Chg [d,sd] K M):Chg [c,sb,d,sd] H M:=
 (k.mono (T:=[c,sb,d,sd]) (by simp)).trans k2 (by simp)
end
theorem Bji(L:Ly)(C:Ch):∃t a b f g e,thW L C=.tuple #[.agg (stl t).toArray,.agg #[.int .i64 a,.int .i64 b,S64 f,S32 g],.int .i64 e]:=by
 unfold thW
 split
 ·exact⟨thS L C,C.sd.cy,C.ep,_,_,0,rfl⟩
 ·exact⟨Abs,0,0,fun _=>false,fun _=>false,4,by rw[Ac2,Afn];rfl⟩
def DoR(W:Wd)(H:Aaa)(c sb:Nat)(wh:Int)(L:Ly)(d sd:Nat)(u:V4)(w:Value)(K:Aaa):Prop:=
 w=.bool true∧Chg [c,sb,d,sd] H K∧∃sb' sd' C',(sb'=sb∨H.n≤sb')∧(sd'=sd∨H.n≤sd')∧PD W K c sb' wh L d sd' u C'
theorem PD.fin{W:Wd}{H K0 K1 K2 K3 K4:Aaa}{c sb:Nat}{wh:Int}{L:Ly}{d sd:Nat}{u:V4}{C C':Ch}{sb' sd':Nat}(h0:PD W K0 c sb wh L d sd u C)(k0:Aac H K0)(k1:Chg [c,sb] K0 K1)(hs:sb'=sb∨H.n≤sb')(hp:ChR W K1 c sb' wh L C')(k2:Aac K1 K2)(k3:Chg [d,sd] K2 K3)(ht:sd'=sd∨K2.n≤sd')(hq:DhR K3 d sd' u C')(k4:Aac K3 K4)(hB:sb'=sb∨K0.n≤sb'):DoR W H c sb wh L d sd u (.bool true) K4:=by
 have c3:Chg [d,sd] K1 K3:=(k2.chg [d,sd]).trans k3 (fun x hx=>.inl hx)
 have n0:=k0.n
 have n1:=k1.n
 have n2:=k2.n
 have hq':=h0.both k1 hB hp hq (by omega) c3
 exact⟨rfl,((k0.chg _).trans (h0.chg k1 c3) (fun x hx=>.inl hx)).trans (k4.chg [c,sb,d,sd]) (fun x hx=>.inl hx),sb',sd',C',hs,by omega,hq'.keeps k4⟩
theorem A3i(L:Ly)(C:Ch)(cy:Int)(x:Inp){cs:List (Int×Int)}(h:cs.length≤1000):(bgR L C cy x cs).c.length≤1000:=by
 unfold bgR Aj8
 split
 ·split
  ·simp[R0]
  ·exact h
 ·simp[R0]
set_option maxHeartbeats 8000000 in
theorem t22{W:Wd}{B H:Aaa}{c sb:Nat}{wh:Int}{L:Ly}{d sd:Nat}{u:V4}{xs:List RV}{C:Ch}{p:CV}(h:PD W H c sb wh L d sd u C)(kB:Aac B H)(oB:(B.n≤c∧B.n≤sb)∧B.n≤d∧B.n≤sd)(hl:LyR B u xs L)(he:Aar L=0)(hw:wh=0∨wh=1)(o:CvO B p)(hc:p.c.length≤20∧p.r.c.length≤20):
 ∃w K,Aau Tryz.prog 0 22 [ptr c 0,ptr d 0,.agg (Ad1 p).toArray] H w K∧DoR W H c sb wh L d sd u w K:=by
 refine Aaq Bej Blw ?_
 intro Q hq1 hq2
 have len:=A96 p
 have cs:=cv_s p
 have c80:=Bjh p
 have oa:=Sl.one o.a.s
 have ob:=Sl.one o.b.s
 have one:(Ad1 p).all Value.oneCell'=true:=by
  unfold Ad1
  simp only[List.all_cons,List.all_append,Aaz,O4,oa,ob];rfl
 have c0:(Ad1 p)[0]? =some (.int .i64 p.k):=rfl
 have c1:(Ad1 p)[1]? =some (.int .i64 p.n):=rfl
 obtain⟨K0,hK0⟩:∃X,X=H.alloc (.cells true false 81 (Ad1 p) 71):=⟨_,rfl⟩
 have k0:Aac H K0:=by rw[hK0];exact(Aac.refl H).alloc _
 have n0:K0.n=H.n+1:=by rw[hK0];rfl
 have g0:K0.get H.n=some (.cells true false 81 (Ad1 p) 71):=by rw[hK0];exact Aaa.Bp6 H _
 have l0:=Aaa.Bp9 g0
 have lp:=h.p.lt
 have lq:=h.q.lt
 have h0:=h.keeps k0
 have b0:=kB.trans k0
 have o0:=o.keeps b0
 have bad:DoR W H c sb wh L d sd u (.bool true) K0:=⟨rfl,k0.chg _,sb,sd,C,.inl rfl,.inl rfl,h0⟩
 simp(disch:=first|assumption|omega)only[f22,P4,seval,one,len]
 rw[←hK0]
 simp(disch:=first|assumption|omega)only[P4,seval,g0,c0]
 refine Aag (t50 _) ?_
 rintro _ X ⟨⟨m,rfl⟩,hX⟩
 rw[hX]
 have be:∀x:Int,(x==x)=true:=fun x=>by simp
 by_cases m0:m=0
 ·subst m0
  have tB:=t13 h0.p p.n (x:=p.x) o0.a (by omega) o.ka
  have ix:inl p.x p.v=[S64 p.x.oc,S32 p.x.nr,S32 p.x.rv,p.v]:=rfl
  have t2:((Ad1 p).drop 2).take 4=[S64 p.x.oc,S32 p.x.nr,S32 p.x.rv,p.v]:=rfl
  rw[ix]at tB
  obtain⟨R,hR⟩:∃R,R=bgR L C p.n p.x p.c:=⟨_,rfl⟩
  have RL:R.c.length≤1000:=by rw[hR];exact A3i L C p.n p.x (by omega)
  rw[←hR]at tB
  simp(disch:=first|assumption|omega)only[P3,seval,Aak,Aat,g0,c0,c1]
  rw[Aah]
  simp(disch:=first|assumption|omega)only[P4,seval,g0,c0,c1,t2]
  refine Aag tB ?_
  rintro _ K1 ⟨k1,hp,y1,rfl,hy1⟩
  have er:∀y,rdl R y=[.int .i64 R.ch,.int .i64 R.cy,S64 R.x.oc,S32 R.x.nr,S32 R.x.rv,y]:=fun _=>rfl
  have oy1:=Sl.one hy1.s
  have g1:=k1.at_ g0 (by simp;omega)
  have n1:=k1.n
  have b1:=b0.Bqa k1 (by simp;omega)
  obtain⟨K2,hK2⟩:∃X,X=K1.alloc (.cells true false 6 (rdl R y1) 49):=⟨_,rfl⟩
  have k2:Aac K1 K2:=by rw[hK2];exact(Aac.refl _).alloc _
  have gr2:K2.get K1.n=some (.cells true false 6 (rdl R y1) 49):=by rw[hK2];exact Aaa.Bp6 K1 _
  have g2:=k2.at_ g1
  have b2:=b1.trans k2
  have hd2:=(h0.oth k1).keeps k2
  have tD:=t51 hd2 (hl.keeps b2) he p.n (x:=p.x) (o.keeps b2).a (by omega) o.ka
  rw[←hR,ix]at tD
  rw[er]at hK2 gr2 ⊢
  simp(disch:=first|assumption|omega|(simp only[LN]<;>omega)|(simp(disch:=first|assumption|omega|(simp only[LN]<;>omega))only[Aab,Aad];assumption))only[P4,seval,oy1,g1,c1,t2,O4]
  rw[←hK2]
  refine Aag tD ?_
  rintro _ K3 ⟨k3,hq,y3,rfl,hy3⟩
  have oy3:=Sl.one hy3.s
  have n2:=k2.n
  have n3:=k3.n
  have gr3:=k3.at_ gr2 (by simp;omega)
  have hy1':=(hy1.keeps k2).oth k3 (fun b hb o r z C T e=>by have:=(hd2.ty b hb o r z C T e).1;omega)
  obtain⟨K4,hK4⟩:∃X,X=K3.alloc (.cells true false 6 (rdl R y3) 126):=⟨_,rfl⟩
  have k4:Aac K3 K4:=by rw[hK4];exact(Aac.refl _).alloc _
  have gr4:K4.get K3.n=some (.cells true false 6 (rdl R y3) 126):=by rw[hK4];exact Aaa.Bp6 K3 _
  have gr4':=k4.at_ gr3
  have l3:=Aaa.Bp9 gr3
  have tS:=t25 (x:=R.x) (y:=R.x) (hy1'.keeps k4).s (hy3.keeps k4).s (by omega) (by omega)
  rw[Ay9]at tS
  have ir:∀y,inl R.x y=[S64 R.x.oc,S32 R.x.nr,S32 R.x.rv,y]:=fun _=>rfl
  simp only[ir]at tS
  rw[er]at hK4 gr4 ⊢
  have rg:∀(y:Value) (o r:Bool) (T:Nat),Adz (some (.cells o r 6 [.int .i64 R.ch,.int .i64 R.cy,S64 R.x.oc,S32 R.x.nr,S32 R.x.rv,y] T)) 2 4=some [S64 R.x.oc,S32 R.x.nr,S32 R.x.rv,y]:=fun _ _ _ _=>rfl
  simp(disch:=first|assumption|omega|(simp only[LN]<;>omega)|(simp(disch:=first|assumption|omega|(simp only[LN]<;>omega))only[Aab,Aad];assumption))only[P4,seval,oy3,O4,gr3]
  rw[←hK4]
  refine Aag tS ?_
  rintro _ X ⟨rfl,hX⟩
  rw[hX]
  simp(disch:=first|assumption|omega)only[P4,seval]
  exact hq2 _ _ ⟨_,rfl,h0.fin k0 k1 (.inl rfl) hp k2 k3 (.inl rfl) hq k4 (.inl rfl)⟩
 have e0:(m==0)=false:=by simpa using m0
 by_cases m1:m=1
 ·subst m1
  have okr:ROk p.r:=⟨by omega,o.kb⟩
  have tH:=t14 h0.p okr o0.b
  have er:∀y,rdl p.r y=[.int .i64 p.r.ch,.int .i64 p.r.cy,S64 p.r.x.oc,S32 p.r.x.nr,S32 p.r.x.rv,y]:=fun _=>rfl
  have t6:((Ad1 p).drop 6).take 6=[.int .i64 p.r.ch,.int .i64 p.r.cy,S64 p.r.x.oc,S32 p.r.x.nr,S32 p.r.x.rv,p.z]:=rfl
  have t8:((Ad1 p).drop 8).take 4=[S64 p.r.x.oc,S32 p.r.x.nr,S32 p.r.x.rv,p.z]:=rfl
  have c6:(Ad1 p)[6]? =some (.int .i64 p.r.ch):=rfl
  have c7:(Ad1 p)[7]? =some (.int .i64 p.r.cy):=rfl
  rw[er]at tH
  simp(disch:=first|assumption|omega)only[P3,seval,Aak,Aat]
  rw[Aah]
  simp(disch:=first|assumption|omega)only[P4,seval,g0,t6]
  refine Aag tH ?_
  rintro _ K1 ⟨rfl,k1,hp⟩
  have g1:=k1.at_ g0 (by simp;omega)
  have b1:=b0.Bqa k1 (by simp;omega)
  have tD:=t52 (h0.oth k1) (hl.keeps b1) he okr (o.keeps b1).b
  rw[er]at tD
  have fl:Aa4 [.int .i64 0,.int .i64 0,.int .u64 0,.int .u32 0,.int .u32 0,.slice none 0 0] [(0,1,.int .i64 p.r.ch),(1,1,.int .i64 p.r.cy),(2,4,.agg #[S64 p.r.x.oc,S32 p.r.x.nr,S32 p.r.x.rv,p.z])]=some [.int .i64 p.r.ch,.int .i64 p.r.cy,S64 p.r.x.oc,S32 p.r.x.nr,S32 p.r.x.rv,p.z]:=rfl
  simp(disch:=first|assumption|omega)only[P4,seval,g1,c6,c7,t8,fl]
  refine⟨g0.symm,g0.symm,g0.symm,Aag tD ?_⟩
  rintro _ K2 ⟨rfl,k2,hq⟩
  simp(disch:=first|assumption|omega)only[P4,seval,be]
  exact hq2 _ _ ⟨_,rfl,h0.fin k0 k1 (.inl rfl) hp (Aac.refl _) k2 (.inl rfl) hq (Aac.refl _) (.inl rfl)⟩
 have e1:(m==1)=false:=by simpa using m1
 by_cases m2:m=2
 ·subst m2
  obtain⟨t,a,b,f,g,e,ew⟩:=Bji L C
  have tA:=t15 h0.p he
  rw[ew]at tA
  simp(disch:=first|assumption|omega)only[P3,seval,Aak,Aat]
  rw[Aah]
  simp(disch:=first|assumption|omega)only[P4,seval]
  refine Aag tA ?_
  rintro _ K1 ⟨rfl,k1,hp⟩
  have b1:=b0.Bqa k1 (by simp;omega)
  obtain⟨K2,hK2⟩:∃X,X=(K1.alloc (.cells true false 68 (stl t) 43)).alloc (.cells true false 4 [.int .i64 a,.int .i64 b,S64 f,S32 g] 56):=⟨_,rfl⟩
  have k2:Aac K1 K2:=by rw[hK2];exact((Aac.refl _).alloc _).alloc _
  have gs2:K2.get K1.n=some (.cells true false 68 (stl t) 43):=by rw[hK2];exact((Aac.refl _).alloc _).at_ (Aaa.Bp6 K1 _)
  have gf2:K2.get (K1.n+1)=some (.cells true false 4 [.int .i64 a,.int .i64 b,S64 f,S32 g] 56):=by rw[hK2];exact Aaa.Bp6 (K1.alloc _) _
  have hd2:=(h0.oth k1).keeps k2
  have n1:=k1.n
  have n2:=k2.n
  have tD:=t53 hd2 (hl.keeps (b1.trans k2)) he
  rw[ew]at tD
  simp(disch:=first|assumption|omega|(simp only[LN]<;>omega)|(simp(disch:=first|assumption|omega|(simp only[LN]<;>omega))only[Aab,Aad];assumption))only[P4,seval,Ajt,Aaz,Aaj,Abh,O4]
  rw[←hK2]
  refine Aag tD ?_
  rintro _ K3 ⟨rfl,k3,hq⟩
  have n3:=k3.n
  have ls:=Aaa.Bp9 gs2
  have lf:=Aaa.Bp9 gf2
  have gs3:=k3.at_ gs2 (by simp;omega)
  have gf3:=k3.at_ gf2 (by simp;omega)
  obtain⟨K4,hK4⟩:∃X,X=(K3.alloc (.cells true false 68 (stl t) 43)).alloc (.cells true false 4 [.int .i64 a,.int .i64 b,S64 f,S32 g] 130):=⟨_,rfl⟩
  have k4:Aac K3 K4:=by rw[hK4];exact((Aac.refl _).alloc _).alloc _
  have gs4:K4.get K3.n=some (.cells true false 68 (stl t) 43):=by rw[hK4];exact((Aac.refl _).alloc _).at_ (Aaa.Bp6 K3 _)
  have gf4:K4.get (K3.n+1)=some (.cells true false 4 [.int .i64 a,.int .i64 b,S64 f,S32 g] 130):=by rw[hK4];exact Aaa.Bp6 (K3.alloc _) _
  have gs4':=k4.at_ gs3
  have gf4':=k4.at_ gf3
  have eqs:∀K,Aam (.eqs Bls false (.agg (stl t).toArray) (.agg (stl t).toArray)) K=some (.bool true,K):=fun K=>(Alg K false t t).trans (by rw[Amo];rfl)
  simp(disch:=first|assumption|omega|(simp only[LN]<;>omega)|(simp(disch:=first|assumption|omega|(simp only[LN]<;>omega))only[Aab,Aad];assumption))only[P4,seval,Ajt,Aaz,Aaj,Abh,O4,gs3,gf3,gs4,gs4',gf4,gf4',Abc,Abx,eqs]
  rw[←hK4]
  refine Aaw (t54 a b f g) ?_
  simp(disch:=first|assumption|omega)only[P4,seval,be]
  exact hq2 _ _ ⟨_,rfl,h0.fin k0 k1 (.inl rfl) hp k2 k3 (.inl rfl) hq k4 (.inl rfl)⟩
 have e2:(m==2)=false:=by simpa using m2
 by_cases m3:m=3
 ·subst m3
  simp(disch:=first|assumption|omega)only[P3,seval,Aak,Aat]
  rw[Aah]
  simp(disch:=first|assumption|omega)only[P4,seval]
  refine Aag (t17 h0.p) ?_
  rintro _ K1 ⟨rfl,k1,hp⟩
  simp(disch:=first|assumption|omega)only[P4,seval]
  refine Aag (t55 (h0.oth k1)) ?_
  rintro _ K2 ⟨rfl,k2,hq⟩
  simp(disch:=first|assumption|omega)only[P4,seval,be]
  exact hq2 _ _ ⟨_,rfl,h0.fin k0 k1 (.inl rfl) hp (Aac.refl _) k2 (.inl rfl) hq (Aac.refl _) (.inl rfl)⟩
 have e3:(m==3)=false:=by simpa using m3
 by_cases m4:m=4
 ·subst m4
  have t12:((Ad1 p).drop 12).take 68=stl p.s:=cs
  simp(disch:=first|assumption|omega)only[P3,seval,Aak,Aat]
  rw[Aah]
  have rgc:∀(o r:Bool) (T:Nat),Adz (some (.cells o r 81 (Ad1 p) T)) 12 68=some (stl p.s):=fun _ _ _=>by rw[←cs];rfl
  simp(disch:=first|assumption|omega)only[P4,seval,g0,cs]
  refine Aag (t26 h0.p p.s) ?_
  rintro _ K1 ⟨rfl,k1,hp⟩
  have g1:=k1.at_ g0 (by simp;omega)
  obtain⟨x,hx⟩:=h0.oth k1
  obtain⟨n,gd,hn⟩:=hx.g
  have ld:=Aaa.Bp9 gd
  have ms:=A3b x C.s n
  have lenD:=Adh x C.s n
  have sS:=Azo x C.s n (At1 C.s p.s)
  simp(disch:=first|assumption|omega)only[P4,seval,g1,cs,gd,ms]
  refine Aaw (t56 K1 C.s p.s) ?_
  have cS:=Chg.set K1 ld (.cells true false 145 (dhl x (At1 C.s p.s) n) 74)
  have hne:=hx.ne
  have hq:DhR (K1.set d (.cells true false 145 (dhl x (At1 C.s p.s) n) 74)) d sd u {C with s:=At1 C.s p.s}:=⟨x,hx.e,⟨n,Aaa.Bp7 gd _,hn⟩,hx.sd.oth cS (by simpa using fun e=>hne e.symm) hx.o2,hx.ok⟩
  simp(disch:=first|assumption|omega)only[P4,seval,gd,Aaz,Aaj,lenD,sS]
  exact hq2 _ _ ⟨_,rfl,h0.fin k0 k1 (.inl rfl) hp (Aac.refl _) (cS.mono (by simp)) (.inl rfl) hq (Aac.refl _) (.inl rfl)⟩
 have e4:(m==4)=false:=by simpa using m4
 by_cases m5:m=5
 ·subst m5
  have ech:C.sd.ch=wh:=by obtain⟨v,hv⟩:=h0.p;exact hv.ch
  simp(disch:=first|assumption|omega)only[P3,seval,Aak,Aat]
  rw[Aah]
  simp(disch:=first|assumption|omega)only[P4,seval,g0,c1,cs,c80]
  refine Aag (t11 h0.p hw he p.s p.ep p.n) ?_
  rintro _ K1 ⟨rfl,k1,sb',hs,hp⟩
  have g1:=k1.at_ g0 (by simp;omega)
  have b1:=b0.Bqa k1 (by simp;omega)
  have tD:=t57 (h0.oth k1) (hl.keeps b1) he p.s p.ep p.n
  rw[ech]at tD
  simp(disch:=first|assumption|omega)only[P4,seval,g1,c1,cs,c80]
  refine⟨g0.symm,g0.symm,g0.symm,Aag tD ?_⟩
  rintro _ K2 ⟨rfl,k2,sd',ht,hq⟩
  simp(disch:=first|assumption|omega)only[P4,seval,be]
  exact hq2 _ _ ⟨_,rfl,h0.fin k0 k1 (by omega) hp (Aac.refl _) k2 ht hq (Aac.refl _) hs⟩
 have e5:(m==5)=false:=by simpa using m5
 simp(disch:=first|assumption|omega)only[P3,seval,Aak,Aat,e0,e1,e2,e3,e4,e5]
 rw[Aah]
 simp(disch:=first|assumption|omega)only[P4,seval,e0,e1,e2,e3,e4,e5]
 refine Aag (u14 h0.p (.inr ⟨_,rfl⟩)) ?_
 rintro _ K1 ⟨rfl,k1⟩
 simp(disch:=first|assumption|omega)only[P4,seval]
 refine Aag (u14 (h0.p.keeps k1) (.inl rfl)) ?_
 rintro _ K2 ⟨rfl,k2⟩
 simp(disch:=first|assumption|omega)only[P4,seval]
 exact hq2 _ _ ⟨_,rfl,h0.fin k0 (k1.chg _) (.inl rfl) (h0.p.keeps k1) k2 (Chg.refl _ _) (.inl rfl) ((h0.q.keeps k1).keeps k2) (Aac.refl _) (.inl rfl)⟩
end Go.AM.Fd

set_option maxRecDepth 20000
namespace Go.AM.Fd
open Nat (reduceAdd reduceEqDiff reduceLT reduceLeDiff reduceMul reduceSub)
open Go.Proofs Go.AM.F
set_option maxHeartbeats 16000000 in
theorem t4{H:Aaa}{u:V4}{xs:List RV}{L:Ly}(hl:LyR H u xs L)(hi:Aih 9223372036854775807 L){vc:Value}{lc:List CV}(hc:CvL H vc lc)(hlc:lc.length≤9223372036854775807)(wh:Int):
 ∃w K,Aau Tryz.prog 0 4 [.int .i64 wh,.agg u.l.toArray,vc] H w K∧w=.bool true∧Aac H K:=by
 refine Aaq Blt f4_n ?_
 intro Q hq1 hq2
 have ho:=Avb hl
 have ll:u.l.length=4:=rfl
 have isc:=Sl.is hc.s
 have lnc:lenS vc=lc.length:=by have:=Sl.len hc.s;simpa using this
 obtain⟨K0,hK0⟩:∃X,X=H.alloc (.cells true false 4 u.l 27):=⟨_,rfl⟩
 have k0:Aac H K0:=by rw[hK0];exact(Aac.refl H).alloc _
 have n0:K0.n=H.n+1:=by rw[hK0];rfl
 have gl0:K0.get H.n=some (.cells true false 4 u.l 27):=by rw[hK0];exact Aaa.Bp6 H _
 have hl0:=hl.keeps k0
 have hc0:=hc.keeps k0
 have works:∀{K:Aaa} {KF:Value→Aaa→Prop},(KF (.bool true) K)→∃w V,Aau Tryz.prog 0 8 [] K w V∧KF w V:=fun{K KF} h=>by
  obtain⟨_,_,a,rfl,rfl⟩:=t8 K
  exact⟨_,_,a,h⟩
 simp(disch:=first|assumption|omega)only[f4,P4,seval,ho,ll]
 rw[←hK0]
 refine Aag (t7 (top:=300) (by omega) hl0 hi) ?_
 rintro _ X ⟨⟨nw,rfl⟩,hX⟩
 rw[hX]
 by_cases hw:(300:Int)<nw
 ·simp(disch:=first|assumption|omega)only[P4,seval,hw]
  refine works ?_
  simp(disch:=first|assumption|omega)only[P4,seval]
  exact hq2 _ _ ⟨.bool true,rfl,rfl,k0⟩
 simp(disch:=first|assumption|omega)only[P4,seval,hw]
 refine Aag (t19 hc0 hlc) ?_
 rintro _ X ⟨⟨b,rfl,hb⟩,hX⟩
 rw[hX]
 cases b with
 |false=>
  simp(disch:=first|assumption|omega)only[P4,seval]
  refine works ?_
  simp(disch:=first|assumption|omega)only[P4,seval]
  exact hq2 _ _ ⟨.bool true,rfl,rfl,k0⟩
 |true=>
 obtain⟨l50,l20⟩:=hb rfl
 simp(disch:=first|assumption|omega)only[P4,seval,gl0,Abx,ll]
 obtain⟨_,K1,r1,k1,e1,e2⟩:=t9 (wh:=wh) hl0 hi
 have gl1:=k1.at_ gl0
 have tC:=t20 (hl0.keeps k1) hi
 have bi:∀x:Int,(x==x)=true:=fun x=>by simp
 have bn:∀x:Int,(x != x)=false:=fun x=>by simp
 by_cases hv:wh=0∨wh=1
 case neg=>
  rw[e1 hv]at r1
  refine⟨_,_,r1,?_⟩
  have h0:(wh != 0)=true:=by simp;omega
  have h1:(wh != 1)=true:=by simp;omega
  simp(disch:=first|assumption|omega)only[P4,seval,gl1,Abx,ll]
  refine Aag tC ?_
  rintro _ X ⟨hX,ie,rfl⟩
  rw[hX]
  simp(disch:=first|assumption|omega)only[P4,seval,h0,h1]
  refine works ?_
  simp(disch:=first|assumption|omega)only[P4,seval]
  exact hq2 _ _ ⟨.bool true,rfl,rfl,k0.trans k1⟩
 by_cases he:Aar L=0
 case neg=>
  rw[(e2 hv).1 he]at r1
  have ne:(Aar L != 0)=true:=by simp[he]
  refine⟨_,_,r1,?_⟩
  rcases hv with rfl|rfl
  all_goals
   simp(disch:=first|assumption|omega)only[P4,seval,gl1,Abx,ll]
   refine Aag tC ?_
   rintro _ X ⟨hX,ie,rfl⟩
   rw[hX]
   simp(disch:=first|assumption|omega)only[P4,seval,ne,bn]
   refine works ?_
   simp(disch:=first|assumption|omega)only[P4,seval]
   exact hq2 _ _ ⟨.bool true,rfl,rfl,k0.trans k1⟩
 clear r1 k1 e1 e2 gl1 tC
 refine Aag (u9 (wh:=wh) hl0 hi hv he) ?_
 rintro _ K1 ⟨c,sb,v,rfl,nc⟩
 have gl1:=nc.k.at_ gl0
 have hl1:=hl0.keeps nc.k
 have tC:=t20 hl1 hi
 rw[he]at tC
 have tN:=t21 hl1 wh
 rcases hv with rfl|rfl
 all_goals
  simp(disch:=first|assumption|omega)only[P4,seval,gl1,Abx,ll]
  refine Aag tC ?_
  rintro _ X ⟨hX,ie,rfl⟩
  rw[hX]
  simp(disch:=first|assumption|omega)only[P4,seval,gl1,Abx,ll]
  refine Aag tN ?_
  rintro _ K2 ⟨k2,d,sd,rfl,ld,lsd,hD⟩
  have hp:=nc.one
  have lc1:=nc.lc
  have ls1:=nc.ls
  have n1:=nc.k.n
  obtain⟨W,hW⟩:∃W:Wd,W=⟨K1,[c,sb]⟩:=⟨_,rfl⟩
  have hWn:W.B.n=K1.n:=by rw[hW]
  rw[←hW]at hp
  have pd:=PD.mk (hp.keeps k2) hD (by omega) (by omega)
  have kk:=nc.k.trans k2
  simp(disch:=first|assumption|omega)only[P3,seval,Aak,Aat]
  rw[Aah]
  obtain⟨A0,hA0⟩:∃z:Value,z=.agg u.l.toArray:=⟨_,rfl⟩
  rw[←hA0]
  refine Aan (fun q fr K=>∃i x10 x11 x12 x13 x18 x19 x20 sb sd C,fr=[.int .i64 _,A0,vc,ptr H.n 0,.bool false,ptr c 0,.int .i64 0,.int .i64 0,ptr d 0,.int .i64 ((i:Nat):Int),x10,x11,x12,x13,.bool false,.bool false,.bool false,.bool false,x18,x19,x20]∧
   PD W K c sb _ L d sd u C∧Aac K0 K∧((K0.n≤c∧K0.n≤sb)∧K0.n≤d∧K0.n≤sd)∧i≤lc.length∧q=lc.length-i) lc.length
   ⟨0,_,_,_,_,_,_,_,sb,sd,_,rfl,pd,kk,by omega,by omega,rfl⟩ ?_
  rintro Q' q fr K ⟨i,x10,x11,x12,x13,x18,x19,x20,sb,sd,C,rfl,pd,kK,oB,hi2,rfl⟩ hn' hx' hret
  by_cases hlt:i<lc.length
  case neg=>
   have e1:¬(i:Int)<((lc.length:Nat):Int):=by omega
   simp(disch:=first|assumption|omega)only[P4,seval,isc,lnc,e1]
   refine hx' _ _ _ ?_
   simp(disch:=first|assumption|omega)only[P4,seval]
   refine works ?_
   simp(disch:=first|assumption|omega)only[P4,seval]
   exact hq2 _ _ ⟨.bool true,rfl,rfl,k0.trans kK⟩
  have e1:(i:Int)<((lc.length:Nat):Int):=by omega
  have e0:(0:Int)≤(i:Int):=by omega
  have hwr:IntKind.i64.wrap ((i:Int)+1)=((i+1:Nat):Int):=by rw[Aae (by omega) (by omega)];omega
  obtain⟨nn,ra⟩:=(hc0.keeps kK).at_ hlt
  have mem:lc.getD i cv0∈lc:=by rw[List.getD_eq_getElem?_getD,List.getElem?_eq_getElem hlt];exact List.getElem_mem hlt
  have oc:=hc0.c _ mem
  have l2:=l20 _ mem
  generalize lc.getD i cv0=P at*
  simp(disch:=first|assumption|omega)only[P4,seval,isc,lnc,e0,e1,nn,ra,Aai]
  refine Aag (t22 pd kK oB hl0 he (by omega) oc l2) ?_
  rintro _ K3 ⟨rfl,c3,sb3,sd3,C3,hs3,ht3,pd3⟩
  have kB3:=kK.Bqa c3 (by simp;omega)
  have oB3:(K0.n≤c∧K0.n≤sb3)∧K0.n≤d∧K0.n≤sd3:=by have:=kK.n;omega
  have hqd:=pd3.q
  obtain⟨x,hx⟩:=hqd
  obtain⟨n,gd,hn⟩:=hx.g
  obtain⟨v1,v2,v3,v4,v5,v6⟩:=hx.e
  have ms:=A3b x C3.s n
  have m73:=Ak9 x C3.s n
  rw[v2]at m73
  have eqs:∀K,Aam (.eqs Bls true (.agg (stl C3.s).toArray) (.agg (stl C3.s).toArray)) K=some (.bool false,K):=fun K=>(Alg K true C3.s C3.s).trans (by rw[Amo];rfl)
  simp(disch:=first|assumption|omega)only[P4,seval]
  refine Aaw (t18 pd3.p) ?_
  have lenD:=Adh x C3.s n
  have ldd:=Aaa.Bp9 gd
  simp(disch:=first|assumption|omega)only[P4,seval,gd,ms,lenD,eqs]
  refine Aag (t23 pd3.p) ?_
  rintro _ K4 ⟨z4,rfl,m4⟩
  have inz:∀z,inl (Ab1 C3.sd) z=[S64 (Ab1 C3.sd).oc,S32 (Ab1 C3.sd).nr,S32 (Ab1 C3.sd).rv,z]:=fun _=>rfl
  have mok:=Aol hx.ok
  rw[inz]
  have oz4:=Sl.one m4.c.s
  obtain⟨K5,hK5⟩:∃X,X=K4.alloc (.cells true false 4 [S64 (Ab1 C3.sd).oc,S32 (Ab1 C3.sd).nr,S32 (Ab1 C3.sd).rv,z4] 46):=⟨_,rfl⟩
  have k5:Aac K4 K5:=by rw[hK5];exact(Aac.refl _).alloc _
  have gi5:K5.get K4.n=some (.cells true false 4 [S64 (Ab1 C3.sd).oc,S32 (Ab1 C3.sd).nr,S32 (Ab1 C3.sd).rv,z4] 46):=by rw[hK5];exact Aaa.Bp6 K4 _
  have gd4:=m4.k.at_ gd
  have gd5:=k5.at_ gd4
  have tM:=t24 (hx.sd.keeps (m4.k.trans k5)) hx.ok
  simp(disch:=first|assumption|omega|(simp only[LN]<;>omega)|(simp(disch:=first|assumption|omega|(simp only[LN]<;>omega))only[Aab,Aad];assumption))only[P4,seval,oz4,O4,gd4,lenD,m73]
  rw[←hK5]
  simp(disch:=first|assumption|omega)only[P4,seval,gd5,lenD,m73]
  refine Aag tM ?_
  rintro _ K6 ⟨z6,rfl,m6⟩
  rw[inz]
  have oz6:=Sl.one m6.c.s
  have gi6:=m6.k.at_ gi5
  obtain⟨K7,hK7⟩:∃X,X=K6.alloc (.cells true false 4 [S64 (Ab1 C3.sd).oc,S32 (Ab1 C3.sd).nr,S32 (Ab1 C3.sd).rv,z6] 46):=⟨_,rfl⟩
  have k7:Aac K6 K7:=by rw[hK7];exact(Aac.refl _).alloc _
  have gi7:=k7.at_ gi6
  have gj7:K7.get K6.n=some (.cells true false 4 [S64 (Ab1 C3.sd).oc,S32 (Ab1 C3.sd).nr,S32 (Ab1 C3.sd).rv,z6] 46):=by rw[hK7];exact Aaa.Bp6 K6 _
  have li6:=Aaa.Bp9 gi6
  have tS:=t25 (x:=Ab1 C3.sd) (y:=Ab1 C3.sd) ((m4.c.keeps k5).keeps (m6.k.trans k7)).s (m6.c.keeps k7).s (by omega) (by omega)
  rw[Ay9,inz,inz]at tS
  have rg:∀(y:Value) (o r:Bool) (T:Nat),Adz (some (.cells o r 4 [S64 (Ab1 C3.sd).oc,S32 (Ab1 C3.sd).nr,S32 (Ab1 C3.sd).rv,y] T)) 0 4=some [S64 (Ab1 C3.sd).oc,S32 (Ab1 C3.sd).nr,S32 (Ab1 C3.sd).rv,y]:=fun _ _ _ _=>rfl
  have bb:(Aj9 C3.sd==Aj9 C3.sd)=true:=by simp
  simp(disch:=first|assumption|omega|(simp only[LN]<;>omega)|(simp(disch:=first|assumption|omega|(simp only[LN]<;>omega))only[Aab,Aad];assumption))only[P4,seval,oz6,O4,gi6,bb,rg]
  rw[←hK7]
  refine Aag tS ?_
  rintro _ X ⟨rfl,hX⟩
  rw[hX]
  have kA:=((m4.k.trans k5).trans m6.k).trans k7
  simp(disch:=first|assumption|omega)only[P4,seval,hwr]
  exact hn' _ _ _ ⟨i+1,_,_,_,_,_,_,_,sb3,sd3,C3,rfl,pd3.keeps kA,kB3.trans kA,oB3,by omega,rfl⟩ (by omega)
theorem lawCPlays:∀H args,Akr H→AVs Tryz.prog H.get [3,27,63] args→∃H',Aau Tryz.prog 0 4 args H (.bool true) H':=by
 intro H args _ h
 match args,h with
 |[e,y,v],⟨h1,h2,h3,_⟩=>
  obtain⟨n,rfl,_⟩:=h1.int_inv (k:=.i64) (by kernel_rfl)
  obtain⟨u,xs,L,rfl,hl,hin⟩:=Bi2 h2
  obtain⟨l,hc,hle⟩:=Axx h3
  obtain⟨_,K,r,rfl,_⟩:=t4 hl hin hc hle n
  exact⟨K,r⟩
end Go.AM.Fd
