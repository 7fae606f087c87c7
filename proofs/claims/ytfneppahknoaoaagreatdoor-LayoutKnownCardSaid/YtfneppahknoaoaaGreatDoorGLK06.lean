/- Part of the proof. -/
import Derived.Test.YtfneppahknoaoaaGreatDoorGLK05
set_option linter.unusedSimpArgs false
set_option linter.unusedVariables false
namespace Go.AM.Fd
open Nat (reduceAdd reduceEqDiff reduceLT reduceLeDiff reduceMul reduceSub)
open Go.Proofs Go.AM.F
theorem flat_take{s:List UInt8}{i:Nat}(h:i<s.length):(s.take (i+1)).flatMap nF=(s.take i).flatMap nF++nF (s.getD i 0):=by
 rw[List.take_add_one,List.getElem?_eq_getElem h,List.flatMap_append]
 simp[List.getD,List.getElem?_eq_getElem h]
theorem flat_len:∀s:List UInt8,(s.flatMap nF).length≤8*s.length
 |[]=>by simp
 |x::s=>by
  have:=flat_len s
  simp only[List.flatMap_cons,List.length_append,List.length_cons]
  have:(nF x).length≤8:=by unfold nF;split<;>(try split)<;>simp
  omega
theorem parseG_num(f:Ly→List UInt8→Int×Ly):∀(ls:List (List UInt8)) (L:Ly) (i:Nat),(parseG f L ls i).2.2 ≤i+ls.length
 |[],L,i=>by simp[parseG]
 |l::ls,L,i=>by
  simp only[parseG]
  split
  ·have:=parseG_num f ls (f L l).2 (i+1);simp;omega
  ·simp
set_option maxHeartbeats 2000000 in
theorem t7L(H:AHeap){s:List UInt8}(hs:s.length≤9223372036854775807):∃w H',ARun Tryz.prog 4 7 [.string ⟨s.toArray⟩] H w H'∧w=.bool true:=by
 refine walk2 f7_ok f7_n ?_
 intro Q hq1 hq2
 by_cases hm:1500<s.length
 ·have e1:(1500:Int)<((s.length:Nat):Int):=by omega
  simp(disch:=first|assumption|omega)only[f7,W_block,P3,seval,initFr,clsA,a_lens]
  refine callK (t10 _) ?_
  rintro _ K ⟨rfl,k⟩
  simp(disch:=first|assumption|omega)only[W_block,P3,seval,initFr,clsA]
  exact hq2 _ _ ⟨_,rfl,rfl⟩
 have e1:¬(1500:Int)<((s.length:Nat):Int):=by omega
 simp(disch:=first|assumption|omega)only[f7,P3,seval,initFr,clsA,a_lens]
 rw[W_block]
 refine W_loop2 (fun k fr K=>∃i x4 x5 x6 x7 x8 x9 x11 x12 x13,fr=[.string ⟨s.toArray⟩,.bool false,.string ⟨(nPre++[10]++(s.take i).flatMap nF).toArray⟩,.int .i64 ((i:Nat):Int),x4,x5,x6,x7,x8,x9,.bool false,x11,x12,x13]∧K=H∧i≤s.length∧k=s.length-i) s.length
  ⟨0,_,_,_,_,_,_,_,_,_,rfl,rfl,by omega,rfl⟩ ?_
 rintro Q' k fr K ⟨i,x4,x5,x6,x7,x8,x9,x11,x12,x13,rfl,rfl,hi,rfl⟩ hn hx hret
 by_cases hlt:i<s.length
 ·have h0:(0:Int)≤(i:Int):=by omega
  have h3:(i:Int)<((s.length:Nat):Int):=by omega
  have hw:IntKind.i64.wrap ((i:Int)+1)=((i+1:Nat):Int):=by rw[wrap_i64 (by omega) (by omega)];simp
  have hix:∀X,asem (.idxs (.string ⟨s.toArray⟩) (.int .i64 ((i:Nat):Int))) X=some (.int .u8 ((s.getD i 0).toNat:Nat),X):=fun X=>a_idxS hlt
  have hfl:=flat_len (s.take i)
  have hft:=flat_take hlt
  rw[List.length_take]at hfl
  have q1:=u8_eqi (s.getD i 0) 10 (by omega)
  have q2:=u8_eqi (s.getD i 0) 32 (by omega)
  have c10:UInt8.ofNat 10=10:=rfl
  have c32:UInt8.ofNat 32=32:=rfl
  rw[c10]at q1
  rw[c32]at q2
  have q1':((((s.getD i 0).toNat:Nat):Int)==10)=decide (s.getD i 0=10):=q1
  have q2':((((s.getD i 0).toNat:Nat):Int)==32)=decide (s.getD i 0=32):=q2
  have hone:s.getD i 0=(s.getD i 0):=rfl
  have hsl:∀X,asem (.slstr (.string ⟨s.toArray⟩) (some (.int .i64 ((i:Nat):Int))) (some (.int .i64 ((i+1:Nat):Int)))) X=some (.string ⟨[s.getD i 0].toArray⟩,X):=fun X=>by
   rw[a_slsM (by omega) (by omega)]
   congr 4
   rw[List.take_add_one,List.getElem?_eq_getElem hlt]
   rw[List.drop_append_of_le_length (by simp;omega),List.drop_of_length_le (by rw[List.length_take];omega)]
   simp[List.getD,List.getElem?_eq_getElem hlt]
  generalize hb:s.getD i 0=b at*
  have ht:(nPre++[10]++(s.take i).flatMap nF).length≤20000:=by simp only[List.length_append,nPre,List.length_cons,List.length_nil];omega
  generalize htt:nPre++[10]++(s.take i).flatMap nF=t at*
  have hnx:nPre++[10]++(s.take (i+1)).flatMap nF=t++nF b:=by rw[hft,←htt,List.append_assoc,List.append_assoc,List.append_assoc]
  by_cases e10:b=10
  ·rw[decide_eq_true e10]at q1'
   have ha:=b_addS (a:=t) (b:=[32,35,32,120,10,32,32,10]) (by simp;omega)
   simp(disch:=first|assumption|omega)only[W_block,P3,seval,initFr,clsA,a_lens,hix,q1',ha,hw]
   refine hn _ _ _ ⟨i+1,x4,x5,x6,x7,x8,x9,.bool true,.bool true,x13,by rw[hnx,e10];rfl,rfl,by omega,rfl⟩ (by omega)
  rw[decide_eq_false e10]at q1'
  by_cases e32:b=32
  ·rw[decide_eq_true e32]at q2'
   have ha:=b_addS (a:=t) (b:=[32]) (by simp;omega)
   have ha2:=b_addS (a:=t++[32]) (b:=[b]) (by simp;omega)
   simp(disch:=first|assumption|omega)only[W_block,P3,seval,initFr,clsA,a_lens,hix,q1',q2',ha,hw,hsl,ha2]
   refine hn _ _ _ ⟨i+1,x4,x5,x6,x7,x8,x9,.bool true,.bool false,.bool true,by rw[hnx,e32,List.append_assoc];rfl,rfl,by omega,rfl⟩ (by omega)
  rw[decide_eq_false e32]at q2'
  have ha2:=b_addS (a:=t) (b:=[b]) (by simp;omega)
  simp(disch:=first|assumption|omega)only[W_block,P3,seval,initFr,clsA,a_lens,hix,q1',q2',hw,hsl,ha2]
  have hnf:nF b=[b]:=by simp[nF,e10,e32]
  refine hn _ _ _ ⟨i+1,x4,x5,x6,x7,x8,x9,.bool true,.bool false,.bool false,by rw[hnx,hnf],rfl,by omega,rfl⟩ (by omega)
 have h3:¬(i:Int)<((s.length:Nat):Int):=by omega
 simp(disch:=first|assumption|omega)only[W_block,P3,seval,initFr,clsA,a_lens]
 refine hx 0 _ _ ?_
 rw[List.take_of_length_le (by omega)]
 have hpn:=parse_noted (s:=s) (by omega) (by have:=flat_len s;simp only[noted,List.length_append,nPre,List.length_cons,List.length_nil];omega)
 rw[show nPre++[10]++s.flatMap nF=noted s from rfl]
 clear hn hx hret
 simp(disch:=first|assumption|omega)only[W_block,P3,seval,initFr,clsA]
 have hnum:(parseP s).2.2 ≤10000:=by
  unfold parseP
  split
  ·simp
  ·have h1:=parseG_num lineP (splitB 10 s) ly0 0
   have h2:=splitB_len 10 s
   omega
 have hfit:=(parseD_fit s).in_
 refine callK (t13 _ s) ?_
 rintro _ K1 ⟨k1,u,xs,rfl,y1⟩
 have o1:=ly_ones y1
 have ll:u.l.length=4:=rfl
 simp(disch:=first|assumption|omega|(simp only[LN]<;>omega)|(simp(disch:=first|assumption|omega|(simp only[LN]<;>omega))only[row_alloc,row_set];assumption))only[W_block,P3,seval,initFr,clsA,o1,ll]
 refine callK (t13 _ (noted s)) ?_
 rintro _ K2 ⟨k2,u2,xs2,rfl,y2⟩
 have o2:=ly_ones y2
 have ll2:u2.l.length=4:=rfl
 rw[hpn]at y2 ⊢
 rw[←eq_parse]at hfit
 generalize parseP s=r at*
 obtain⟨M,e,n⟩:=r
 simp only[twN]at y2 hnum hfit y1 ⊢
 have eq1:∀n:Int,(n==n)=true:=fun n=>beqi_yes rfl
 have g1:K2.get K1.n=some (.cells true false 4 u.l 30):=k2.at_ (AHeap.get_alloc_new _ _)
 have kk:Keeps K1 K2:=((Keeps.refl K1).alloc _).trans k2
 have n1:=AHeap.get_lt g1
 have ka:Keeps K2 (K2.alloc (.cells true false 4 u2.l 30)):=(Keeps.refl K2).alloc _
 have g2:(K2.alloc (.cells true false 4 u2.l 30)).get K1.n=some (.cells true false 4 u.l 30):=ka.at_ g1
 have g3:(K2.alloc (.cells true false 4 u2.l 30)).get K2.n=some (.cells true false 4 u2.l 30):=AHeap.get_alloc_new _ _
 simp(disch:=first|assumption|omega|(simp only[LN]<;>omega)|(simp(disch:=first|assumption|omega|(simp only[LN]<;>omega))only[row_alloc,row_set];assumption))only[W_block,P3,seval,initFr,clsA,o2,ll,ll2,eq1,g2,g3]
 refine callK (t15 (y1.keeps (kk.trans ka)) (y2.keeps ka) hfit) ?_
 rintro _ K3 ⟨rfl,k3⟩
 by_cases he:e=0
 ·subst he
  have e0:((0:Int)==0)=true:=rfl
  have z0:(((0:Nat):Int)==0)=true:=rfl
  simp(disch:=first|assumption|omega)only[W_block,P3,seval,initFr,clsA,e0,z0]
  refine callK (t10 _) ?_
  rintro _ K4 ⟨rfl,k4⟩
  simp(disch:=first|assumption|omega)only[W_block,P3,seval,initFr,clsA]
  exact hq2 _ _ ⟨_,rfl,rfl⟩
 ·have e0:(e==0)=false:=beqi_no he
  have e1:(e != 0)=true:=bnei_yes he
  have hw:IntKind.i64.wrap (2*((n:Nat):Int))=((2*n:Nat):Int):=by rw[wrap_i64 (by omega) (by omega)];push_cast;rfl
  simp(disch:=first|assumption|omega)only[W_block,P3,seval,initFr,clsA,e0,e1,hw,eq1,he]
  refine callK (t10 _) ?_
  rintro _ K4 ⟨rfl,k4⟩
  simp(disch:=first|assumption|omega)only[W_block,P3,seval,initFr,clsA]
  exact hq2 _ _ ⟨_,rfl,rfl⟩
end Go.AM.Fd

namespace Go.AM
namespace Ev
structure RDef where
 N:Nat
 sl:List Nat
 ps:Array Tmp
 assign:Code
 body:Code
 aa:ACode
 ab:ACode
def decL(RT:List RDef)(L:LRec):LRec:=match RT[L.N]? with
 |some d=>⟨d.N,d.sl,L.fr,d.ps,d.assign,d.body⟩
 |none=>L
def dec(RT:List RDef):AO→AO
 | .loop own st pe L=>.loop own st pe (decL RT L)
 |o=>o
structure Rp (RT:List RDef) (n:Nat) (t:HT) (H:AHeap):Prop where
 n:H.n=n
 get:∀b,H.get b=(t.look b).map (dec RT)
variable {RT:List RDef}
theorem Rp.getd{n:Nat}{t:HT}{H:AHeap}(r:Rp RT n t H){b:Nat}{K:AO→Bool}(h:t.getK b K=true):∃o,H.get b=some (dec RT o)∧K o=true:=by
 rw[HT.getK_spec]at h
 rw[r.get]
 cases e:t.look b with
 |none=>rw[e]at h;cases h
 |some o=>rw[e]at h;exact⟨o,rfl,h⟩
theorem Rp.getK{n:Nat}{t:HT}{H:AHeap}(r:Rp RT n t H){b:Nat}{K:AO→Bool}(h:t.getK b K=true)(hK:∀own st pe L,K (.loop own st pe L)=false:=by intros;rfl):∃o,H.get b=some o∧K o=true:=by
 obtain⟨o,h1,h2⟩:=r.getd h
 cases o with
 |loop own st pe L=>rw[hK]at h2;cases h2
 |dead=>exact⟨_,h1,h2⟩
 |cells=>exact⟨_,h1,h2⟩
 |obj=>exact⟨_,h1,h2⟩
theorem Rp.allocd{n:Nat}{t:HT}{H:AHeap}(r:Rp RT n t H){o:AO}{K:HT→Bool}(h:t.setK n o K=true):∃t',K t'=true∧Rp RT (n+1) t' (H.alloc (dec RT o)):=by
 obtain⟨t',h1,h2⟩:=HT.setK_spec t n o K h
 refine⟨t',h1,by rw[alloc_n,r.n],fun b=>?_⟩
 rw[alloc_get,h2,r.n,r.get]
 split<;>rfl
theorem Rp.alloc{n:Nat}{t:HT}{H:AHeap}(r:Rp RT n t H){o:AO}{K:HT→Bool}(h:t.setK n o K=true)(ho:dec RT o=o:=by rfl):∃t',K t'=true∧Rp RT (n+1) t' (H.alloc o):=by
 obtain⟨t',h1,h2⟩:=r.allocd h
 rw[ho]at h2;exact⟨t',h1,h2⟩
theorem Rp.setd{n:Nat}{t:HT}{H:AHeap}(r:Rp RT n t H){b:Nat}{o:AO}{K:HT→Bool}(hb:(H.get b).isSome=true)(h:t.setK b o K=true):∃t',K t'=true∧Rp RT n t' (H.set b (dec RT o)):=by
 obtain⟨t',h1,h2⟩:=HT.setK_spec t b o K h
 refine⟨t',h1,by rw[set_n,r.n],fun x=>?_⟩
 rw[set_get _ hb,h2,r.get]
 split<;>rfl
theorem Rp.set{n:Nat}{t:HT}{H:AHeap}(r:Rp RT n t H){b:Nat}{o:AO}{K:HT→Bool}(hb:(H.get b).isSome=true)(h:t.setK b o K=true)(ho:dec RT o=o:=by rfl):∃t',K t'=true∧Rp RT n t' (H.set b o):=by
 obtain⟨t',h1,h2⟩:=r.setd hb h
 rw[ho]at h2;exact⟨t',h1,h2⟩
end Ev
end Go.AM

namespace Go.AM
namespace Ev
variable {RT:List RDef}
theorem Rp.allocT{n:Nat}{t:HT}{H:AHeap}(r:Rp RT n t H){o:AO}{K:Nat→HT→Bool}(h:AM.allocT o n t K=true)(ho:dec RT o=o:=by rfl):∃n' t',K n' t'=true∧Rp RT n' t' (H.alloc o):=by
 obtain⟨t',h1,h2⟩:=r.alloc h ho
 rw[forceN_eq]at h1
 exact⟨_,t',h1,h2⟩
theorem elemsT_true{n:Nat}{t:HT}{H:AHeap}(r:Rp RT n t H){esz:Nat}{x:Value}{K:List Value→Bool}(h:elemsT t esz x K=true):∃c,elemsA H esz x=some c∧K c=true:=by
 unfold elemsT at h
 split at h
 ·exact⟨_,rfl,h⟩
 ·obtain⟨o,h1,h2⟩:=r.getK h
  split at h2
  ·obtain⟨h3,h4⟩:=asT_true h2
   refine⟨_,?_,h4⟩
   simp only[elemsA,h1]
   rw[if_pos (Nat.le_of_ble_eq_true h3)]
  ·cases h2
 ·cases h
def KP(RT:List RDef)(K:Value→Nat→HT→Bool):Value→AHeap→Prop:=fun v H=>∃n t,Rp RT n t H∧K v n t=true
theorem appT_true{e esz bytes:Nat}{s:Value}{m:Nat}{news:List Value}{n:Nat}{t:HT}{H:AHeap}(r:Rp RT n t H){K:Value→Nat→HT→Bool}(h:appT e esz bytes s m news n t K=true):
 ∃v H',appA H e esz bytes s m news=some (v,H')∧KP RT K v H':=by
 have hn:=r.n
 unfold appT at h
 split at h
 ·rename_i a b
  obtain⟨a1,k1⟩:=asT_true h
  obtain⟨a2,k2⟩:=asT_true k1
  have b1:=Nat.eq_of_beq_eq_true a1
  have b2:=Nat.eq_of_beq_eq_true a2
  subst b1 b2
  split at k2
  ·rename_i em
   have hm:m≠0:=fun e=>by subst e;cases em
   obtain⟨a3,k3⟩:=asT_true k2
   obtain⟨a4,k4⟩:=asT_true k3
   obtain⟨n',t',h3,h4⟩:=r.allocT k4
   refine⟨slc H.n 0 m m,_,?_,n',t',h4,by rw[hn];exact h3⟩
   simp only[appA,and_self,if_true]
   rw[if_neg hm,if_pos ⟨Nat.le_of_ble_eq_true a3,Nat.le_of_ble_eq_true a4⟩]
  ·rename_i em
   have hm:m=0:=Nat.eq_of_beq_eq_true em
   exact⟨_,H,by simp only[appA,and_self,if_true,hm],n,t,r,k2⟩
 ·rename_i b o a k
  split at h
  ·rename_i em
   have hm:m≠0:=fun e=>by subst e;cases em
   obtain⟨a3,k3⟩:=asT_true h
   obtain⟨a4,k4⟩:=asT_true k3
   obtain⟨ao,h3,k5⟩:=r.getK k4
   split at k5
   ·rename_i own room esz' c e'
    obtain⟨a5,k6⟩:=asT_true k5
    obtain⟨a6,k6'⟩:=asT_true k6
    obtain⟨a7,k7⟩:=asT_true k6'
    have e7:=Nat.le_of_ble_eq_true a7
    have e5:=Nat.eq_of_beq_eq_true a5
    have e6:=Nat.eq_of_beq_eq_true a6
    subst e5 e6
    rw[forceN_eq]at k7
    simp only[appA]
    rw[if_neg hm,if_pos ⟨Nat.le_of_ble_eq_true a3,Nat.le_of_ble_eq_true a4⟩]
    simp only[h3,true_and]
    rw[if_pos e7]
    split at k7
    ·rename_i ef
     obtain⟨ho,k8⟩:=asT_true k7
     subst ho
     rw[if_pos (Nat.le_of_ble_eq_true ef)]
     obtain⟨t',m1,m2⟩:=r.set (by rw[h3];rfl) k8
     exact⟨_,_,rfl,n,t',m2,m1⟩
    rename_i ef
    rw[if_neg (fun hh=>by rw[Nat.ble_eq_true_of_le hh]at ef;cases ef)]
    split at k7
    ·rename_i ec
     have hc:¬(room=false∨o+k*esz'<c.length):=by
      rintro(c2|c2)
      ·subst c2;cases ec
      ·rw[Nat.ble_eq_true_of_le c2]at ec
       simp at ec
     rw[if_neg hc]
     split at k7
     ·obtain⟨t1,m1,m2⟩:=r.set (o:=.dead) (by rw[h3];rfl) k7
      obtain⟨n',t',h5,h6⟩:=m2.allocT m1
      exact⟨_,_,rfl,n',t',h6,by rw[hn];exact h5⟩
     ·cases k7
    ·rename_i ec
     have hc:room=false∨o+k*esz'<c.length:=by
      cases room
      ·exact .inl rfl
      ·exact .inr (Nat.le_of_ble_eq_true (by simpa using ec))
     rw[if_pos hc]
     obtain⟨n',t',h5,h6⟩:=r.allocT k7
     exact⟨_,_,rfl,n',t',h6,by rw[hn];exact h5⟩
   ·cases k5
  ·rename_i em
   have hm:m=0:=Nat.eq_of_beq_eq_true em
   exact⟨_,H,by simp only[appA,if_true,hm],n,t,r,h⟩
 ·cases h
theorem stepT0_sound{op:AOp Value}{n:Nat}{t:HT}{H:AHeap}(r:Rp RT n t H){K:Value→Nat→HT→Bool}(h:stepT op n t K=true):∃v H',asem op H=some (v,H')∧KP RT K v H':=by
 have hn:=r.n
 unfold stepT at h
 split at h
 ·obtain⟨h1,h2⟩:=asT_true h
  rw[allOne_eq]at h1
  obtain⟨n',t',h3,h4⟩:=r.allocT h2
  exact⟨_,_,by simp only[asem];rw[if_pos h1],n',t',h4,by rw[hn];exact h3⟩
 ·obtain⟨h1,h2⟩:=asT_true h
  rw[allOne_eq]at h1
  obtain⟨n',t',h3,h4⟩:=r.allocT h2
  exact⟨_,_,by simp only[asem];rw[if_pos h1],n',t',h4,by rw[hn];exact h3⟩
 ·split at h
  ·rename_i c hc
   obtain⟨h1,h2⟩:=asT_true h
   obtain⟨h5,h6⟩:=asT_true h2
   rw[allOne_eq]at h1
   obtain⟨n',t',h3,h4⟩:=r.allocT h6
   exact⟨_,_,by simp only[asem,hc];rw[if_pos ⟨h1,Nat.eq_of_beq_eq_true h5⟩],n',t',h4,by rw[hn];exact h3⟩
  ·cases h
 ·split at h
  ·obtain⟨o,h1,h2⟩:=r.getK h
   split at h2
   ·rw[nthO_eq]at h2
    split at h2
    ·rename_i v hv
     exact⟨v,H,by simp only[asem,cellA,h1,hv,Option.map_some],n,t,r,h2⟩
    ·cases h2
   ·cases h2
  ·cases h
 ·split at h
  ·obtain⟨o,h1,h2⟩:=r.getK h
   split at h2
   ·obtain⟨h3,h4⟩:=asT_true h2
    exact⟨_,H,by simp only[asem,rangeA,h1];rw[if_pos (Nat.le_of_ble_eq_true h3)];rfl,n,t,r,h4⟩
   ·cases h2
  ·cases h
 ·split at h
  ·obtain⟨o,h1,h2⟩:=r.getK h
   split at h2
   ·obtain⟨h3,h4⟩:=asT_true h2
    obtain⟨h5,h6⟩:=asT_true h4
    rw[updK_eq]at h6
    obtain⟨t',h7,h8⟩:=r.set (by rw[h1];rfl) h6
    exact⟨_,_,by simp only[asem,h1];rw[if_pos ⟨Nat.le_of_ble_eq_true h3,h5⟩],n,t',h8,h7⟩
   ·cases h2
  ·cases h
 ·split at h
  ·obtain⟨o,h1,h2⟩:=r.getK h
   split at h2
   ·obtain⟨h3,h4⟩:=asT_true h2
    obtain⟨h5,h6⟩:=asT_true h4
    obtain⟨h9,h10⟩:=asT_true h6
    rw[allOne_eq]at h9
    obtain⟨t',h7,h8⟩:=r.set (by rw[h1];rfl) h10
    exact⟨_,_,by simp only[asem,h1];rw[if_pos ⟨Nat.le_of_ble_eq_true h3,Nat.eq_of_beq_eq_true h5,h9⟩],n,t',h8,h7⟩
   ·cases h2
  ·cases h
 ·obtain⟨v,h1,h2⟩:=binT_true h
  exact⟨v,H,by simp only[asem,h1,Option.map_some],n,t,r,h2⟩
 ·split at h
  ·rw[wrapT_eq]at h
   exact⟨_,H,rfl,n,t,r,h⟩
  ·cases h
 ·split at h
  ·rename_i s
   rw[forceN_eq,bLen_eq]at h
   obtain⟨n',t',h3,h4⟩:=r.allocT h
   exact⟨_,_,rfl,n',t',h4,by rw[hn];exact h3⟩
  ·cases h
 ·obtain⟨c,h1,h2⟩:=elemsT_true r h
  split at h2
  ·rename_i l hl
   exact⟨_,H,by simp only[asem,h1,hl],n,t,r,h2⟩
  ·cases h2
 ·split at h
  ·rename_i l c
   obtain⟨a1,h⟩:=asT_true h
   obtain⟨a2,h⟩:=asT_true h
   obtain⟨a3,h⟩:=asT_true h
   obtain⟨a4,h⟩:=asT_true h
   obtain⟨a5,h⟩:=asT_true h
   rw[forceN_eq,forceN_eq]at h
   obtain⟨n',t',h3,h4⟩:=r.allocT h
   have b1:=Nat.le_of_ble_eq_true a1
   have b2:=Nat.le_of_ble_eq_true a2
   have b3:=Nat.le_of_ble_eq_true a3
   rw[allOne_eq]at a5
   refine⟨slc H.n 0 l c,_,?_,n',t',h4,by rw[hn];exact h3⟩
   simp only[asem]
   rw[if_pos ⟨Int.natCast_nonneg _,Int.ofNat_le.2 b1,Int.ofNat_le.2 b2,Int.ofNat_le.2 b3,Nat.eq_of_beq_eq_true a4,a5⟩]
   rfl
  ·cases h
 ·split at h
  ·rename_i s
   obtain⟨hh,h1,h2⟩:=bndT_true h
   obtain⟨l,h3,h4⟩:=bndT_true h2
   rw[bLen_eq]at h1
   rw[bSub_eq]at h4
   exact⟨_,H,by simp only[asem,h1,h3],n,t,r,h4⟩
  ·cases h
 ·split at h
  ·obtain⟨m,h1,h2⟩:=bndT_true h
   obtain⟨hh,h3,h4⟩:=bndT_true h2
   obtain⟨l,h5,h6⟩:=bndT_true h4
   split at h6
   ·exact⟨_,H,by simp only[asem,h1,h3,h5],n,t,r,h6⟩
   ·obtain⟨o,h7,h8⟩:=r.getK h6
    split at h8
    ·obtain⟨h9,h10⟩:=asT_true h8
     simp only[forceN_eq]at h10
     exact⟨_,H,by simp only[asem,h1,h3,h5,h7];rw[if_pos (by rw[Bool.or_eq_true]at h9;rcases h9 with h9|h9;exact .inl (Nat.eq_of_beq_eq_true h9);exact .inr (by simpa using h9))],n,t,r,h10⟩
    ·cases h8
   ·cases h6
  ·cases h
 ·split at h
  ·rw[forceN_eq]at h
   exact⟨_,H,rfl,n,t,r,h⟩
  ·cases h
 ·split at h
  ·rename_i off x cs
   rw[nthO_eq]at h
   split at h
   ·rename_i v hv
    exact⟨v,H,by simp only[asem,hv,Option.map_some],n,t,r,h⟩
   ·cases h
  ·cases h
 ·split at h
  ·rename_i b o m k kk i
   obtain⟨h1,h2⟩:=asT_true h
   rw[forceN_eq]at h2
   have:=Nat.le_of_ble_eq_true h1
   refine⟨_,H,?_,n,t,r,h2⟩
   simp only[asem]
   rw[if_pos ⟨Int.natCast_nonneg _,by simp only[Int.ofNat_eq_natCast];omega⟩]
   rfl
  ·cases h
 ·split at h
  ·rw[nthO_eq]at h
   split at h
   ·rename_i v hv
    exact⟨v,H,by simp only[asem,hv,Option.map_some],n,t,r,h⟩
   ·cases h
  ·cases h
 ·split at h
  ·exact⟨_,H,rfl,n,t,r,h⟩
  ·rw[forceN_eq,bLen_eq]at h
   exact⟨_,H,rfl,n,t,r,h⟩
  ·cases h
 ·split at h
  ·rename_i e esz bytes s x aa m kk
   obtain⟨news,h1,h2⟩:=elemsT_true r h
   obtain⟨v,H',h3,h4⟩:=appT_true r h2
   exact⟨v,H',by simp only[asem,h1];exact h3,h4⟩
  ·cases h
 ·split at h
  ·rename_i b o k i
   obtain⟨h1,h2⟩:=asT_true h
   rw[forceN_eq]at h2
   have:=Nat.le_of_ble_eq_true h1
   refine⟨_,H,?_,n,t,r,h2⟩
   simp only[asem]
   rw[if_pos ⟨Int.natCast_nonneg _,by simp only[Int.ofNat_eq_natCast];omega⟩]
   rfl
  ·cases h
 ·split at h
  ·obtain⟨m,h1,h2⟩:=bndT_true h
   obtain⟨hh,h3,h4⟩:=bndT_true h2
   obtain⟨l,h5,h6⟩:=bndT_true h4
   simp only[forceN_eq]at h6
   exact⟨_,H,by simp only[asem,h1,h3,h5],n,t,r,h6⟩
  ·cases h
 ·split at h
  ·rename_i s
   obtain⟨n',t',h3,h4⟩:=r.allocT h
   exact⟨_,_,rfl,n',t',h4,by rw[hn];exact h3⟩
  ·cases h
 ·split at h
  ·obtain⟨o,h1,h2⟩:=r.getK h
   split at h2
   ·rename_i s pos
    split at h2
    ·rename_i e
     rw[forceI_eq,forceN_eq]at h2
     obtain⟨t',h7,h8⟩:=r.set (by rw[h1];rfl) h2
     rw[bLen_eq]at e
     exact⟨_,_,by simp only[asem,h1];rw[if_pos (show pos<s.size from Nat.le_of_ble_eq_true e)],n,t',h8,h7⟩
    ·rename_i e
     rw[bLen_eq]at e
     have:¬pos<s.size:=fun h=>by rw[Nat.ble_eq_true_of_le h]at e;cases e
     exact⟨_,H,by simp only[asem,h1];rw[if_neg this],n,t,r,h2⟩
   ·cases h2
  ·cases h
 ·split at h
  ·obtain⟨h1,h⟩:=asT_true h
   obtain⟨h2,h⟩:=asT_true h
   exact⟨_,H,by simp only[asem];rw[if_pos ⟨Nat.eq_of_beq_eq_true h1,Nat.eq_of_beq_eq_true h2⟩],n,t,r,h⟩
  ·obtain⟨l,h1,h2⟩:=elemsT_true r h
   obtain⟨o,h3,h4⟩:=r.getK h2
   split at h4
   ·rename_i own room esz' c e
    rw[forceN_eq]at h4
    split at h4
    ·rename_i e0
     exact⟨_,H,by simp only[asem,h1,h3];rw[if_pos (Nat.eq_of_beq_eq_true e0)],n,t,r,h4⟩
    ·rename_i e0
     obtain⟨h5,h6⟩:=asT_true h4
     obtain⟨h7,h8⟩:=asT_true h6
     obtain⟨t',h9,h10⟩:=r.set (by rw[h3];rfl) h8
     refine⟨_,_,?_,n,t',h10,h9⟩
     simp only[asem,h1,h3]
     rw[if_neg (fun hh=>by rw[hh]at e0;cases e0),if_pos ⟨h5,Nat.le_of_ble_eq_true h7⟩]
     rfl
   ·cases h4
  ·cases h
 ·split at h
  ·obtain⟨h1,h⟩:=asT_true h
   obtain⟨h2,h⟩:=asT_true h
   exact⟨_,H,by simp only[asem];rw[if_pos ⟨Nat.eq_of_beq_eq_true h1,Nat.eq_of_beq_eq_true h2⟩],n,t,r,h⟩
  ·split at h
   ·rename_i e0
    exact⟨_,H,by simp only[asem];rw[if_pos (Nat.eq_of_beq_eq_true e0)],n,t,r,h⟩
   ·rename_i e0
    obtain⟨o,h3,h4⟩:=r.getK h
    split at h4
    ·obtain⟨h5,h6⟩:=asT_true h4
     obtain⟨h7,h8⟩:=asT_true h6
     obtain⟨h9,h10⟩:=asT_true h8
     obtain⟨h11,h12⟩:=asT_true h10
     rw[allOne_eq]at h11
     obtain⟨t',h13,h14⟩:=r.set (by rw[h3];rfl) h12
     refine⟨_,_,?_,n,t',h14,h13⟩
     simp only[asem]
     rw[if_neg (fun hh=>by rw[hh]at e0;cases e0)]
     simp only[h3]
     rw[if_pos ⟨h5,Nat.le_of_ble_eq_true h7,Nat.eq_of_beq_eq_true h9,h11⟩]
    ·cases h4
  ·cases h
 ·split at h
  ·rw[forceN_eq,bLen_eq]at h
   obtain⟨v,H',h3,h4⟩:=appT_true r h
   exact⟨v,H',by simp only[asem];exact h3,h4⟩
  ·cases h
 ·split at h
  ·obtain⟨o,h1,h2⟩:=r.getK h
   split at h2
   ·exact⟨_,H,by simp only[asem,h1],n,t,r,h2⟩
   ·cases h2
  ·cases h
 ·cases h
 ·cases h
 ·cases h
 ·obtain⟨v,h1,h2⟩:=optK_true h
  exact⟨v,H,plainT_sound h1,n,t,r,h2⟩
noncomputable def stepT(op:AOp Value)(n:Nat)(t:HT)(K:Value→Nat→HT→Bool):Bool:=match op with
 | .appz e esz bytes z s x=>match x with
  | .int .i64 (.ofNat m)=>asT (Nat.ble (m*bytes) 140737488355328) (asT (Nat.ble m 140737488355328) (forceN m fun m=>appT e esz bytes s m (List.replicate m z).flatten n t K))
  |_=>false
 | .cap x=>match x with
  | .slice none a k=>asT (Nat.beq a 0) (asT (Nat.beq k 0) (K (.int .i64 0) n t))
  | .slice (some ⟨b,_,none⟩) _ k=>t.getK b fun ao=>match ao with
   | .cells _ false _ _ _=>K (.int .i64 (.ofNat k)) n t
   |_=>false
  |_=>false
 | .mkmap=>allocT (.obj true (.map #[] 0)) n t fun n' t'=>K (.map (some n)) n' t'
 | .mget kk z ok m k=>asT (keyB kk k) (match m with
   | .map none=>optK (mgetA z ok (some none)) fun v=>K v n t
   | .map (some b)=>t.getK b fun ao=>match ao with
    | .obj _ (.map es _)=>optK (mgetA z ok (Instr.findNow kk k es.toList 0)) fun v=>K v n t
    |_=>false
   |_=>false)
 | .mset kk m k x=>asT (keyB kk k) (match m with
   | .map (some b)=>t.getK b fun ao=>match ao with
    | .obj true (.map es clock)=>match Instr.findNow kk k es.toList 0 with
     |some (some (i,_))=>t.setK b (.obj true (.map (es.modify i fun e=>{e with key:=k,val:=x}) clock)) fun t'=>K undef n t'
     |some none=>t.setK b (.obj true (.map (es.push {key:=k,val:=x,born:=clock}) (clock+1))) fun t'=>K undef n t'
     |none=>false
    |_=>false
   |_=>false)
 | .mm4 mx x y z w=>match x,y,z,w with
  | .int k a,.int k1 b,.int k2 c,.int k3 d=>asT (decide (k=k1∧k=k2∧k=k3)) (forceI (mmI mx (mmI mx (mmI mx a b) c) d) fun r=>K (.int k r) n t)
  |_,_,_,_=>false
 |op=>AM.stepT op n t K
theorem stepT_sound{op:AOp Value}{n:Nat}{t:HT}{H:AHeap}(r:Rp RT n t H){K:Value→Nat→HT→Bool}(h:stepT op n t K=true):∃v H',asem op H=some (v,H')∧KP RT K v H':=by
 have hn:=r.n
 unfold stepT at h
 split at h
 ·split at h
  ·obtain⟨h1,h2⟩:=asT_true h
   obtain⟨h3,h4⟩:=asT_true h2
   rw[forceN_eq]at h4
   obtain⟨v,H',h5,h6⟩:=appT_true r h4
   refine⟨v,H',?_,h6⟩
   have h1:=Nat.le_of_ble_eq_true h1
   have h3:=Nat.le_of_ble_eq_true h3
   simp only[asem]
   rw[if_pos ⟨Int.natCast_nonneg _,by simp only[Int.ofNat_eq_natCast];omega,by simp only[Int.ofNat_eq_natCast];omega⟩]
   exact h5
  ·cases h
 ·split at h
  ·obtain⟨h1,h⟩:=asT_true h
   obtain⟨h2,h⟩:=asT_true h
   have h1:=Nat.eq_of_beq_eq_true h1
   have h2:=Nat.eq_of_beq_eq_true h2
   subst h1 h2
   exact⟨_,H,rfl,n,t,r,h⟩
  ·obtain⟨o,h1,h2⟩:=r.getK h
   split at h2
   ·exact⟨_,H,by simp only[asem,h1];rfl,n,t,r,h2⟩
   ·cases h2
  ·cases h
 ·obtain⟨n',t',h3,h4⟩:=r.allocT h
  exact⟨_,_,rfl,n',t',h4,by rw[hn];exact h3⟩
 ·obtain⟨h1,h2⟩:=asT_true h
  split at h2
  ·obtain⟨v,h3,h4⟩:=optK_true h2
   exact⟨v,H,by simp only[asem];rw[if_pos h1,h3];rfl,n,t,r,h4⟩
  ·obtain⟨o,h3,h4⟩:=r.getK h2
   split at h4
   ·obtain⟨v,h5,h6⟩:=optK_true h4
    exact⟨v,H,by simp only[asem,h3];rw[if_pos h1,h5];rfl,n,t,r,h6⟩
   ·cases h4
  ·cases h2
 ·obtain⟨h1,h⟩:=asT_true h
  split at h
  ·obtain⟨o,h3,h4⟩:=r.getK h
   split at h4
   ·rename_i es clock
    split at h4
    ·rename_i i u hf
     obtain⟨t',h7,h8⟩:=r.set (by rw[h3];rfl) h4
     exact⟨_,_,by simp only[asem,h3,hf];rw[if_pos h1],n,t',h8,h7⟩
    ·rename_i hf
     obtain⟨t',h7,h8⟩:=r.set (by rw[h3];rfl) h4
     exact⟨_,_,by simp only[asem,h3,hf];rw[if_pos h1],n,t',h8,h7⟩
    ·cases h4
   ·cases h4
  ·cases h
 ·split at h
  ·obtain⟨h1,h⟩:=asT_true h
   rw[forceI_eq]at h
   exact⟨_,H,by simp only[asem];rw[if_pos (of_decide_eq_true h1)],n,t,r,h⟩
  ·cases h
 ·exact stepT0_sound r h
end Ev
end Go.AM

namespace Go.AM
namespace Ev
variable {RT:List RDef}
structure YC where
 y:Nat→List Value→Nat→HT→CK→Bool
 i:TypeId→String→List Value→Nat→HT→CK→Bool
noncomputable def stepX(call:Caller)(yc:YC)(op:AOp AX)(fr tm:List Value)(n:Nat)(t:HT)(K:CK):Bool:=match op with
 | .mov x=>evX x fr tm fun v=>K v n t
 | .pick c a b=>evX c fr tm fun c=>evX a fr tm fun a=>evX b fr tm fun b=>stepT (.pick c a b) n t K
 | .new e s z=>stepT (.new e s z) n t K
 | .box e s x=>evX x fr tm fun x=>stepT (.box e s x) n t K
 | .build z ps=>evPs ps fr tm fun ps=>stepT (.build z ps) n t K
 | .bslice e s m z ps=>evPs ps fr tm fun ps=>stepT (.bslice e s m z ps) n t K
 | .load1 x=>evX x fr tm fun x=>stepT (.load1 x) n t K
 | .loadn m x=>evX x fr tm fun x=>stepT (.loadn m x) n t K
 | .store1 a x=>evX a fr tm fun a=>evX x fr tm fun x=>stepT (.store1 a x) n t K
 | .storen m a x=>evX a fr tm fun a=>evX x fr tm fun x=>stepT (.storen m a x) n t K
 | .nilck x=>evX x fr tm fun x=>stepT (.nilck x) n t K
 | .bin op x y=>evX x fr tm fun x=>evX y fr tm fun y=>binT op x y fun v=>K v n t
 | .eqv k m x y=>evX x fr tm fun x=>evX y fr tm fun y=>stepT (.eqv k m x y) n t K
 | .un op x=>evX x fr tm fun x=>stepT (.un op x) n t K
 | .i2i k x=>evX x fr tm fun x=>stepT (.i2i k x) n t K
 | .s2s x=>evX x fr tm fun x=>stepT (.s2s x) n t K
 | .s2b e x=>evX x fr tm fun x=>stepT (.s2b e x) n t K
 | .b2s x=>evX x fr tm fun x=>stepT (.b2s x) n t K
 | .iface u x=>evX x fr tm fun x=>K (.iface u x) n t
 | .mkfn fn xs ys=>evXs xs fr tm fun xs=>evXs ys fr tm fun ys=>stepT (.mkfn fn xs ys) n t K
 | .mksl e s b z l c=>evX l fr tm fun l=>evX c fr tm fun c=>stepT (.mksl e s b z l c) n t K
 | .slstr x lo hi=>evX x fr tm fun x=>evO lo fr tm fun lo=>evO hi fr tm fun hi=>stepT (.slstr x lo hi) n t K
 | .slsl s x lo hi mx=>evX x fr tm fun x=>evO lo fr tm fun lo=>evO hi fr tm fun hi=>evO mx fr tm fun mx=>stepT (.slsl s x lo hi mx) n t K
 | .faddr o x=>evX x fr tm fun x=>stepT (.faddr o x) n t K
 | .fld1 o x=>evX x fr tm fun x=>stepT (.fld1 o x) n t K
 | .fldn o m x=>evX x fr tm fun x=>stepT (.fldn o m x) n t K
 | .iaddr s x i=>evX x fr tm fun x=>evX i fr tm fun i=>stepT (.iaddr s x i) n t K
 | .idxs x i=>evX x fr tm fun x=>evX i fr tm fun i=>stepT (.idxs x i) n t K
 | .assert u z ok x=>evX x fr tm fun x=>stepT (.assert u z ok x) n t K
 | .extract x i=>evX x fr tm fun x=>stepT (.extract x i) n t K
 | .len s x=>evX x fr tm fun x=>stepT (.len s x) n t K
 | .app e s b x y=>evX x fr tm fun x=>evX y fr tm fun y=>stepT (.app e s b x y) n t K
 | .mark x=>evX x fr tm fun x=>stepT (.mark x) n t K
 | .iaddrp s m x i=>evX x fr tm fun x=>evX i fr tm fun i=>stepT (.iaddrp s m x i) n t K
 | .idxa a s m x i=>evX x fr tm fun x=>evX i fr tm fun i=>stepT (.idxa a s m x i) n t K
 | .slarr s m x lo hi mx=>evX x fr tm fun x=>evO lo fr tm fun lo=>evO hi fr tm fun hi=>evO mx fr tm fun mx=>stepT (.slarr s m x lo hi mx) n t K
 | .eqs cs m x y=>evX x fr tm fun x=>evX y fr tm fun y=>stepT (.eqs cs m x y) n t K
 | .mm m x y=>evX x fr tm fun x=>evX y fr tm fun y=>stepT (.mm m x y) n t K
 | .i2str x=>evX x fr tm fun x=>stepT (.i2str x) n t K
 | .rng x=>evX x fr tm fun x=>stepT (.rng x) n t K
 | .next x=>evX x fr tm fun x=>stepT (.next x) n t K
 | .copy s d x=>evX d fr tm fun d=>evX x fr tm fun x=>stepT (.copy s d x) n t K
 | .clr s z x=>evX x fr tm fun x=>stepT (.clr s z x) n t K
 | .apps e b x y=>evX x fr tm fun x=>evX y fr tm fun y=>stepT (.apps e b x y) n t K
 | .callf f xs=>evXs xs fr tm fun xs=>call f xs n t K
 | .callv f xs=>evX f fr tm fun f=>evXs xs fr tm fun xs=>match f with
  | .func (.func g) first cap=>call g (first.toList++xs++cap.toList) n t K
  | .chan (some b)=>yc.y b xs n t K
  |_=>false
 | .mm4 m x y z w=>evX x fr tm fun x=>evX y fr tm fun y=>evX z fr tm fun z=>evX w fr tm fun w=>stepT (.mm4 m x y z w) n t K
 | .mkmap=>stepT .mkmap n t K
 | .mget kk z ok m k=>evX m fr tm fun m=>evX k fr tm fun k=>stepT (.mget kk z ok m k) n t K
 | .mset kk m k x=>evX m fr tm fun m=>evX k fr tm fun k=>evX x fr tm fun x=>stepT (.mset kk m k x) n t K
 | .cap x=>evX x fr tm fun x=>stepT (.cap x) n t K
 | .inv nm x xs=>evX x fr tm fun x=>evXs xs fr tm fun xs=>match x with
  | .iface ty u=>yc.i ty nm (u::xs) n t K
  |_=>false
 | .appz e s b z x y=>evX x fr tm fun x=>evX y fr tm fun y=>stepT (.appz e s b z x y) n t K
 | .bad=>false
def CallOK(RT:List RDef)(P:Program)(ng:Nat)(call:Caller):Prop:=∀f xs n t K,call f xs n t K=true→∀H,Rp RT n t H→∃v H',ARun P ng f xs H v H'∧KP RT K v H'
def YOK(RT:List RDef)(P:Program)(ng:Nat)(yc:YC):Prop:=(∀b xs n t K,yc.y b xs n t K=true→∀H,Rp RT n t H→∃v H',AYield P ng b xs H v H'∧KP RT K v H')∧∀ty nm xs n t K,yc.i ty nm xs n t K=true→∀H,Rp RT n t H→∃g,methT P ty nm=some g∧∃v H',ARun P ng g xs H v H'∧KP RT K v H'
theorem stepX_sound{P:Program}{ng:Nat}{call:Caller}{yc:YC}(hc:CallOK RT P ng call)(hy:YOK RT P ng yc){op:AOp AX}{fr tm:List Value}{n:Nat}{t:HT}{K:CK}(h:stepX call yc op fr tm n t K=true){H:AHeap}(r:Rp RT n t H):
 stepA P ng (op.map (AX.ev fr tm)) H (KP RT K):=by
 have fin:∀{o:AOp Value},stepT o n t K=true→stepA P ng o H (KP RT K):=by
  intro o ho
  obtain⟨v,H',h1,h2⟩:=stepT_sound r ho
  exact stepA_of h1 h2
 cases op<;>simp only[stepX,evX_eq,evXs_eq,evO_eq,evPs_eq]at h<;>simp only[AOp.map]<;>try exact fin h
 case callf f xs=>exact hc _ _ _ _ _ h H r
 case callv f xs=>
  simp only[stepA]
  split at h
  ·rename_i g first cap hf
   rw[hf]
   exact hc _ _ _ _ _ h H r
  ·rename_i b hf
   rw[hf]
   exact hy.1 _ _ _ _ _ h H r
  ·cases h
 case inv nm x xs=>
  simp only[stepA]
  split at h
  ·rename_i ty u hx
   rw[hx]
   obtain⟨g,h1,h2⟩:=hy.2 _ _ _ _ _ _ h H r
   simp only[h1]
   exact h2
  ·cases h
abbrev LK:=List Value→Bool
noncomputable def dropX(l:List Value):Nat→LK→Bool:=List.rec (motive:=fun _=>Nat→LK→Bool) (fun n K=>Nat.rec (motive:=fun _=>Bool) (K []) (fun _ _=>false) n) (fun x r ih n K=>Nat.rec (motive:=fun _=>Bool) (K (x::r)) (fun m _=>ih m K) n) l
theorem dropX_true:∀{l:List Value} {n:Nat} {K:LK},dropX l n K=true→n≤l.length∧K (l.drop n)=true
 |[],0,K,h=>⟨Nat.le_refl _,h⟩
 |[],n+1,K,h=>by cases h
 |x::l,0,K,h=>⟨Nat.zero_le _,h⟩
 |x::l,n+1,K,h=>by
  obtain⟨h1,h2⟩:=dropX_true (l:=l) (n:=n) (K:=K) h
  exact⟨by simpa using h1,by simpa using h2⟩
noncomputable def takeX(l:List Value):Nat→LK→Bool:=List.rec (motive:=fun _=>Nat→LK→Bool) (fun n K=>Nat.rec (motive:=fun _=>Bool) (K []) (fun _ _=>false) n) (fun x _ ih n K=>Nat.rec (motive:=fun _=>Bool) (K []) (fun m _=>ih m fun r=>K (x::r)) n) l
theorem takeX_true:∀{l:List Value} {n:Nat} {K:LK},takeX l n K=true→n≤l.length∧K (l.take n)=true
 |[],0,K,h=>⟨Nat.le_refl _,h⟩
 |[],n+1,K,h=>by cases h
 |x::l,0,K,h=>⟨Nat.zero_le _,by have h':K []=true:=h;simpa using h'⟩
 |x::l,n+1,K,h=>by
  obtain⟨h1,h2⟩:=takeX_true (l:=l) (n:=n) (K:=fun r=>K (x::r)) h
  exact⟨by simpa using h1,by simpa using h2⟩
noncomputable def ldK(c:List Value)(o m:Nat)(K:LK):Bool:=dropX c o fun r=>takeX r m K
theorem ldK_true{c:List Value}{o m:Nat}{K:LK}(h:ldK c o m K=true):o+m≤c.length∧K ((c.drop o).take m)=true:=by
 obtain⟨h1,h2⟩:=dropX_true h
 obtain⟨h3,h4⟩:=takeX_true h2
 rw[List.length_drop]at h3
 exact⟨by omega,h4⟩
noncomputable def overX(xs:List Value):List Value→LK→Bool:=List.rec (motive:=fun _=>List Value→LK→Bool) (fun r K=>K r) (fun x _ ih r K=>List.rec (motive:=fun _=>Bool) false (fun _ r2 _=>ih r2 fun r'=>K (x::r')) r) xs
theorem overX_true:∀{xs r:List Value} {K:LK},overX xs r K=true→xs.length≤r.length∧K (xs++r.drop xs.length)=true
 |[],r,K,h=>⟨Nat.zero_le _,by have h':K r=true:=h;simpa using h'⟩
 |x::xs,[],K,h=>by cases h
 |x::xs,y::r,K,h=>by
  obtain⟨h1,h2⟩:=overX_true (xs:=xs) (r:=r) (K:=fun r'=>K (x::r')) h
  exact⟨by simpa using h1,by simpa using h2⟩
noncomputable def spX(xs c:List Value):Nat→LK→Bool:=List.rec (motive:=fun _=>Nat→LK→Bool) (fun n K=>Nat.rec (motive:=fun _=>Bool) (overX xs [] K) (fun _ _=>false) n) (fun x r ih n K=>Nat.rec (motive:=fun _=>Bool) (overX xs (x::r) K) (fun m _=>ih m fun r'=>K (x::r')) n) c
theorem spX_true{xs:List Value}:∀{c:List Value} {o:Nat} {K:LK},spX xs c o K=true→o+xs.length≤c.length∧K (c.take o++xs++c.drop (o+xs.length))=true
 |[],0,K,h=>by
  obtain⟨h1,h2⟩:=overX_true (r:=[]) h
  exact⟨by omega,by simpa using h2⟩
 |[],o+1,K,h=>by cases h
 |x::c,0,K,h=>by
  obtain⟨h1,h2⟩:=overX_true (r:=x::c) h
  exact⟨by omega,by simpa using h2⟩
 |x::c,o+1,K,h=>by
  obtain⟨h1,h2⟩:=spX_true (c:=c) (o:=o) (K:=fun r'=>K (x::r')) h
  refine⟨by simp only[List.length_cons];omega,?_⟩
  rw[show o+1+xs.length=(o+xs.length)+1 by omega]
  simpa using h2
noncomputable def appK(l m:List Value):LK→Bool:=List.rec (motive:=fun _=>LK→Bool) (fun K=>K m) (fun x _ ih K=>ih fun r=>K (x::r)) l
theorem appK_true{m:List Value}:∀{l:List Value} {K:LK},appK l m K=true→K (l++m)=true
 |[],K,h=>h
 |x::l,K,h=>appK_true (l:=l) (K:=fun r=>K (x::r)) h
noncomputable def elemsF(t:HT)(esz:Nat)(x:Value)(K:LK):Bool:=match x with
 | .slice none _ _=>K []
 | .slice (some ⟨b,o,none⟩) n _=>t.getK b fun ao=>match ao with
  | .cells _ _ _ c _=>ldK c o (n*esz) K
  |_=>false
 |_=>false
theorem getK_imp{t:HT}{b:Nat}{K K':AO→Bool}(h:t.getK b K=true)(hk:∀o,K o=true→K' o=true):t.getK b K'=true:=by
 rw[HT.getK_spec]at h ⊢
 split
 ·rename_i o e;rw[e]at h;exact hk o h
 ·rename_i e;rw[e]at h;cases h
theorem asT_of{a b:Bool}(h:a=true)(k:b=true):asT a b=true:=by subst h k;rfl
theorem ble_of{a b:Nat}(h:a≤b):Nat.ble a b=true:=Nat.ble_eq_true_of_le h
theorem elemsF_true{t:HT}{esz:Nat}{x:Value}{K K':LK}(h:elemsF t esz x K=true)(hk:∀l,K l=true→K' l=true):elemsT t esz x K'=true:=by
 unfold elemsF at h
 unfold elemsT
 split at h
 ·exact hk _ h
 ·refine getK_imp h fun o ho=>?_
  split at ho
  ·obtain⟨h1,h2⟩:=ldK_true ho
   exact asT_of (ble_of h1) (hk _ h2)
  ·cases ho
 ·cases h
def notNil:List Value→Bool
 |[]=>false
 |_::_=>true
noncomputable def appF(e esz bytes:Nat)(s:Value)(m:Nat)(news:List Value)(n:Nat)(t:HT)(K:CK):Bool:=match s with
 | .slice none a b=>appT e esz bytes (.slice none a b) m news n t K
 | .slice (some ⟨b,o,none⟩) a k=>match Nat.beq m 0 with
  |false=>asT (Nat.ble ((a+m)*bytes) 140737488355328) (asT (Nat.ble (a+m) 140737488355328) (t.getK b fun ao=>match ao with
   | .cells own room esz' c e'=>asT (Nat.beq esz' esz) (asT (Nat.beq e' e) (dropX c (o+k*esz) fun rest=>forceN (a+m) fun am=>match Nat.ble am k with
    |true=>asT own (spX news c (o+a*esz) fun c'=>t.setK b (.cells true room esz c' e) fun t'=>K (slc b o am k) n t')
    |false=>match !room||notNil rest with
     |false=>match own with
      |true=>t.setK b .dead fun t1=>ldK c o (a*esz) fun old=>appK old news fun c'=>allocT (.cells true true esz c' e) n t1 fun n' t'=>K (slc n 0 am am) n' t'
      |false=>false
     |true=>ldK c o (a*esz) fun old=>appK old news fun c'=>allocT (.cells true true esz c' e) n t fun n' t'=>K (slc n 0 am am) n' t'))
   |_=>false))
  |true=>K s n t
 |_=>false
theorem setK_imp{o:AO}{K K':HT→Bool}(hk:∀t,K t=true→K' t=true):∀{t:HT} {b:Nat},t.setK b o K=true→t.setK b o K'=true:=by
 have key:∀(t:HT) (b:Nat) (K K':HT→Bool),(∀t,K t=true→K' t=true)→t.setK b o K=true→t.setK b o K'=true:=by
  intro t
  induction t with
  |leaf=>
   intro b K K' hk h
   cases b with
   |zero=>exact hk _ h
   |succ b=>cases h
  |node v l r ihl ihr=>
   intro b K K' hk h
   cases b with
   |zero=>exact hk _ h
   |succ m=>
    have e:∀K:HT→Bool,(HT.node v l r).setK (m+1) o K=Nat.rec (motive:=fun _=>Bool) (l.setK (Nat.div m 2) o fun l'=>K (.node v l' r)) (fun _ _=>r.setK (Nat.div m 2) o fun r'=>K (.node v l r')) (Nat.mod m 2):=fun _=>rfl
    rw[e,natrec_c]at h ⊢
    split
    ·rename_i hm;rw[if_pos hm]at h;exact ihl _ _ _ (fun t'=>hk _) h
    ·rename_i hm;rw[if_neg hm]at h;exact ihr _ _ _ (fun t'=>hk _) h
 intro t b h
 exact key t b K K' hk h
theorem appF_true{e esz bytes:Nat}{s:Value}{m:Nat}{news:List Value}{n:Nat}{t:HT}{K:CK}(h:appF e esz bytes s m news n t K=true):appT e esz bytes s m news n t K=true:=by
 unfold appF at h
 split at h
 ·exact h
 ·rename_i b o a k
  unfold appT
  split at h
  ·rename_i em
   simp only[em]
   obtain⟨h1,h2⟩:=asT_true h
   obtain⟨h3,h4⟩:=asT_true h2
   refine asT_of h1 (asT_of h3 (getK_imp h4 fun ao ho=>?_))
   split at ho
   ·rename_i own room esz' c e'
    obtain⟨q1,q2⟩:=asT_true ho
    obtain⟨q3,q4⟩:=asT_true q2
    obtain⟨q5,q6⟩:=dropX_true q4
    refine asT_of q1 (asT_of q3 (asT_of (ble_of q5) ?_))
    rw[forceN_eq]at q6 ⊢
    split at q6
    ·rename_i e1
     simp only[e1]
     obtain⟨p1,p2⟩:=asT_true q6
     obtain⟨p3,p4⟩:=spX_true p2
     exact asT_of p1 p4
    ·rename_i e1
     simp only[e1]
     have hnil:Nat.ble (o+k*esz+1) c.length=notNil (c.drop (o+k*esz)):=by
      cases hd:c.drop (o+k*esz)with
      |nil=>
       have:c.length≤o+k*esz:=by simpa using hd
       cases hb:Nat.ble (o+k*esz+1) c.length
       ·rfl
       ·have:=Nat.le_of_ble_eq_true hb;omega
      |cons x r=>
       have:0<(c.drop (o+k*esz)).length:=by rw[hd];simp
       rw[List.length_drop]at this
       exact ble_of (by omega)
     rw[hnil]
     split at q6
     ·rename_i e2
      simp only[e2]
      split at q6
      ·refine setK_imp (fun t1 p=>?_) q6
       obtain⟨_,p2⟩:=ldK_true p
       exact appK_true p2
      ·cases q6
     ·rename_i e2
      simp only[e2]
      obtain⟨_,p2⟩:=ldK_true q6
      exact appK_true p2
   ·cases ho
  ·rename_i em
   simp only[em]
   exact h
 ·cases h
noncomputable def t_loadn(m:Nat)(x:Value)(n:Nat)(t:HT)(K:CK):Bool:=match x with
 | .pointer (some ⟨b,o,none⟩)=>t.getK b fun ao=>match ao with
  | .cells _ _ _ c _=>ldK c o m fun l=>K (.agg l.toArray) n t
  |_=>false
 |_=>false
theorem t_loadn_true{m:Nat}{x:Value}{n:Nat}{t:HT}{K:CK}(h:t_loadn m x n t K=true):stepT (.loadn m x) n t K=true:=by
 unfold t_loadn at h
 split at h
 ·rename_i b o
  show(t.getK b fun ao=>match ao with
   | .cells _ _ _ c _=>asT (Nat.ble (o+m) c.length) (K (.agg ((c.drop o).take m).toArray) n t)
   |_=>false)=true
  refine getK_imp h fun ao ho=>?_
  split at ho
  ·obtain⟨h1,h2⟩:=ldK_true ho
   exact asT_of (ble_of h1) h2
  ·cases ho
 ·cases h
noncomputable def t_storen(m:Nat)(a x:Value)(n:Nat)(t:HT)(K:CK):Bool:=match a with
 | .pointer (some ⟨b,o,none⟩)=>t.getK b fun ao=>match ao with
  | .cells true room esz c e=>asT (Nat.beq x.cells.toList.length m) (asT (allOne x.cells.toList) (spX x.cells.toList c o fun c'=>t.setK b (.cells true room esz c' e) fun t'=>K undef n t'))
  |_=>false
 |_=>false
theorem t_storen_true{m:Nat}{a x:Value}{n:Nat}{t:HT}{K:CK}(h:t_storen m a x n t K=true):stepT (.storen m a x) n t K=true:=by
 unfold t_storen at h
 split at h
 ·rename_i b o
  show(t.getK b fun ao=>match ao with
   | .cells true room esz c e=>asT (Nat.ble (o+m) c.length) (asT (Nat.beq x.cells.toList.length m) (asT (allOne x.cells.toList) (t.setK b (.cells true room esz (c.take o++x.cells.toList++c.drop (o+m)) e) fun t'=>K undef n t')))
   |_=>false)=true
  refine getK_imp h fun ao ho=>?_
  split at ho
  ·obtain⟨h1,h2⟩:=asT_true ho
   obtain⟨h3,h4⟩:=asT_true h2
   obtain⟨h5,h6⟩:=spX_true h4
   have e:=Nat.eq_of_beq_eq_true h1
   rw[e]at h5 h6
   exact asT_of (ble_of h5) (asT_of h1 (asT_of h3 h6))
  ·cases ho
 ·cases h
noncomputable def t_b2s(x:Value)(n:Nat)(t:HT)(K:CK):Bool:=elemsF t 1 x fun c=>match bytesOf c with
 |some l=>K (.string ⟨l.toArray⟩) n t
 |none=>false
theorem t_b2s_true{x:Value}{n:Nat}{t:HT}{K:CK}(h:t_b2s x n t K=true):stepT (.b2s x) n t K=true:=by
 have key:(elemsT t 1 x fun c=>match bytesOf c with
  |some l=>K (.string ⟨l.toArray⟩) n t
  |none=>false)=true:=elemsF_true h fun l h=>h
 exact key
noncomputable def t_app(e:TypeId)(esz bytes:Nat)(s x:Value)(n:Nat)(t:HT)(K:CK):Bool:=match x with
 | .slice _ m _=>elemsF t esz x fun news=>appF e esz bytes s m news n t K
 |_=>false
theorem t_app_true{e:TypeId}{esz bytes:Nat}{s x:Value}{n:Nat}{t:HT}{K:CK}(h:t_app e esz bytes s x n t K=true):stepT (.app e esz bytes s x) n t K=true:=by
 unfold t_app at h
 split at h
 ·rename_i a m k
  show(elemsT t esz (.slice a m k) fun news=>appT e esz bytes s m news n t K)=true
  exact elemsF_true h fun l h=>appF_true h
 ·cases h
noncomputable def t_apps(e:TypeId)(bytes:Nat)(s x:Value)(n:Nat)(t:HT)(K:CK):Bool:=match x with
 | .string tx=>forceN (bLen tx) fun m=>appF e 1 bytes s m (tx.data.toList.map fun b=>.int .u8 b.toNat) n t K
 |_=>false
theorem t_apps_true{e:TypeId}{bytes:Nat}{s x:Value}{n:Nat}{t:HT}{K:CK}(h:t_apps e bytes s x n t K=true):stepT (.apps e bytes s x) n t K=true:=by
 unfold t_apps at h
 split at h
 ·rename_i tx
  show(forceN (bLen tx) fun m=>appT e 1 bytes s m (tx.data.toList.map fun b=>.int .u8 b.toNat) n t K)=true
  rw[forceN_eq]at h ⊢
  exact appF_true h
 ·cases h
noncomputable def t_copy(esz:Nat)(d x:Value)(n:Nat)(t:HT)(K:CK):Bool:=match d,x with
 | .slice none a k,.slice _ _ _=>asT (Nat.beq a 0) (asT (Nat.beq k 0) (K (.int .i64 0) n t))
 | .slice (some ⟨b,o,none⟩) a _,.slice a2 m k2=>elemsF t esz (.slice a2 m k2) fun l=>t.getK b fun ao=>match ao with
  | .cells own room esz' c e=>forceN (min m a) fun q=>match Nat.beq q 0 with
   |true=>K (.int .i64 0) n t
   |false=>takeX l (q*esz) fun l'=>asT own (asT (Nat.beq l'.length (q*esz)) (spX l' c o fun c'=>t.setK b (.cells own room esz' c' e) fun t'=>K (.int .i64 (.ofNat q)) n t'))
  |_=>false
 |_,_=>false
theorem t_copy_true{esz:Nat}{d x:Value}{n:Nat}{t:HT}{K:CK}(h:t_copy esz d x n t K=true):stepT (.copy esz d x) n t K=true:=by
 unfold t_copy at h
 split at h
 ·exact h
 ·rename_i b o a k0 a2 m k2
  show(elemsT t esz (.slice a2 m k2) fun l=>t.getK b fun ao=>match ao with
   | .cells own room esz' c e=>forceN (min m a) fun q=>match Nat.beq q 0 with
    |true=>K (.int .i64 0) n t
    |false=>asT own (asT (Nat.ble (o+q*esz) c.length) (t.setK b (.cells own room esz' (c.take o++l.take (q*esz)++c.drop (o+q*esz)) e) fun t'=>K (.int .i64 (.ofNat q)) n t'))
   |_=>false)=true
  refine elemsF_true h fun l hl=>getK_imp hl fun ao ho=>?_
  split at ho
  ·rename_i own room esz' c e'
   rw[forceN_eq]at ho
   show(forceN (min m a) fun q=>match Nat.beq q 0 with
    |true=>K (.int .i64 0) n t
    |false=>asT own (asT (Nat.ble (o+q*esz) c.length) (t.setK b (.cells own room esz' (c.take o++l.take (q*esz)++c.drop (o+q*esz)) e') fun t'=>K (.int .i64 (.ofNat q)) n t')))=true
   rw[forceN_eq]
   cases e0:Nat.beq (min m a) 0
   ·rw[e0]at ho
    dsimp only at ho ⊢
    obtain⟨h1,h2⟩:=takeX_true ho
    obtain⟨h3,h4⟩:=asT_true h2
    obtain⟨h5,h6⟩:=asT_true h4
    obtain⟨h7,h8⟩:=spX_true h6
    have e:=Nat.eq_of_beq_eq_true h5
    rw[e]at h7 h8
    exact asT_of h3 (asT_of (ble_of h7) h8)
   ·rw[e0]at ho;exact ho
  ·cases ho
 ·cases h
noncomputable def e_fr(i:Nat)(fr tm:List Value)(K:Value→Bool):Bool:=nthK fr i K
noncomputable def e_tm(i:Nat)(fr tm:List Value)(K:Value→Bool):Bool:=nthK tm i K
noncomputable def e_c(v:Value)(fr tm:List Value)(K:Value→Bool):Bool:=K v
noncomputable def e_g(m:Nat)(fr tm:List Value)(K:Value→Bool):Bool:=K (.pointer (some ⟨m,0,none⟩))
noncomputable def e_fn(f:FuncId)(fr tm:List Value)(K:Value→Bool):Bool:=K (.func (.func f) #[] #[])
noncomputable def evF(x:AX):List Value→List Value→(Value→Bool)→Bool:=AX.rec (motive:=fun _=>List Value→List Value→(Value→Bool)→Bool) e_fr e_tm e_c e_g e_fn x
noncomputable def i_add(k:IntKind)(a b:Int)(K:Value→Bool):Bool:=wrapT k (a+b) fun r=>K (.int k r)
noncomputable def r_add(a b:ByteArray)(K:Value→Bool):Bool:=Bool.rec (motive:=fun _=>Bool) false (K (.string (bCat a b))) (Nat.ble (bLen a+bLen b) 140737488355328)
noncomputable def b_add(x y:Value)(K:Value→Bool):Bool:=match x,y with
 | .int k a,.int k' b=>Bool.rec (motive:=fun _=>Bool) false (i_add k a b K) (Nat.beq (kNum k) (kNum k'))
 | .string a,.string b=>r_add a b K
 |_,_=>false
noncomputable def i_sub(k:IntKind)(a b:Int)(K:Value→Bool):Bool:=wrapT k (a-b) fun r=>K (.int k r)
noncomputable def b_sub(x y:Value)(K:Value→Bool):Bool:=match x,y with
 | .int k a,.int k' b=>Bool.rec (motive:=fun _=>Bool) false (i_sub k a b K) (Nat.beq (kNum k) (kNum k'))
 |_,_=>false
noncomputable def i_mul(k:IntKind)(a b:Int)(K:Value→Bool):Bool:=wrapT k (a*b) fun r=>K (.int k r)
noncomputable def b_mul(x y:Value)(K:Value→Bool):Bool:=match x,y with
 | .int k a,.int k' b=>Bool.rec (motive:=fun _=>Bool) false (i_mul k a b K) (Nat.beq (kNum k) (kNum k'))
 |_,_=>false
noncomputable def i_quo(k:IntKind)(a b:Int)(K:Value→Bool):Bool:=Bool.rec (motive:=fun _=>Bool) (wrapT k (a.tdiv b) fun r=>K (.int k r)) false (iEq b 0)
noncomputable def b_quo(x y:Value)(K:Value→Bool):Bool:=match x,y with
 | .int k a,.int k' b=>Bool.rec (motive:=fun _=>Bool) false (i_quo k a b K) (Nat.beq (kNum k) (kNum k'))
 |_,_=>false
noncomputable def i_rem(k:IntKind)(a b:Int)(K:Value→Bool):Bool:=Bool.rec (motive:=fun _=>Bool) (forceI (a.tmod b) fun r=>K (.int k r)) false (iEq b 0)
noncomputable def b_rem(x y:Value)(K:Value→Bool):Bool:=match x,y with
 | .int k a,.int k' b=>Bool.rec (motive:=fun _=>Bool) false (i_rem k a b K) (Nat.beq (kNum k) (kNum k'))
 |_,_=>false
noncomputable def i_and(k:IntKind)(a b:Int)(K:Value→Bool):Bool:=bitT k Nat.land (k.wrap (BitVec.ofInt k.bits a&&& BitVec.ofInt k.bits b).toNat) a b fun r=>K (.int k r)
noncomputable def b_and(x y:Value)(K:Value→Bool):Bool:=match x,y with
 | .int k a,.int k' b=>Bool.rec (motive:=fun _=>Bool) false (i_and k a b K) (Nat.beq (kNum k) (kNum k'))
 |_,_=>false
noncomputable def i_or(k:IntKind)(a b:Int)(K:Value→Bool):Bool:=bitT k Nat.lor (k.wrap (BitVec.ofInt k.bits a|||BitVec.ofInt k.bits b).toNat) a b fun r=>K (.int k r)
noncomputable def b_or(x y:Value)(K:Value→Bool):Bool:=match x,y with
 | .int k a,.int k' b=>Bool.rec (motive:=fun _=>Bool) false (i_or k a b K) (Nat.beq (kNum k) (kNum k'))
 |_,_=>false
noncomputable def i_xor(k:IntKind)(a b:Int)(K:Value→Bool):Bool:=bitT k Nat.xor (k.wrap (BitVec.ofInt k.bits a ^^^ BitVec.ofInt k.bits b).toNat) a b fun r=>K (.int k r)
noncomputable def b_xor(x y:Value)(K:Value→Bool):Bool:=match x,y with
 | .int k a,.int k' b=>Bool.rec (motive:=fun _=>Bool) false (i_xor k a b K) (Nat.beq (kNum k) (kNum k'))
 |_,_=>false
noncomputable def b_shl(x y:Value)(K:Value→Bool):Bool:=match x,y with
 | .int k a,.int k' b=>shT k b fun s=>wrapT k (upT a s) fun r=>K (.int k r)
 |_,_=>false
noncomputable def b_shr(x y:Value)(K:Value→Bool):Bool:=match x,y with
 | .int k a,.int k' b=>shT k b fun s=>forceI (downT a s) fun r=>K (.int k r)
 |_,_=>false
noncomputable def i_andNot(k:IntKind)(a b:Int)(K:Value→Bool):Bool:=bitT k (fun m n=>Nat.xor m (Nat.land m n)) (k.wrap (BitVec.ofInt k.bits a&&& ~~~ BitVec.ofInt k.bits b).toNat) a b fun r=>K (.int k r)
noncomputable def b_andNot(x y:Value)(K:Value→Bool):Bool:=match x,y with
 | .int k a,.int k' b=>Bool.rec (motive:=fun _=>Bool) false (i_andNot k a b K) (Nat.beq (kNum k) (kNum k'))
 |_,_=>false
noncomputable def i_eql(k:IntKind)(a b:Int)(K:Value→Bool):Bool:=forceB (iEq a b) fun r=>K (.bool r)
noncomputable def r_eql(a b:ByteArray)(K:Value→Bool):Bool:=forceB (bEq a.data.toList b.data.toList) fun r=>K (.bool r)
noncomputable def b_eql(x y:Value)(K:Value→Bool):Bool:=match x,y with
 | .int k a,.int k' b=>Bool.rec (motive:=fun _=>Bool) false (i_eql k a b K) (Nat.beq (kNum k) (kNum k'))
 | .string a,.string b=>r_eql a b K
 |_,_=>false
noncomputable def i_neq(k:IntKind)(a b:Int)(K:Value→Bool):Bool:=forceB (iEq a b) fun r=>K (.bool (!r))
noncomputable def r_neq(a b:ByteArray)(K:Value→Bool):Bool:=forceB (bEq a.data.toList b.data.toList) fun r=>K (.bool (!r))
noncomputable def b_neq(x y:Value)(K:Value→Bool):Bool:=match x,y with
 | .int k a,.int k' b=>Bool.rec (motive:=fun _=>Bool) false (i_neq k a b K) (Nat.beq (kNum k) (kNum k'))
 | .string a,.string b=>r_neq a b K
 |_,_=>false
noncomputable def i_lss(k:IntKind)(a b:Int)(K:Value→Bool):Bool:=forceB (iLt a b) fun r=>K (.bool r)
noncomputable def r_lss(a b:ByteArray)(K:Value→Bool):Bool:=forceB (Op.bytesLess a.data.toList b.data.toList) fun r=>K (.bool r)
noncomputable def b_lss(x y:Value)(K:Value→Bool):Bool:=match x,y with
 | .int k a,.int k' b=>Bool.rec (motive:=fun _=>Bool) false (i_lss k a b K) (Nat.beq (kNum k) (kNum k'))
 | .string a,.string b=>r_lss a b K
 |_,_=>false
noncomputable def i_leq(k:IntKind)(a b:Int)(K:Value→Bool):Bool:=forceB (iLt b a) fun r=>K (.bool (!r))
noncomputable def r_leq(a b:ByteArray)(K:Value→Bool):Bool:=forceB (Op.bytesLess a.data.toList b.data.toList||bEq a.data.toList b.data.toList) fun r=>K (.bool r)
noncomputable def b_leq(x y:Value)(K:Value→Bool):Bool:=match x,y with
 | .int k a,.int k' b=>Bool.rec (motive:=fun _=>Bool) false (i_leq k a b K) (Nat.beq (kNum k) (kNum k'))
 | .string a,.string b=>r_leq a b K
 |_,_=>false
noncomputable def i_gtr(k:IntKind)(a b:Int)(K:Value→Bool):Bool:=forceB (iLt b a) fun r=>K (.bool r)
noncomputable def r_gtr(a b:ByteArray)(K:Value→Bool):Bool:=forceB (!(Op.bytesLess a.data.toList b.data.toList||bEq a.data.toList b.data.toList)) fun r=>K (.bool r)
noncomputable def b_gtr(x y:Value)(K:Value→Bool):Bool:=match x,y with
 | .int k a,.int k' b=>Bool.rec (motive:=fun _=>Bool) false (i_gtr k a b K) (Nat.beq (kNum k) (kNum k'))
 | .string a,.string b=>r_gtr a b K
 |_,_=>false
noncomputable def i_geq(k:IntKind)(a b:Int)(K:Value→Bool):Bool:=forceB (iLt a b) fun r=>K (.bool (!r))
noncomputable def r_geq(a b:ByteArray)(K:Value→Bool):Bool:=forceB (!Op.bytesLess a.data.toList b.data.toList) fun r=>K (.bool r)
noncomputable def b_geq(x y:Value)(K:Value→Bool):Bool:=match x,y with
 | .int k a,.int k' b=>Bool.rec (motive:=fun _=>Bool) false (i_geq k a b K) (Nat.beq (kNum k) (kNum k'))
 | .string a,.string b=>r_geq a b K
 |_,_=>false
noncomputable def binF(op:BinOp):Value→Value→(Value→Bool)→Bool:=BinOp.rec (motive:=fun _=>Value→Value→(Value→Bool)→Bool) b_add b_sub b_mul b_quo b_rem b_and b_or b_xor b_shl b_shr b_andNot b_eql b_neq b_lss b_leq b_gtr b_geq op
theorem binF_eq:binF=binT:=by
 funext op x y K
 cases op<;>cases x<;>first|rfl|(cases y<;>rfl)
noncomputable def t_pick(c:Value)(a:Value)(b:Value)(n0:Nat)(t0:HT)(K:CK):Bool:=optK (match c with
 | .bool t=>some (if t then a else b)
 |_=>none) fun v=>K v n0 t0
noncomputable def t_new(e:TypeId)(esz:Nat)(z:List Value)(n:Nat)(t:HT)(K:CK):Bool:=asT (allOne z) (allocT (.cells true false esz z e) n t fun n' t'=>K (ptr n 0) n' t')
noncomputable def t_box(e:TypeId)(esz:Nat)(x:Value)(n:Nat)(t:HT)(K:CK):Bool:=asT (allOne x.cells.toList) (allocT (.cells true false esz x.cells.toList e) n t fun n' t'=>K (ptr n 0) n' t')
noncomputable def t_build(z:List Value)(ps:List (Nat×Nat×Value))(n0:Nat)(t0:HT)(K:CK):Bool:=optK ((fillA z ps).map fun c=>.agg c.toArray) fun v=>K v n0 t0
noncomputable def t_bslice(e:TypeId)(esz:Nat)(m:Nat)(z:List Value)(ps:List (Nat×Nat×Value))(n:Nat)(t:HT)(K:CK):Bool:=match fillA z ps with
 |some c=>asT (allOne c) (asT (Nat.beq c.length (m*esz)) (allocT (.cells true false esz c e) n t fun n' t'=>K (slc n 0 m m) n' t'))
 |none=>false
noncomputable def t_load1(x:Value)(n:Nat)(t:HT)(K:CK):Bool:=match x with
 | .pointer (some ⟨b,o,none⟩)=>t.getK b fun ao=>match ao with
  | .cells _ _ _ c _=>nthO c o fun v=>K v n t
  |_=>false
 |_=>false
noncomputable def t_store1(a:Value)(x:Value)(n:Nat)(t:HT)(K:CK):Bool:=match a with
 | .pointer (some ⟨b,o,none⟩)=>t.getK b fun ao=>match ao with
  | .cells true room esz c e=>asT (Nat.ble (o+1) c.length) (asT x.oneCell' (updK x c o fun c'=>t.setK b (.cells true room esz c' e) fun t'=>K undef n t'))
  |_=>false
 |_=>false
noncomputable def t_nilck(x:Value)(n0:Nat)(t0:HT)(K:CK):Bool:=optK (match x with
 | .pointer (some _)=>some x
 | .iface _ _=>some x
 | .func (.func _) _ _=>some x
 |_=>none) fun v=>K v n0 t0
noncomputable def t_eqv(k:Nat)(neg:Bool)(x:Value)(y:Value)(n0:Nat)(t0:HT)(K:CK):Bool:=optK ((eqA k x y).map fun b=>.bool (if neg then !b else b)) fun v=>K v n0 t0
noncomputable def t_un(op:UnOp)(x:Value)(n0:Nat)(t0:HT)(K:CK):Bool:=optK (match op,x with
 | .not,.bool b=>some (.bool (!b))
 | .neg,.int k n=>some (.int k (k.wrap (0-n)))
 | .xor,.int k n=>some (.int k (k.wrap (BitVec.ofInt k.bits (if k.signed then-1 else k.max) ^^^ BitVec.ofInt k.bits n).toNat))
 |_,_=>none) fun v=>K v n0 t0
noncomputable def t_i2i(k:IntKind)(x:Value)(n:Nat)(t:HT)(K:CK):Bool:=match x with
 | .int _ i=>wrapT k i fun r=>K (.int k r) n t
 |_=>false
noncomputable def t_s2s(x:Value)(n0:Nat)(t0:HT)(K:CK):Bool:=optK (match x with
 | .string s=>some (.string s)
 |_=>none) fun v=>K v n0 t0
noncomputable def t_s2b(e:TypeId)(x:Value)(n:Nat)(t:HT)(K:CK):Bool:=match x with
 | .string s=>forceN (bLen s) fun m=>allocT (.cells true true 1 (s.data.toList.map fun b=>.int .u8 b.toNat) e) n t fun n' t'=>K (slc n 0 m m) n' t'
 |_=>false
noncomputable def t_mkfn(fn:Fn)(xs:List Value)(ys:List Value)(n0:Nat)(t0:HT)(K:CK):Bool:=optK (some (.func fn xs.toArray ys.toArray)) fun v=>K v n0 t0
noncomputable def t_mksl(e:TypeId)(esz:Nat)(bytes:Nat)(z:List Value)(l:Value)(c:Value)(n:Nat)(t:HT)(K:CK):Bool:=match l,c with
 | .int .i64 (.ofNat l),.int .i64 (.ofNat c)=>asT (Nat.ble l c) (asT (Nat.ble (bytes*c) 140737488355328) (asT (Nat.ble c 140737488355328) (asT (Nat.beq z.length esz) (asT (allOne z)
   (forceN l fun l=>forceN c fun c=>allocT (.cells true false esz (List.replicate c z).flatten e) n t fun n' t'=>K (slc n 0 l c) n' t')))))
 |_,_=>false
noncomputable def t_slstr(x:Value)(lo:Option Value)(hi:Option Value)(n:Nat)(t:HT)(K:CK):Bool:=match x with
 | .string s=>bndT hi (bLen s) (bLen s) fun h=>bndT lo 0 h fun l=>K (.string (bSub s l h)) n t
 |_=>false
noncomputable def t_slsl(esz:Nat)(x:Value)(lo:Option Value)(hi:Option Value)(mx:Option Value)(n:Nat)(t:HT)(K:CK):Bool:=match x with
 | .slice a m k=>bndT mx k k fun mm=>bndT hi m mm fun h=>bndT lo 0 h fun l=>match a with
  |none=>K (.slice none 0 0) n t
  |some ⟨b,o,none⟩=>t.getK b fun ao=>match ao with
   | .cells _ room esz' _ _=>asT (Nat.beq esz' esz|| !room) (forceN (o+l*esz) fun o'=>forceN (h-l) fun m'=>forceN (mm-l) fun k'=>K (slc b o' m' k') n t)
   |_=>false
  |_=>false
 |_=>false
noncomputable def t_faddr(off:Nat)(x:Value)(n:Nat)(t:HT)(K:CK):Bool:=match x with
 | .pointer (some ⟨b,o,none⟩)=>forceN (o+off) fun o'=>K (ptr b o') n t
 |_=>false
noncomputable def t_fld1(off:Nat)(x:Value)(n:Nat)(t:HT)(K:CK):Bool:=match x with
 | .agg cs=>nthO cs.toList off fun v=>K v n t
 |_=>false
noncomputable def t_fldn(off:Nat)(n:Nat)(x:Value)(n0:Nat)(t0:HT)(K:CK):Bool:=optK (match x with
 | .agg cs=>if off+n≤cs.size then some (.agg ((cs.toList.drop off).take n).toArray)else none
 |_=>none) fun v=>K v n0 t0
noncomputable def t_iaddr(esz:Nat)(x:Value)(i:Value)(n:Nat)(t:HT)(K:CK):Bool:=match x,i with
 | .slice (some ⟨b,o,none⟩) m _,.int _ (.ofNat i)=>asT (Nat.ble (i+1) m) (forceN (o+i*esz) fun o'=>K (ptr b o') n t)
 |_,_=>false
noncomputable def t_idxs(x:Value)(i:Value)(n0:Nat)(t0:HT)(K:CK):Bool:=optK (match x,i with
 | .string s,.int _ i=>if 0≤i∧i<(s.size:Int)then(s.data.toList[i.toNat]?).map fun b=>.int .u8 b.toNat else none
 |_,_=>none) fun v=>K v n0 t0
noncomputable def t_assert(t:TypeId)(z:Value)(ok:Bool)(x:Value)(n0:Nat)(t0:HT)(K:CK):Bool:=optK (match x with
 | .iface u v=>if u=t then some (if ok then .tuple #[v,.bool true]else v)else if ok then some (.tuple #[z,.bool false])else none
 | .nilIface=>if ok then some (.tuple #[z,.bool false])else none
 |_=>none) fun v=>K v n0 t0
noncomputable def t_extract(x:Value)(i:Nat)(n:Nat)(t:HT)(K:CK):Bool:=match x with
 | .tuple vs=>nthO vs.toList i fun v=>K v n t
 |_=>false
noncomputable def t_len(str:Bool)(x:Value)(n:Nat)(t:HT)(K:CK):Bool:=match str,x with
 |false,.slice _ m _=>K (.int .i64 (.ofNat m)) n t
 |true,.string s=>forceN (bLen s) fun m=>K (.int .i64 (.ofNat m)) n t
 |_,_=>false
noncomputable def t_mark(x:Value)(n:Nat)(t:HT)(K:CK):Bool:=match x with
 | .slice (some ⟨b,_,none⟩) _ _=>t.getK b fun ao=>match ao with
  | .cells true _ _ _ _=>K x n t
  |_=>false
 |_=>false
noncomputable def t_iaddrp(esz:Nat)(m:Nat)(x:Value)(i:Value)(n:Nat)(t:HT)(K:CK):Bool:=match x,i with
 | .pointer (some ⟨b,o,none⟩),.int _ (.ofNat i)=>asT (Nat.ble (i+1) m) (forceN (o+i*esz) fun o'=>K (ptr b o') n t)
 |_,_=>false
noncomputable def t_idxa(agg:Bool)(esz:Nat)(n:Nat)(x:Value)(i:Value)(n0:Nat)(t0:HT)(K:CK):Bool:=optK (match x,i with
 | .agg cs,.int _ i=>if 0≤i∧i<(n:Int)then
   (if agg then(if i.toNat*esz+esz≤cs.size then some (.agg ((cs.toList.drop (i.toNat*esz)).take esz).toArray)else none)
   else cs.toList[i.toNat*esz]?)else none
 |_,_=>none) fun v=>K v n0 t0
noncomputable def t_slarr(esz:Nat)(len:Nat)(x:Value)(lo:Option Value)(hi:Option Value)(mx:Option Value)(n:Nat)(t:HT)(K:CK):Bool:=match x with
 | .pointer (some ⟨b,o,none⟩)=>bndT mx len len fun mm=>bndT hi len mm fun h=>bndT lo 0 h fun l=>forceN (o+l*esz) fun o'=>forceN (h-l) fun m'=>forceN (mm-l) fun k'=>K (slc b o' m' k') n t
 |_=>false
noncomputable def t_eqs(cs:List Nat)(neg:Bool)(x:Value)(y:Value)(n0:Nat)(t0:HT)(K:CK):Bool:=optK (match x,y with
 | .agg xs,.agg ys=>(eqCs cs xs.toList ys.toList).map fun b=>.bool (if neg then !b else b)
 |_,_=>none) fun v=>K v n0 t0
noncomputable def t_mm(mx:Bool)(x:Value)(y:Value)(n0:Nat)(t0:HT)(K:CK):Bool:=optK (match x,y with
 | .int k a,.int k' b=>if k=k' then some (.int k (if mx then(if b>a then b else a)else(if b<a then b else a)))else none
 |_,_=>none) fun v=>K v n0 t0
noncomputable def t_mm4(mx:Bool)(x:Value)(y:Value)(z:Value)(w:Value)(n:Nat)(t:HT)(K:CK):Bool:=match x,y,z,w with
 | .int k a,.int k1 b,.int k2 c,.int k3 d=>asT (decide (k=k1∧k=k2∧k=k3)) (forceI (mmI mx (mmI mx (mmI mx a b) c) d) fun r=>K (.int k r) n t)
 |_,_,_,_=>false
noncomputable def t_i2str(x:Value)(n0:Nat)(t0:HT)(K:CK):Bool:=optK (match x with
 | .int _ n=>some (.string (Utf8.encode n))
 |_=>none) fun v=>K v n0 t0
noncomputable def t_rng(x:Value)(n:Nat)(t:HT)(K:CK):Bool:=match x with
 | .string s=>allocT (.obj true (.stringIter s 0)) n t fun n' t'=>K (ptr n 0) n' t'
 |_=>false
noncomputable def t_next(x:Value)(n:Nat)(t:HT)(K:CK):Bool:=match x with
 | .pointer (some ⟨b,0,none⟩)=>t.getK b fun ao=>match ao with
  | .obj true (.stringIter s pos)=>match Nat.ble (pos+1) (bLen s)with
   |true=>forceI (Utf8.decode s pos).1 fun c=>forceN (pos+(Utf8.decode s pos).2) fun q=>t.setK b (.obj true (.stringIter s q)) fun t'=>K (.tuple #[.bool true,.int .i64 pos,.int .i32 c]) n t'
   |false=>K (.tuple #[.bool false]) n t
  |_=>false
 |_=>false
noncomputable def t_clr(esz:Nat)(z:List Value)(x:Value)(n:Nat)(t:HT)(K:CK):Bool:=match x with
 | .slice none a k=>asT (Nat.beq a 0) (asT (Nat.beq k 0) (K (.tuple #[]) n t))
 | .slice (some ⟨b,o,none⟩) a _=>match Nat.beq a 0 with
  |true=>K (.tuple #[]) n t
  |false=>t.getK b fun ao=>match ao with
   | .cells own room esz' c e=>asT own (asT (Nat.ble (o+a*esz) c.length) (asT (Nat.beq z.length esz) (asT (allOne z) (t.setK b (.cells own room esz' (c.take o++(List.replicate a z).flatten++c.drop (o+a*esz)) e) fun t'=>K (.tuple #[]) n t'))))
   |_=>false
 |_=>false
noncomputable def t_mkmap(n:Nat)(t:HT)(K:CK):Bool:=allocT (.obj true (.map #[] 0)) n t fun n' t'=>K (.map (some n)) n' t'
noncomputable def t_mget(kk:TypeDesc)(z:Value)(ok:Bool)(m:Value)(k:Value)(n:Nat)(t:HT)(K:CK):Bool:=asT (keyB kk k) (match m with
 | .map none=>optK (mgetA z ok (some none)) fun v=>K v n t
 | .map (some b)=>t.getK b fun ao=>match ao with
  | .obj _ (.map es _)=>optK (mgetA z ok (Instr.findNow kk k es.toList 0)) fun v=>K v n t
  |_=>false
 |_=>false)
noncomputable def t_mset(kk:TypeDesc)(m:Value)(k:Value)(x:Value)(n:Nat)(t:HT)(K:CK):Bool:=asT (keyB kk k) (match m with
 | .map (some b)=>t.getK b fun ao=>match ao with
  | .obj true (.map es clock)=>match Instr.findNow kk k es.toList 0 with
   |some (some (i,_))=>t.setK b (.obj true (.map (es.modify i fun e=>{e with key:=k,val:=x}) clock)) fun t'=>K undef n t'
   |some none=>t.setK b (.obj true (.map (es.push {key:=k,val:=x,born:=clock}) (clock+1))) fun t'=>K undef n t'
   |none=>false
  |_=>false
 |_=>false)
noncomputable def t_cap(x:Value)(n:Nat)(t:HT)(K:CK):Bool:=match x with
 | .slice none a k=>asT (Nat.beq a 0) (asT (Nat.beq k 0) (K (.int .i64 0) n t))
 | .slice (some ⟨b,_,none⟩) _ k=>t.getK b fun ao=>match ao with
  | .cells _ false _ _ _=>K (.int .i64 (.ofNat k)) n t
  |_=>false
 |_=>false
noncomputable def t_appz(e:TypeId)(esz:Nat)(bytes:Nat)(z:List Value)(s:Value)(x:Value)(n:Nat)(t:HT)(K:CK):Bool:=match x with
 | .int .i64 (.ofNat m)=>asT (Nat.ble (m*bytes) 140737488355328) (asT (Nat.ble m 140737488355328) (forceN m fun m=>appT e esz bytes s m (List.replicate m z).flatten n t K))
 |_=>false
noncomputable def s_mov(x:AX)(call:Caller)(yc:YC)(fr tm:List Value)(n:Nat)(t:HT)(K:CK):Bool:=evF x fr tm fun v=>K v n t
noncomputable def s_pick(c:AX)(a:AX)(b:AX)(call:Caller)(yc:YC)(fr tm:List Value)(n:Nat)(t:HT)(K:CK):Bool:=evF c fr tm fun c=>evF a fr tm fun a=>evF b fr tm fun b=>t_pick c a b n t K
noncomputable def s_new(e:TypeId)(s:Nat)(z:List Value)(call:Caller)(yc:YC)(fr tm:List Value)(n:Nat)(t:HT)(K:CK):Bool:=t_new e s z n t K
noncomputable def s_box(e:TypeId)(s:Nat)(x:AX)(call:Caller)(yc:YC)(fr tm:List Value)(n:Nat)(t:HT)(K:CK):Bool:=evF x fr tm fun x=>t_box e s x n t K
noncomputable def s_build(z:List Value)(ps:List (Nat×Nat×AX))(call:Caller)(yc:YC)(fr tm:List Value)(n:Nat)(t:HT)(K:CK):Bool:=evPs ps fr tm fun ps=>t_build z ps n t K
noncomputable def s_bslice(e:TypeId)(s:Nat)(m:Nat)(z:List Value)(ps:List (Nat×Nat×AX))(call:Caller)(yc:YC)(fr tm:List Value)(n:Nat)(t:HT)(K:CK):Bool:=evPs ps fr tm fun ps=>t_bslice e s m z ps n t K
noncomputable def s_load1(x:AX)(call:Caller)(yc:YC)(fr tm:List Value)(n:Nat)(t:HT)(K:CK):Bool:=evF x fr tm fun x=>t_load1 x n t K
noncomputable def s_loadn(m:Nat)(x:AX)(call:Caller)(yc:YC)(fr tm:List Value)(n:Nat)(t:HT)(K:CK):Bool:=evF x fr tm fun x=>t_loadn m x n t K
noncomputable def s_store1(a:AX)(x:AX)(call:Caller)(yc:YC)(fr tm:List Value)(n:Nat)(t:HT)(K:CK):Bool:=evF a fr tm fun a=>evF x fr tm fun x=>t_store1 a x n t K
noncomputable def s_storen(m:Nat)(a:AX)(x:AX)(call:Caller)(yc:YC)(fr tm:List Value)(n:Nat)(t:HT)(K:CK):Bool:=evF a fr tm fun a=>evF x fr tm fun x=>t_storen m a x n t K
noncomputable def s_nilck(x:AX)(call:Caller)(yc:YC)(fr tm:List Value)(n:Nat)(t:HT)(K:CK):Bool:=evF x fr tm fun x=>t_nilck x n t K
noncomputable def s_bin(op:BinOp)(x:AX)(y:AX)(call:Caller)(yc:YC)(fr tm:List Value)(n:Nat)(t:HT)(K:CK):Bool:=evF x fr tm fun x=>evF y fr tm fun y=>binF op x y fun v=>K v n t
noncomputable def s_eqv(k:Nat)(m:Bool)(x:AX)(y:AX)(call:Caller)(yc:YC)(fr tm:List Value)(n:Nat)(t:HT)(K:CK):Bool:=evF x fr tm fun x=>evF y fr tm fun y=>t_eqv k m x y n t K
noncomputable def s_un(op:UnOp)(x:AX)(call:Caller)(yc:YC)(fr tm:List Value)(n:Nat)(t:HT)(K:CK):Bool:=evF x fr tm fun x=>t_un op x n t K
noncomputable def s_i2i(k:IntKind)(x:AX)(call:Caller)(yc:YC)(fr tm:List Value)(n:Nat)(t:HT)(K:CK):Bool:=evF x fr tm fun x=>t_i2i k x n t K
noncomputable def s_s2s(x:AX)(call:Caller)(yc:YC)(fr tm:List Value)(n:Nat)(t:HT)(K:CK):Bool:=evF x fr tm fun x=>t_s2s x n t K
noncomputable def s_s2b(e:TypeId)(x:AX)(call:Caller)(yc:YC)(fr tm:List Value)(n:Nat)(t:HT)(K:CK):Bool:=evF x fr tm fun x=>t_s2b e x n t K
noncomputable def s_b2s(x:AX)(call:Caller)(yc:YC)(fr tm:List Value)(n:Nat)(t:HT)(K:CK):Bool:=evF x fr tm fun x=>t_b2s x n t K
noncomputable def s_iface(u:TypeId)(x:AX)(call:Caller)(yc:YC)(fr tm:List Value)(n:Nat)(t:HT)(K:CK):Bool:=evF x fr tm fun x=>K (.iface u x) n t
noncomputable def s_mkfn(fn:Fn)(xs:List AX)(ys:List AX)(call:Caller)(yc:YC)(fr tm:List Value)(n:Nat)(t:HT)(K:CK):Bool:=evXs xs fr tm fun xs=>evXs ys fr tm fun ys=>t_mkfn fn xs ys n t K
noncomputable def s_mksl(e:TypeId)(s:Nat)(b:Nat)(z:List Value)(l:AX)(c:AX)(call:Caller)(yc:YC)(fr tm:List Value)(n:Nat)(t:HT)(K:CK):Bool:=evF l fr tm fun l=>evF c fr tm fun c=>t_mksl e s b z l c n t K
noncomputable def s_slstr(x:AX)(lo:Option AX)(hi:Option AX)(call:Caller)(yc:YC)(fr tm:List Value)(n:Nat)(t:HT)(K:CK):Bool:=evF x fr tm fun x=>evO lo fr tm fun lo=>evO hi fr tm fun hi=>t_slstr x lo hi n t K
noncomputable def s_slsl(s:Nat)(x:AX)(lo:Option AX)(hi:Option AX)(mx:Option AX)(call:Caller)(yc:YC)(fr tm:List Value)(n:Nat)(t:HT)(K:CK):Bool:=evF x fr tm fun x=>evO lo fr tm fun lo=>evO hi fr tm fun hi=>evO mx fr tm fun mx=>t_slsl s x lo hi mx n t K
noncomputable def s_faddr(o:Nat)(x:AX)(call:Caller)(yc:YC)(fr tm:List Value)(n:Nat)(t:HT)(K:CK):Bool:=evF x fr tm fun x=>t_faddr o x n t K
noncomputable def s_fld1(o:Nat)(x:AX)(call:Caller)(yc:YC)(fr tm:List Value)(n:Nat)(t:HT)(K:CK):Bool:=evF x fr tm fun x=>t_fld1 o x n t K
noncomputable def s_fldn(o:Nat)(m:Nat)(x:AX)(call:Caller)(yc:YC)(fr tm:List Value)(n:Nat)(t:HT)(K:CK):Bool:=evF x fr tm fun x=>t_fldn o m x n t K
noncomputable def s_iaddr(s:Nat)(x:AX)(i:AX)(call:Caller)(yc:YC)(fr tm:List Value)(n:Nat)(t:HT)(K:CK):Bool:=evF x fr tm fun x=>evF i fr tm fun i=>t_iaddr s x i n t K
noncomputable def s_idxs(x:AX)(i:AX)(call:Caller)(yc:YC)(fr tm:List Value)(n:Nat)(t:HT)(K:CK):Bool:=evF x fr tm fun x=>evF i fr tm fun i=>t_idxs x i n t K
noncomputable def s_assert(u:TypeId)(z:Value)(ok:Bool)(x:AX)(call:Caller)(yc:YC)(fr tm:List Value)(n:Nat)(t:HT)(K:CK):Bool:=evF x fr tm fun x=>t_assert u z ok x n t K
noncomputable def s_extract(x:AX)(i:Nat)(call:Caller)(yc:YC)(fr tm:List Value)(n:Nat)(t:HT)(K:CK):Bool:=evF x fr tm fun x=>t_extract x i n t K
noncomputable def s_len(s:Bool)(x:AX)(call:Caller)(yc:YC)(fr tm:List Value)(n:Nat)(t:HT)(K:CK):Bool:=evF x fr tm fun x=>t_len s x n t K
noncomputable def s_app(e:TypeId)(s:Nat)(b:Nat)(x:AX)(y:AX)(call:Caller)(yc:YC)(fr tm:List Value)(n:Nat)(t:HT)(K:CK):Bool:=evF x fr tm fun x=>evF y fr tm fun y=>t_app e s b x y n t K
noncomputable def s_mark(x:AX)(call:Caller)(yc:YC)(fr tm:List Value)(n:Nat)(t:HT)(K:CK):Bool:=evF x fr tm fun x=>t_mark x n t K
noncomputable def s_iaddrp(s:Nat)(m:Nat)(x:AX)(i:AX)(call:Caller)(yc:YC)(fr tm:List Value)(n:Nat)(t:HT)(K:CK):Bool:=evF x fr tm fun x=>evF i fr tm fun i=>t_iaddrp s m x i n t K
noncomputable def s_idxa(a:Bool)(s:Nat)(m:Nat)(x:AX)(i:AX)(call:Caller)(yc:YC)(fr tm:List Value)(n:Nat)(t:HT)(K:CK):Bool:=evF x fr tm fun x=>evF i fr tm fun i=>t_idxa a s m x i n t K
noncomputable def s_slarr(s:Nat)(m:Nat)(x:AX)(lo:Option AX)(hi:Option AX)(mx:Option AX)(call:Caller)(yc:YC)(fr tm:List Value)(n:Nat)(t:HT)(K:CK):Bool:=evF x fr tm fun x=>evO lo fr tm fun lo=>evO hi fr tm fun hi=>evO mx fr tm fun mx=>t_slarr s m x lo hi mx n t K
noncomputable def s_eqs(cs:List Nat)(m:Bool)(x:AX)(y:AX)(call:Caller)(yc:YC)(fr tm:List Value)(n:Nat)(t:HT)(K:CK):Bool:=evF x fr tm fun x=>evF y fr tm fun y=>t_eqs cs m x y n t K
noncomputable def s_mm(m:Bool)(x:AX)(y:AX)(call:Caller)(yc:YC)(fr tm:List Value)(n:Nat)(t:HT)(K:CK):Bool:=evF x fr tm fun x=>evF y fr tm fun y=>t_mm m x y n t K
noncomputable def s_mm4(m:Bool)(x:AX)(y:AX)(z:AX)(w:AX)(call:Caller)(yc:YC)(fr tm:List Value)(n:Nat)(t:HT)(K:CK):Bool:=evF x fr tm fun x=>evF y fr tm fun y=>evF z fr tm fun z=>evF w fr tm fun w=>t_mm4 m x y z w n t K
noncomputable def s_i2str(x:AX)(call:Caller)(yc:YC)(fr tm:List Value)(n:Nat)(t:HT)(K:CK):Bool:=evF x fr tm fun x=>t_i2str x n t K
noncomputable def s_rng(x:AX)(call:Caller)(yc:YC)(fr tm:List Value)(n:Nat)(t:HT)(K:CK):Bool:=evF x fr tm fun x=>t_rng x n t K
noncomputable def s_next(x:AX)(call:Caller)(yc:YC)(fr tm:List Value)(n:Nat)(t:HT)(K:CK):Bool:=evF x fr tm fun x=>t_next x n t K
noncomputable def s_copy(s:Nat)(d:AX)(x:AX)(call:Caller)(yc:YC)(fr tm:List Value)(n:Nat)(t:HT)(K:CK):Bool:=evF d fr tm fun d=>evF x fr tm fun x=>t_copy s d x n t K
noncomputable def s_clr(s:Nat)(z:List Value)(x:AX)(call:Caller)(yc:YC)(fr tm:List Value)(n:Nat)(t:HT)(K:CK):Bool:=evF x fr tm fun x=>t_clr s z x n t K
noncomputable def s_apps(e:TypeId)(b:Nat)(x:AX)(y:AX)(call:Caller)(yc:YC)(fr tm:List Value)(n:Nat)(t:HT)(K:CK):Bool:=evF x fr tm fun x=>evF y fr tm fun y=>t_apps e b x y n t K
noncomputable def s_mkmap(call:Caller)(yc:YC)(fr tm:List Value)(n:Nat)(t:HT)(K:CK):Bool:=t_mkmap n t K
noncomputable def s_mget(kk:TypeDesc)(z:Value)(ok:Bool)(m:AX)(k:AX)(call:Caller)(yc:YC)(fr tm:List Value)(n:Nat)(t:HT)(K:CK):Bool:=evF m fr tm fun m=>evF k fr tm fun k=>t_mget kk z ok m k n t K
noncomputable def s_mset(kk:TypeDesc)(m:AX)(k:AX)(x:AX)(call:Caller)(yc:YC)(fr tm:List Value)(n:Nat)(t:HT)(K:CK):Bool:=evF m fr tm fun m=>evF k fr tm fun k=>evF x fr tm fun x=>t_mset kk m k x n t K
noncomputable def s_cap(x:AX)(call:Caller)(yc:YC)(fr tm:List Value)(n:Nat)(t:HT)(K:CK):Bool:=evF x fr tm fun x=>t_cap x n t K
noncomputable def s_inv(nm:String)(x:AX)(xs:List AX)(call:Caller)(yc:YC)(fr tm:List Value)(n:Nat)(t:HT)(K:CK):Bool:=evF x fr tm fun x=>evXs xs fr tm fun xs=>match x with
 | .iface ty u=>yc.i ty nm (u::xs) n t K
 |_=>false
noncomputable def s_callf(f:FuncId)(xs:List AX)(call:Caller)(yc:YC)(fr tm:List Value)(n:Nat)(t:HT)(K:CK):Bool:=evXs xs fr tm fun xs=>call f xs n t K
noncomputable def s_callv(f:AX)(xs:List AX)(call:Caller)(yc:YC)(fr tm:List Value)(n:Nat)(t:HT)(K:CK):Bool:=evF f fr tm fun f=>evXs xs fr tm fun xs=>match f with
 | .func (.func g) first cap=>call g (first.toList++xs++cap.toList) n t K
 | .chan (some b)=>yc.y b xs n t K
 |_=>false
noncomputable def s_appz(e:TypeId)(s:Nat)(b:Nat)(z:List Value)(x:AX)(y:AX)(call:Caller)(yc:YC)(fr tm:List Value)(n:Nat)(t:HT)(K:CK):Bool:=evF x fr tm fun x=>evF y fr tm fun y=>t_appz e s b z x y n t K
noncomputable def s_bad(call:Caller)(yc:YC)(fr tm:List Value)(n:Nat)(t:HT)(K:CK):Bool:=false
noncomputable def stepF(op:AOp AX):Caller→YC→List Value→List Value→Nat→HT→CK→Bool:=
 AOp.rec (motive:=fun _=>Caller→YC→List Value→List Value→Nat→HT→CK→Bool) s_mov s_pick s_new s_box s_build s_bslice s_load1 s_loadn s_store1 s_storen s_nilck s_bin s_eqv s_un s_i2i s_s2s s_s2b s_b2s s_iface s_mkfn s_mksl s_slstr s_slsl s_faddr s_fld1 s_fldn s_iaddr s_idxs s_assert s_extract s_len s_app s_mark s_iaddrp s_idxa s_slarr s_eqs s_mm s_mm4 s_i2str s_rng s_next s_copy s_clr s_apps s_mkmap s_mget s_mset s_cap s_inv s_callf s_callv s_appz s_bad op
theorem stepF_true(call:Caller)(yc:YC)(op:AOp AX)(fr tm:List Value)(n:Nat)(t:HT)(K:CK)(h:stepF op call yc fr tm n t K=true):stepX call yc op fr tm n t K=true:=by
 have e:∀x:AX,evF x=evX x:=fun x=>by cases x<;>rfl
 have e2:=binF_eq
 cases op
 case loadn=>
  simp only[stepF,s_loadn,e,evX_eq,evO_eq,evXs_eq,evPs_eq]at h
  simp only[stepX,evX_eq,evO_eq,evXs_eq,evPs_eq]
  exact t_loadn_true h
 case storen=>
  simp only[stepF,s_storen,e,evX_eq,evO_eq,evXs_eq,evPs_eq]at h
  simp only[stepX,evX_eq,evO_eq,evXs_eq,evPs_eq]
  exact t_storen_true h
 case b2s=>
  simp only[stepF,s_b2s,e,evX_eq,evO_eq,evXs_eq,evPs_eq]at h
  simp only[stepX,evX_eq,evO_eq,evXs_eq,evPs_eq]
  exact t_b2s_true h
 case app=>
  simp only[stepF,s_app,e,evX_eq,evO_eq,evXs_eq,evPs_eq]at h
  simp only[stepX,evX_eq,evO_eq,evXs_eq,evPs_eq]
  exact t_app_true h
 case copy=>
  simp only[stepF,s_copy,e,evX_eq,evO_eq,evXs_eq,evPs_eq]at h
  simp only[stepX,evX_eq,evO_eq,evXs_eq,evPs_eq]
  exact t_copy_true h
 case apps=>
  simp only[stepF,s_apps,e,evX_eq,evO_eq,evXs_eq,evPs_eq]at h
  simp only[stepX,evX_eq,evO_eq,evXs_eq,evPs_eq]
  exact t_apps_true h
 all_goals
  refine Eq.trans (Eq.symm ?_) h
  simp only[stepF,stepX]<;>first|rfl|(simp only[s_mov,s_pick,s_new,s_box,s_build,s_bslice,s_load1,s_loadn,s_store1,s_storen,s_nilck,s_bin,s_eqv,s_un,s_i2i,s_s2s,s_s2b,s_b2s,s_iface,s_mkfn,s_mksl,s_slstr,s_slsl,s_faddr,s_fld1,s_fldn,s_iaddr,s_idxs,s_assert,s_extract,s_len,s_app,s_mark,s_iaddrp,s_idxa,s_slarr,s_eqs,s_mm,s_mm4,s_i2str,s_rng,s_next,s_copy,s_clr,s_apps,s_mkmap,s_mget,s_mset,s_cap,s_inv,s_callf,s_callv,s_appz,s_bad,e,e2];first|done|rfl)
noncomputable def d_no(v:Value)(fr tm:List Value)(K:List Value→List Value→Bool):Bool:=K fr tm
noncomputable def d_fr(i:Nat)(v:Value)(fr tm:List Value)(K:List Value→List Value→Bool):Bool:=updK v fr i fun fr=>K fr tm
noncomputable def d_tm(v:Value)(fr tm:List Value)(K:List Value→List Value→Bool):Bool:=K fr (v::tm)
noncomputable def dF(d:D):Value→List Value→List Value→(List Value→List Value→Bool)→Bool:=D.rec (motive:=fun _=>Value→List Value→List Value→(List Value→List Value→Bool)→Bool) d_no d_fr d_tm d
theorem dF_eq:dF=dstK:=by funext d;cases d<;>rfl
abbrev IH:=List Value→List Value→Nat→HT→FK→Bool
noncomputable def nextK(d:D)(ih:IH)(fr tm:List Value)(K:FK):CK:=fun v n t=>dF d v fr tm fun fr tm=>ih fr tm n t K
noncomputable def g_none(op:AOp AX)(d:D)(call:Caller)(yc:YC)(ih:IH)(fr tm:List Value)(n:Nat)(t:HT)(K:FK):Bool:=stepF op call yc fr tm n t (nextK d ih fr tm K)
noncomputable def g_some(p:AX×Bool)(op:AOp AX)(d:D)(call:Caller)(yc:YC)(ih:IH)(fr tm:List Value)(n:Nat)(t:HT)(K:FK):Bool:=
 wantK (some p) fr tm fun b=>Bool.rec (motive:=fun _=>Bool) (dF d undef fr tm fun fr tm=>ih fr tm n t K) (stepF op call yc fr tm n t (nextK d ih fr tm K)) b
noncomputable def opF(o:AOper):Caller→YC→IH→List Value→List Value→Nat→HT→FK→Bool:=fun call yc ih=>Option.rec (motive:=fun _=>AOp AX→D→Caller→YC→IH→List Value→List Value→Nat→HT→FK→Bool) g_none g_some o.g o.op o.dst call yc ih
noncomputable def runOps(call:Caller)(yc:YC)(ops:List AOper):IH:=List.rec (motive:=fun _=>IH) (fun fr _ n t K=>K fr n t) (fun o _ ih=>opF o call yc ih) ops
theorem runOps_cons(call:Caller)(yc:YC)(o:AOper)(l:List AOper)(fr tm:List Value)(n:Nat)(t:HT)(K:FK):runOps call yc (o::l) fr tm n t K=wantK o.g fr tm fun b=>Bool.rec (motive:=fun _=>Bool)
 (dstK o.dst undef fr tm fun fr tm=>runOps call yc l fr tm n t K)
 (stepF o.op call yc fr tm n t fun v n t=>dstK o.dst v fr tm fun fr tm=>runOps call yc l fr tm n t K) b:=by
 obtain⟨op,d,g⟩:=o
 have e:runOps call yc (⟨op,d,g⟩::l) fr tm n t K=opF ⟨op,d,g⟩ call yc (runOps call yc l) fr tm n t K:=rfl
 rw[e,←dF_eq]
 cases g<;>rfl
def FP(RT:List RDef)(K:FK):List Value→AHeap→Prop:=fun fr H=>∃n t,Rp RT n t H∧K fr n t=true
theorem runOps_sound{P:Program}{ng:Nat}{call:Caller}{yc:YC}(hc:CallOK RT P ng call)(hy:YOK RT P ng yc):∀{l:List AOper} {fr tm:List Value} {n:Nat} {t:HT} {K:FK},runOps call yc l fr tm n t K=true→∀{H:AHeap},Rp RT n t H→RW P ng l fr tm H (FP RT K)
 |[],fr,tm,n,t,K,h,H,r=>⟨n,t,r,h⟩
 |o::l,fr,tm,n,t,K,h,H,r=>by
  rw[runOps_cons,wantK_eq]at h
  simp only[RW]
  cases hw:wantA o.g fr tm
  ·rw[hw]at h
   rw[dstK_eq]at h
   simp only[Bool.false_eq_true,if_false]
   exact runOps_sound hc hy h r
  ·rw[hw]at h
   simp only[if_true]
   refine stepA_mono ?_ (stepX_sound hc hy (stepF_true _ _ _ _ _ _ _ _ h) r)
   rintro v H' ⟨n',t',r',h'⟩
   simp only[dstK_eq]at h'
   exact runOps_sound hc hy h' r'
theorem keepsT_true{n n':Nat}{t t':HT}{H H':AHeap}(r:Rp RT n t H)(r':Rp RT n' t' H'):∀{l:List Nat},keepsT l t t'=true→keepsB l H H'
 |[],_=>trivial
 |b::l,h=>by
  obtain⟨h1,h2⟩:=asT_true h
  obtain⟨o,h3,h4⟩:=r.getK h1 (fun own st pe L=>by rw[HT.getK_spec];split<;>first|rfl|(rename_i x _;cases x<;>rfl))
  obtain⟨o',h5,h6⟩:=r'.getK h4
  exact⟨by rw[h3,h5,aoEq_true h6],keepsT_true r r' h2⟩
inductive TrR RT:List TT→List TE→Prop
 |nil:TrR RT [] []
 |cons {e:TT} {x:TE} {l:List TT} {m:List TE} (hk:x.k=e.k) (hb:x.bs=e.bs) (h1:Rp RT e.n e.t x.H) (h2:∃n',Rp RT n' e.t' x.H') (h:TrR RT l m):TrR RT (e::l) (x::m)
theorem TrR.snoc{l:List TT}{m:List TE}(h:TrR RT l m){e:TT}{x:TE}(hk:x.k=e.k)(hb:x.bs=e.bs)(h1:Rp RT e.n e.t x.H)(h2:∃n',Rp RT n' e.t' x.H'):TrR RT (l++[e]) (m++[x]):=by
 induction h with
 |nil=>exact .cons hk hb h1 h2 .nil
 |cons a b c d _ ih=>exact .cons a b c d ih
theorem TrR.get{l:List TT}{m:List TE}(h:TrR RT l m):∀{i:Nat} {e:TT},l[i]? =some e→∃x,m[i]? =some x∧x.k=e.k∧x.bs=e.bs∧Rp RT e.n e.t x.H∧∃n',Rp RT n' e.t' x.H':=by
 induction h with
 |nil=>intro i e h;simp at h
 |cons a b c d _ ih=>
  intro i e h
  cases i with
  |zero=>simp at h;subst h;exact⟨_,rfl,a,b,c,d⟩
  |succ i=>simp at h;simpa using ih h
theorem oblT_true{k:Nat}{bs:List Nat}{n n':Nat}{t t':HT}{H H':AHeap}(r:Rp RT n t H)(r':Rp RT n' t' H'){tr:List TT}{tr':List TE}(ht:TrR RT tr tr'):∀{un:List Nat},oblT k bs t t' tr un=true→oblA k bs H H' tr' un
 |[],_=>trivial
 |i::un,h=>by
  simp only[oblT]at h
  split at h
  ·rename_i e he
   obtain⟨x,h1,h2,h3,h4,n2,h5⟩:=ht.get he
   simp only[oblA,h1]
   split at h
   ·rename_i e1
    obtain⟨a1,a2⟩:=asT_true h
    obtain⟨a3,a4⟩:=asT_true a2
    rw[Bool.and_eq_true]at e1
    have q1:=Nat.eq_of_beq_eq_true e1.1
    have q2:=Nat.eq_of_beq_eq_true e1.2
    refine⟨?_,oblT_true r r' ht a4⟩
    rw[if_pos ⟨q1,by rw[h2];exact q2⟩]
    exact⟨olderT_true h4.n a1,keepsT_true h4 h5 a3⟩
   ·rename_i e1 e2
    obtain⟨a1,a2⟩:=asT_true h
    rw[Bool.and_eq_true,Bool.or_eq_true]at e2
    have q1:=Nat.eq_of_beq_eq_true e2.1
    refine⟨?_,oblT_true r r' ht a2⟩
    rw[if_neg (by rw[q1];simp),if_pos ⟨q1,by rw[h2];rcases e2.2 with q|q;exact .inl (Nat.eq_of_beq_eq_true q);exact .inr (Nat.eq_of_beq_eq_true q)⟩]
    rw[h3]
    exact keepsT_true r r' a1
   ·rename_i e1 e2
    refine⟨?_,oblT_true r r' ht h⟩
    split
    ·rename_i hh
     rw[h2]at hh
     rw[hh.1,hh.2]at e1
     cases e1
    ·split
     ·rename_i hh
      rw[h2]at hh
      rw[hh.1]at e2
      rcases hh.2 with q|q<;>rw[q]at e2<;>cases e2
     ·trivial
  ·cases h
noncomputable def runD(call:Caller)(yc:YC)(ops:List (AOper×List Nat)):List Value→List Value→Nat→HT→List TT→FK→Bool:=
 List.rec (motive:=fun _=>List Value→List Value→Nat→HT→List TT→FK→Bool) (fun fr _ n t _ K=>K fr n t)
  (fun o _ ih fr tm n t tr K=>wantK o.1.g fr tm fun b=>Bool.rec (motive:=fun _=>Bool)
   (dstK o.1.dst undef fr tm fun fr' tm'=>ih fr' tm' n t (tr++[⟨9,[],n,t,t⟩]) K)
   (stepF o.1.op call yc fr tm n t fun v n' t'=>asT (oblT (clsA o.1.op) (if clsA o.1.op=1 then readsA (o.1.op.map (AX.ev fr tm))else if clsA o.1.op=2 then[n]else[]) t t' tr o.2)
    (dstK o.1.dst v fr tm fun fr' tm'=>ih fr' tm' n' t' (tr++[⟨clsA o.1.op,(if clsA o.1.op=1 then readsA (o.1.op.map (AX.ev fr tm))else if clsA o.1.op=2 then[n]else[]),n,t,t'⟩]) K)) b) ops
theorem runD_cons(call:Caller)(yc:YC)(o:AOper×List Nat)(l:List (AOper×List Nat))(fr tm:List Value)(n:Nat)(t:HT)(tr:List TT)(K:FK):runD call yc (o::l) fr tm n t tr K=wantK o.1.g fr tm fun b=>Bool.rec (motive:=fun _=>Bool)
 (dstK o.1.dst undef fr tm fun fr' tm'=>runD call yc l fr' tm' n t (tr++[⟨9,[],n,t,t⟩]) K)
 (stepF o.1.op call yc fr tm n t fun v n' t'=>asT (oblT (clsA o.1.op) (if clsA o.1.op=1 then readsA (o.1.op.map (AX.ev fr tm))else if clsA o.1.op=2 then[n]else[]) t t' tr o.2)
  (dstK o.1.dst v fr tm fun fr' tm'=>runD call yc l fr' tm' n' t' (tr++[⟨clsA o.1.op,(if clsA o.1.op=1 then readsA (o.1.op.map (AX.ev fr tm))else if clsA o.1.op=2 then[n]else[]),n,t,t'⟩]) K)) b:=rfl
theorem runD_sound{P:Program}{ng:Nat}{call:Caller}{yc:YC}(hc:CallOK RT P ng call)(hy:YOK RT P ng yc):∀{l:List (AOper×List Nat)} {fr tm:List Value} {n:Nat} {t:HT} {tr:List TT} {tr':List TE} {K:FK},runD call yc l fr tm n t tr K=true→TrR RT tr tr'→∀{H:AHeap},Rp RT n t H→RD P ng l fr tm H tr' (FP RT K)
 |[],fr,tm,n,t,tr,tr',K,h,_,H,r=>⟨n,t,r,h⟩
 |(o,un)::l,fr,tm,n,t,tr,tr',K,h,ht,H,r=>by
  rw[runD_cons,wantK_eq]at h
  simp only[RD]
  cases hw:wantA o.g fr tm
  ·simp only[hw]at h
   rw[dstK_eq]at h
   simp only[Bool.false_eq_true,if_false]
   exact runD_sound hc hy h (ht.snoc rfl rfl r ⟨n,r⟩) r
  ·simp only[hw]at h
   simp only[if_true]
   refine stepA_mono ?_ (stepX_sound hc hy (stepF_true _ _ _ _ _ _ _ _ h) r)
   rintro v H' ⟨n',t',r',h'⟩
   obtain⟨h1,h2⟩:=asT_true h'
   rw[dstK_eq]at h2
   have e:touchA (o.op.map (AX.ev fr tm)) H=(if clsA o.op=1 then readsA (o.op.map (AX.ev fr tm))else if clsA o.op=2 then[n]else[]):=by
    unfold touchA
    rw[cls_map,r.n]
   rw[e]
   exact⟨oblT_true r r' ht h1,runD_sound hc hy h2 (ht.snoc rfl rfl r ⟨n',r'⟩) r'⟩
theorem cell1K_true{n:Nat}{t:HT}{H:AHeap}(r:Rp RT n t H){v:Value}{K:Value→Bool}(h:cell1K v t K=true):∃u,cell1 v H=some u∧K u=true:=by
 unfold cell1K at h
 split at h
 ·obtain⟨o,h1,h2⟩:=r.getK h
  split at h2
  ·rw[nthO_eq]at h2
   split at h2
   ·rename_i u hu
    exact⟨u,by simp only[cell1,cellA,h1];exact hu,h2⟩
   ·cases h2
  ·cases h2
 ·cases h
theorem cellnK_true{n m:Nat}{t:HT}{H:AHeap}(r:Rp RT n t H){v:Value}{K:Value→Bool}(h:cellnK m v t K=true):∃u,celln m v H=some u∧K u=true:=by
 unfold cellnK at h
 split at h
 ·obtain⟨o,h1,h2⟩:=r.getK h
  split at h2
  ·obtain⟨h3,h4⟩:=asT_true h2
   exact⟨_,by simp only[celln,rangeA,h1];rw[if_pos (Nat.le_of_ble_eq_true h3)];rfl,h4⟩
  ·cases h2
 ·cases h
theorem rxsK_true{n:Nat}{t:HT}{H:AHeap}(r:Rp RT n t H){fr:List Value}:∀{l:List RX} {K:List Value→Bool},rxsK l fr t K=true→∃us,resVs fr H l=some us∧K us=true
 |[],K,h=>⟨[],rfl,h⟩
 |x::l,K,h=>by
  have h':rxK x fr t (fun v=>rxsK l fr t fun vs=>K (v::vs))=true:=h
  have:∃v,x.get fr H=some v∧rxsK l fr t (fun vs=>K (v::vs))=true:=by
   cases x with
   |t i=>simp only[rxK,nthK_eq]at h';exact⟨_,rfl,h'⟩
   |c1 i=>simp only[rxK,nthK_eq]at h';exact cell1K_true r h'
   |cn m i=>simp only[rxK,nthK_eq]at h';exact cellnK_true r h'
  obtain⟨v,h1,h2⟩:=this
  obtain⟨us,h3,h4⟩:=rxsK_true r h2
  exact⟨_,by simp only[resVs,h1,h3],h4⟩
theorem resK_true{n:Nat}{t:HT}{H:AHeap}(r:Rp RT n t H){res:List RX}{fr:List Value}{K:Value→Bool}(h:resK res fr t K=true):∃v,resO res fr H=some v∧K v=true:=by
 obtain⟨us,h1,h2⟩:=rxsK_true r h
 exact⟨_,by simp only[resO,h1,Option.map_some],h2⟩
noncomputable def rfK(RT:List RDef):Nat→(RDef→Bool)→Bool:=
 List.rec (motive:=fun _=>Nat→(RDef→Bool)→Bool) (fun _ _=>false) (fun d _ ih r K=>Nat.rec (motive:=fun _=>Bool) (K d) (fun m _=>ih m K) r) RT
theorem rfK_true:∀{RT:List RDef} {r:Nat} {K:RDef→Bool},rfK RT r K=true→∃d,RT[r]? =some d∧K d=true
 |[],_,_,h=>by cases h
 |d::RT,0,K,h=>⟨d,rfl,h⟩
 |d::RT,r+1,K,h=>by
  obtain⟨x,h1,h2⟩:=rfK_true (RT:=RT) (r:=r) (K:=K) h
  exact⟨x,by simpa using h1,h2⟩
noncomputable def setPsK(sl:List Nat):List Nat→List Value→List Value→(List Value→Bool)→Bool
 |[],fr,_,K=>K fr
 |_::_,fr,[],K=>K fr
 |p::ps,fr,v::vs,K=>match posOf sl p with
  |some i=>updK v fr i fun fr=>setPsK sl ps fr vs K
  |none=>setPsK sl ps fr vs K
theorem setPsK_eq(sl:List Nat):∀(ps:List Nat) (fr vs:List Value) (K:List Value→Bool),setPsK sl ps fr vs K=K (setPs sl fr ps vs)
 |[],fr,_,K=>by simp only[setPsK,setPs]
 |_::_,fr,[],K=>by simp only[setPsK,setPs]
 |p::ps,fr,v::vs,K=>by
  simp only[setPsK,setPs]
  split
  ·rename_i i hi;rw[updK_eq,setPsK_eq sl ps,hi]
  ·rename_i hi;rw[setPsK_eq sl ps,hi]
def noRA:ACode→Bool
 | .seq a b=>noRA a&&noRA b
 | .cond _ a b=>noRA a&&noRA b
 | .block _ a=>noRA a
 | .loop a=>noRA a
 | .rangeF .. =>false
 |_=>true
def decC(RT:List RDef):ACode→ACode
 | .seq a b=>.seq (decC RT a) (decC RT b)
 | .cond c a b=>.cond c (decC RT a) (decC RT b)
 | .block id a=>.block id (decC RT a)
 | .loop a=>.loop (decC RT a)
 | .rangeF g r sl ps a b=>match RT[r]? with
  |some d=>.rangeF g d.N d.sl d.ps d.assign d.body
  |none=>.rangeF g r sl ps a b
 |c=>c
theorem decC_no:∀{c:ACode},noRA c=true→decC RT c=c:=by
 intro c
 induction c with
 |seq a b ia ib=>intro h;simp only[noRA,Bool.and_eq_true]at h;simp only[decC,ia h.1,ib h.2]
 |cond c a b ia ib=>intro h;simp only[noRA,Bool.and_eq_true]at h;simp only[decC,ia h.1,ib h.2]
 |block id a ia=>intro h;simp only[noRA]at h;simp only[decC,ia h]
 |loop a ia=>intro h;simp only[noRA]at h;simp only[decC,ia h]
 |rangeF=>intro h;cases h
 |_=>intro _;rfl
def RTok(P:Program)(ng:Nat)(RT:List RDef):Prop:=∀d∈RT,compC P ng d.N d.sl d.assign=some d.aa∧compC P ng d.N d.sl d.body=some d.ab∧(noRF d.assign&&noRF d.body)=true∧(nodupB d.sl&&d.sl.all (· <d.N))=true∧noRA d.aa=true∧noRA d.ab=true
abbrev HF:=List Value→Nat→HT→CK→Bool
def HFok(RT:List RDef)(P:Program)(ng k:Nat)(h:HF):Prop:=∀xs n t K,h xs n t K=true→∀H,Rp RT n t H→∃v H',ARun P ng k xs H v H'∧KP RT K v H'
theorem HFok.of{P:Program}{ng k:Nat}{h:HF}(hk:∀xs n t K,h xs n t K=true→∀H,Rp RT n t H→∃v,ARun P ng k xs H v H∧K v n t=true):HFok RT P ng k h:=fun xs n t K h1 H r=>by
 obtain⟨v,h2,h3⟩:=hk xs n t K h1 H r
 exact⟨v,H,h2,n,t,r,h3⟩
def EFok(RT:List RDef)(P:Program)(ng k:Nat)(f:EF):Prop:=∃af,compF P ng f.sl k=some af∧af.sl=f.sl∧af.res=f.res∧(af.body=decC RT f.body∨simpC af.body=decC RT f.body)∧argsOK P k f.na=true
theorem ok_sf{P:Program}{ng k na:Nat}{sl:List Nat}{af:AFunc}(h:compF P ng sl k=some af)(hs:af.sl=sl)(ha:argsOK P k na=true)(hn:noRA (simpC af.body)=true:=by kernel_rfl):EFok RT P ng k ⟨na,af.sl,af.res,simpC af.body⟩:=by
 subst hs
 exact⟨af,h,rfl,rfl,.inr (decC_no hn).symm,ha⟩
abbrev Rec:=ACode→List Value→Nat→HT→EK→Bool
def QP(RT:List RDef)(K:EK):AQ:=fun e fr H=>∃n t,Rp RT n t H∧K e fr n t=true
def RecOK(RT:List RDef)(P:Program)(ng:Nat)(rec:Rec):Prop:=∀c fr n t K,rec c fr n t K=true→∀H,Rp RT n t H→W P ng (decC RT c) (QP RT K) fr H
inductive FT
 |leaf
 |node (k:Nat) (f:EF) (l r:FT)
 |hook (k:Nat) (h:HF) (l r:FT)
 |hookR (k:Nat) (h:Caller→YC→Rec→HF) (l r:FT)
 |meth (ty:Nat) (nm:String) (g:FuncId) (r:FT)
noncomputable def FT.find(T:FT)(k:Nat)(K:EF→Bool)(KH:HF→Bool)(KR:(Caller→YC→Rec→HF)→Bool):Bool:=
 FT.rec (motive:=fun _=>Bool) false (fun k' f _ _ l r=>Bool.rec (motive:=fun _=>Bool) (Bool.rec (motive:=fun _=>Bool) r l (Nat.ble k k')) (K f) (Nat.beq k k'))
  (fun k' h _ _ l r=>Bool.rec (motive:=fun _=>Bool) (Bool.rec (motive:=fun _=>Bool) r l (Nat.ble k k')) (KH h) (Nat.beq k k'))
  (fun k' h _ _ l r=>Bool.rec (motive:=fun _=>Bool) (Bool.rec (motive:=fun _=>Bool) r l (Nat.ble k k')) (KR h) (Nat.beq k k')) (fun _ _ _ _ r=>r) T
noncomputable def FT.methK(T:FT)(ty:TypeId)(nm:String)(K:FuncId→Bool):Bool:=
 FT.rec (motive:=fun _=>Bool) false (fun _ _ _ _ _ _=>false) (fun _ _ _ _ _ _=>false) (fun _ _ _ _ _ _=>false)
  (fun ty' nm' g _ r=>Bool.rec (motive:=fun _=>Bool) r (K g) (Nat.beq ty' ty&&(nm'==nm))) T
def HRok(RT:List RDef)(P:Program)(ng k:Nat)(h:Caller→YC→Rec→HF):Prop:=∀call yc rec,CallOK RT P ng call→YOK RT P ng yc→RecOK RT P ng rec→HFok RT P ng k (h call yc rec)
def FT.ok(RT:List RDef)(P:Program)(ng:Nat):FT→Prop
 | .leaf=>True
 | .node k f l r=>EFok RT P ng k f∧l.ok RT P ng∧r.ok RT P ng
 | .hook k h l r=>HFok RT P ng k h∧l.ok RT P ng∧r.ok RT P ng
 | .hookR k h l r=>HRok RT P ng k h∧l.ok RT P ng∧r.ok RT P ng
 | .meth ty nm g r=>methT P ty nm=some g∧r.ok RT P ng
theorem FT.find_true{P:Program}{ng:Nat}{k:Nat}{K:EF→Bool}{KH:HF→Bool}{KR:(Caller→YC→Rec→HF)→Bool}:∀{T:FT},T.ok RT P ng→T.find k K KH KR=true→(∃f,EFok RT P ng k f∧K f=true)∨(∃h,HFok RT P ng k h∧KH h=true)∨∃h,HRok RT P ng k h∧KR h=true
 | .leaf,_,h=>by cases h
 | .node k' f l r,hT,h=>by
  have e:(FT.node k' f l r).find k K KH KR=Bool.rec (motive:=fun _=>Bool) (Bool.rec (motive:=fun _=>Bool) (r.find k K KH KR) (l.find k K KH KR) (Nat.ble k k')) (K f) (Nat.beq k k'):=rfl
  rw[e]at h
  cases e1:Nat.beq k k'
  ·rw[e1]at h
   cases e2:Nat.ble k k'
   ·rw[e2]at h;exact FT.find_true hT.2.2 h
   ·rw[e2]at h;exact FT.find_true hT.2.1 h
  ·rw[e1]at h
   have:=Nat.eq_of_beq_eq_true e1
   subst this
   exact .inl ⟨f,hT.1,h⟩
 | .hook k' f l r,hT,h=>by
  have e:(FT.hook k' f l r).find k K KH KR=Bool.rec (motive:=fun _=>Bool) (Bool.rec (motive:=fun _=>Bool) (r.find k K KH KR) (l.find k K KH KR) (Nat.ble k k')) (KH f) (Nat.beq k k'):=rfl
  rw[e]at h
  cases e1:Nat.beq k k'
  ·rw[e1]at h
   cases e2:Nat.ble k k'
   ·rw[e2]at h;exact FT.find_true hT.2.2 h
   ·rw[e2]at h;exact FT.find_true hT.2.1 h
  ·rw[e1]at h
   have:=Nat.eq_of_beq_eq_true e1
   subst this
   exact .inr <| .inl ⟨f,hT.1,h⟩
 | .hookR k' f l r,hT,h=>by
  have e:(FT.hookR k' f l r).find k K KH KR=Bool.rec (motive:=fun _=>Bool) (Bool.rec (motive:=fun _=>Bool) (r.find k K KH KR) (l.find k K KH KR) (Nat.ble k k')) (KR f) (Nat.beq k k'):=rfl
  rw[e]at h
  cases e1:Nat.beq k k'
  ·rw[e1]at h
   cases e2:Nat.ble k k'
   ·rw[e2]at h;exact FT.find_true hT.2.2 h
   ·rw[e2]at h;exact FT.find_true hT.2.1 h
  ·rw[e1]at h
   have:=Nat.eq_of_beq_eq_true e1
   subst this
   exact .inr <| .inr ⟨f,hT.1,h⟩
 | .meth ty nm g r,hT,h=>FT.find_true (T:=r) hT.2 h
theorem FT.methK_true{P:Program}{ng:Nat}{ty:TypeId}{nm:String}{K:FuncId→Bool}:∀{T:FT},T.ok RT P ng→T.methK ty nm K=true→∃g,methT P ty nm=some g∧K g=true
 | .leaf,_,h=>by cases h
 | .node ..,_,h=>by cases h
 | .hook ..,_,h=>by cases h
 | .hookR ..,_,h=>by cases h
 | .meth ty' nm' g r,hT,h=>by
  have e:(FT.meth ty' nm' g r).methK ty nm K=Bool.rec (motive:=fun _=>Bool) (r.methK ty nm K) (K g) (Nat.beq ty' ty&&(nm'==nm)):=rfl
  rw[e]at h
  cases hb:(Nat.beq ty' ty&&(nm'==nm))
  ·rw[hb]at h;exact FT.methK_true (T:=r) hT.2 h
  ·rw[hb]at h
   rw[Bool.and_eq_true]at hb
   have e1:=Nat.eq_of_beq_eq_true hb.1
   have e2:nm'=nm:=eq_of_beq hb.2
   subst e1 e2
   exact⟨g,hT.1,h⟩
noncomputable def roundK(b:Nat)(K:CK):EK:=fun e _ n t=>t.getK b fun ao=>match ao with
 | .loop true _ _ L=>match e with
  | .normal=>t.setK b (.loop true .ready none L) fun t'=>K (.bool true) n t'
  | .ret=>t.setK b (.loop true .done (some .ret) L) fun t'=>K (.bool false) n t'
  | .exit id=>t.setK b (.loop true .done (some (.exit id)) L) fun t'=>K (.bool false) n t'
  |_=>false
 |_=>false
noncomputable def busyK(rec:Rec)(ab:ACode)(b:Nat)(K:CK):EK:=fun e fr n t=>match e with
 | .normal=>t.getK b fun ao=>match ao with
  | .loop true .ready pe L=>t.setK b (.loop true .busy pe L) fun t'=>rec ab fr n t' (roundK b K)
  |_=>false
 |_=>false
noncomputable def yieldE(RT:List RDef)(rec:Rec):Nat→List Value→Nat→HT→CK→Bool:=fun b xs n t K=>t.getK b fun ao=>match ao with
 | .loop true .ready pe L=>rfK RT L.N fun d=>asT (Nat.beq d.ps.size xs.length) (setPsK d.sl d.ps.toList L.fr xs fun fr0=>rec d.aa fr0 n t (busyK rec d.ab b K))
 |_=>false
noncomputable def callB(T:FT)(rec:Rec):Caller:=fun f xs n t K=>T.find f (fun ef=>asT (Nat.beq xs.length ef.na) (initK ef.sl xs fun fr=>rec ef.body fr n t fun e fr n t=>match e with
 | .normal=>resK ef.res fr t fun v=>K v n t
 | .ret=>resK ef.res fr t fun v=>K v n t
 |_=>false)) (fun h=>h xs n t K) (fun _=>false)
noncomputable def ycE(T:FT)(RT:List RDef)(rec:Rec)(call:Caller):YC:=⟨yieldE RT rec,fun ty nm xs n t K=>T.methK ty nm fun g=>call g xs n t K⟩
noncomputable def callE(T:FT)(RT:List RDef)(rec:Rec):Caller:=fun f xs n t K=>T.find f (fun ef=>asT (Nat.beq xs.length ef.na) (initK ef.sl xs fun fr=>rec ef.body fr n t fun e fr n t=>match e with
 | .normal=>resK ef.res fr t fun v=>K v n t
 | .ret=>resK ef.res fr t fun v=>K v n t
 |_=>false)) (fun h=>h xs n t K) (fun h=>h (callB T rec) (ycE T RT rec (callB T rec)) rec xs n t K)
noncomputable def outK(b:Nat)(fr:List Value)(K:EK):CK:=fun _ n t=>t.getK b fun ao=>match ao with
 | .loop true st pe _=>match st with
  | .busy=>false
  |_=>match pe with
   |none=>t.setK b .dead fun t3=>K .normal fr n t3
   |some .ret=>t.setK b .dead fun t3=>K .ret fr n t3
   |some (.exit id)=>t.setK b .dead fun t3=>K (.exit id) fr n t3
   |_=>false
 |_=>false
noncomputable def rangeE(T:FT)(RT:List RDef)(call:Caller)(g:AX)(ri:Nat)(fr:List Value)(n:Nat)(t:HT)(K:EK):Bool:=evX g fr [] fun v=>match v with
 | .func (.func gf) first cap=>asT (T.find gf (fun _=>true) (fun _=>false) (fun _=>false)) (rfK RT ri fun _=>t.setK n (.loop true .ready none ⟨ri,[],fr,#[],.skip,.skip⟩) fun t1=>forceN (n+1) fun n1=>
   call gf (first.toList++[.chan (some n)]++cap.toList) n1 t1 (outK n fr K))
 |_=>false
noncomputable def runS(T:FT)(RT:List RDef)(rec:Rec)(c:ACode):List Value→Nat→HT→EK→Bool:=
 ACode.rec (motive:=fun _=>List Value→Nat→HT→EK→Bool)
  (fun fr n t K=>K .normal fr n t)
  (fun ops fr n t K=>runOps (callE T RT rec) (ycE T RT rec (callE T RT rec)) ops fr [] n t fun fr n t=>K .normal fr n t)
  (fun ops fr n t K=>runD (callE T RT rec) (ycE T RT rec (callE T RT rec)) ops fr [] n t [] fun fr n t=>K .normal fr n t)
  (fun _ _ iha ihb fr n t K=>iha fr n t (seqK ihb K))
  (fun c _ _ iht ihe fr n t K=>evX c fr [] fun v=>condK v (iht fr n t K) (ihe fr n t K))
  (fun id _ ih fr n t K=>ih fr n t (blockK id K))
  (fun c ih fr n t K=>ih fr n t (seqK (rec (.loop c)) K))
  (fun id fr n t K=>K (.exit id) fr n t)
  (fun fr n t K=>K .ret fr n t)
  (fun g ri _ _ _ _=>rangeE T RT (callE T RT rec) g ri) c
noncomputable def run(T:FT)(RT:List RDef)(fuel:Nat):Rec:=
 Nat.rec (motive:=fun _=>Rec) (fun _ _ _ _ _=>false) (fun _ ih=>runS T RT ih) fuel
theorem QP_seq{P:Program}{ng:Nat}{c:ACode}{K:EK}{ihb:List Value→Nat→HT→EK→Bool}(hb:∀fr n t,ihb fr n t K=true→∀H,Rp RT n t H→W P ng c (QP RT K) fr H)(e:Exit)(fr:List Value)(H:AHeap)(h:QP RT (seqK ihb K) e fr H):AQ.andThen (QP RT K) (W P ng c (QP RT K)) e fr H:=by
 obtain⟨n,t,r,h⟩:=h
 cases e with
 |normal=>exact hb fr n t h H r
 |exit id=>exact⟨n,t,r,h⟩
 |ret=>exact⟨n,t,r,h⟩
 |goto l=>exact⟨n,t,r,h⟩
 |panic ch=>exact⟨n,t,r,h⟩
 |outgrown=>exact⟨n,t,r,h⟩
section
variable {P:Program} {ng:Nat} {T:FT}
theorem node_ok {rec:Rec} (hr:RecOK RT P ng rec) {f:FuncId} {xs:List Value} {n:Nat} {t:HT} {K:CK} {ef:EF} (he:EFok RT P ng f ef) (h6:asT (Nat.beq xs.length ef.na) (initK ef.sl xs fun fr=>rec ef.body fr n t fun e fr n t=>match e with
 | .normal=>resK ef.res fr t fun v=>K v n t
 | .ret=>resK ef.res fr t fun v=>K v n t
 |_=>false)=true) {H:AHeap} (r:Rp RT n t H):∃v H',ARun P ng f xs H v H'∧KP RT K v H':=by
 obtain⟨af,h1,h2,h3,h4,h5⟩:=he
 obtain⟨h7,h8⟩:=asT_true h6
 have hlen:=Nat.eq_of_beq_eq_true h7
 rw[initK_eq]at h8
 have hw:=hr _ _ _ _ _ h8 H r
 have hw2:W P ng af.body (QP RT fun e fr n t=>match e with
  | .normal=>resK ef.res fr t fun v=>K v n t
  | .ret=>resK ef.res fr t fun v=>K v n t
  |_=>false) (initFr ef.sl xs) H:=by
  rcases h4 with h4|h4
  ·rw[h4];exact hw
  ·rw[←h4]at hw;exact W_simp af.body hw
 refine walk h1 (by rw[hlen];exact h5) ?_
 rw[h2]
 refine W_mono ?_ hw2
 rintro e fr H' ⟨n',t',r',h'⟩
 cases e with
 |normal=>obtain⟨v,h9,h10⟩:=resK_true r' h';rw[h3];exact⟨v,h9,n',t',r',h10⟩
 |ret=>obtain⟨v,h9,h10⟩:=resK_true r' h';rw[h3];exact⟨v,h9,n',t',r',h10⟩
 |exit id=>cases h'
 |goto l=>cases h'
 |panic ch=>cases h'
 |outgrown=>cases h'
theorem callB_ok(hT:T.ok RT P ng){rec:Rec}(hr:RecOK RT P ng rec):CallOK RT P ng (callB T rec):=by
 intro f xs n t K h H r
 rcases FT.find_true hT h with⟨ef,he,h6⟩|⟨hf,h1,h2⟩|⟨hf,h1,h2⟩
 ·exact node_ok hr he h6 r
 ·exact h1 xs n t K h2 H r
 ·cases h2
theorem roundK_ok{b:Nat}{K:CK}(e:Exit)(fr:List Value)(H:AHeap)(h:QP RT (roundK b K) e fr H):roundQ b (KP RT K) e fr H:=by
 obtain⟨n,t,r,h⟩:=h
 obtain⟨o,h1,h2⟩:=r.getd h
 split at h2
 ·rename_i x y L
  unfold roundQ
  rw[h1]
  simp only[dec]
  have hs:(H.get b).isSome=true:=by rw[h1];rfl
  split at h2
  ·obtain⟨t',h3,h4⟩:=r.setd hs h2;exact⟨n,t',h4,h3⟩
  ·obtain⟨t',h3,h4⟩:=r.setd hs h2;exact⟨n,t',h4,h3⟩
  ·obtain⟨t',h3,h4⟩:=r.setd hs h2;exact⟨n,t',h4,h3⟩
  ·cases h2
 ·cases h2
theorem yieldE_ok(hR:RTok P ng RT){rec:Rec}(hr:RecOK RT P ng rec):∀b xs n t K,yieldE RT rec b xs n t K=true→∀H,Rp RT n t H→∃v H',AYield P ng b xs H v H'∧KP RT K v H':=by
 intro b xs n t K h H r
 obtain⟨o,h1,h2⟩:=r.getd h
 split at h2
 ·rename_i pe L
  obtain⟨d,h3,h4⟩:=rfK_true h2
  obtain⟨h5,h6⟩:=asT_true h4
  rw[setPsK_eq]at h6
  obtain⟨q1,q2,q3,q4,q5,q6⟩:=hR d (List.mem_of_getElem? h3)
  have hd:decL RT L=⟨d.N,d.sl,L.fr,d.ps,d.assign,d.body⟩:=by unfold decL;rw[h3]
  simp only[dec,hd]at h1
  refine yield_of h1 q1 q2 q3 q4 (Nat.eq_of_beq_eq_true h5) ?_
  have hw:=hr _ _ _ _ _ h6 H r
  rw[decC_no q5]at hw
  refine W_mono ?_ hw
  rintro e fr1 H1 ⟨n1,t1,r1,h7⟩
  unfold busyK at h7
  split at h7
  ·refine⟨rfl,?_⟩
   obtain⟨o1,g1,g2⟩:=r1.getd h7
   split at g2
   ·rename_i pe1 L1
    refine⟨pe1,decL RT L1,g1,?_⟩
    obtain⟨t2,g3,g4⟩:=r1.setd (by rw[g1];rfl) g2
    have hw2:=hr _ _ _ _ _ g3 _ g4
    rw[decC_no q6]at hw2
    exact W_mono (fun e fr H h=>roundK_ok e fr H h) hw2
   ·cases g2
  ·cases h7
 ·cases h2
theorem ycE_ok(hT:T.ok RT P ng)(hR:RTok P ng RT){rec:Rec}(hr:RecOK RT P ng rec){call:Caller}(hc:CallOK RT P ng call):YOK RT P ng (ycE T RT rec call):=by
 refine⟨yieldE_ok hR hr,?_⟩
 intro ty nm xs n t K h H r
 obtain⟨g,h1,h2⟩:=FT.methK_true hT h
 exact⟨g,h1,hc _ _ _ _ _ h2 H r⟩
theorem callE_ok(hT:T.ok RT P ng)(hR:RTok P ng RT){rec:Rec}(hr:RecOK RT P ng rec):CallOK RT P ng (callE T RT rec):=by
 intro f xs n t K h H r
 rcases FT.find_true hT h with⟨ef,he,h6⟩|⟨hf,h1,h2⟩|⟨hf,h1,h2⟩
 ·exact node_ok hr he h6 r
 ·exact h1 xs n t K h2 H r
 ·exact h1 _ _ _ (callB_ok hT hr) (ycE_ok hT hR hr (callB_ok hT hr)) hr xs n t K h2 H r
theorem bodied_find(hT:T.ok RT P ng){g:FuncId}(h:T.find g (fun _=>true) (fun _=>false) (fun _=>false)=true):Bodied P g:=by
 rcases FT.find_true hT h with⟨ef,⟨af,h1,_⟩,_⟩|⟨hf,h1,h2⟩|⟨hf,h1,h2⟩
 ·unfold compF at h1
  split at h1
  ·cases h1
  ·rename_i fn hfn
   split at h1
   ·cases h1
   ·rename_i c hb
    split at h1
    ·rename_i hcond
     simp only[Bool.and_eq_true,Bool.not_eq_true']at hcond
     exact⟨fn,hfn,by simp[hb],hcond.2⟩
    ·cases h1
 ·cases h2
 ·cases h2
theorem outK_ok{b:Nat}{fr:List Value}{K:EK}{v:Value}{H:AHeap}(h:KP RT (outK b fr K) v H):afterR (QP RT K) fr b H:=by
 obtain⟨n,t,r,h⟩:=h
 obtain⟨o,h1,h2⟩:=r.getd h
 split at h2
 ·rename_i st pe L
  unfold afterR
  rw[h1]
  simp only[dec]
  have hs:(H.get b).isSome=true:=by rw[h1];rfl
  split at h2
  ·cases h2
  ·rename_i hst
   refine⟨hst,?_⟩
   split at h2
   ·obtain⟨t',h3,h4⟩:=r.set hs h2;exact⟨n,t',h4,h3⟩
   ·obtain⟨t',h3,h4⟩:=r.set hs h2;exact⟨n,t',h4,h3⟩
   ·obtain⟨t',h3,h4⟩:=r.set hs h2;exact⟨n,t',h4,h3⟩
   ·cases h2
 ·cases h2
theorem rangeE_ok(hT:T.ok RT P ng){call:Caller}(hc:CallOK RT P ng call){g:AX}{ri:Nat}{sl:List Nat}{ps:Array Tmp}{a b:Code}{fr:List Value}{n:Nat}{t:HT}{K:EK}(h:rangeE T RT call g ri fr n t K=true){H:AHeap}(r:Rp RT n t H):W P ng (decC RT (.rangeF g ri sl ps a b)) (QP RT K) fr H:=by
 unfold rangeE at h
 rw[evX_eq]at h
 split at h
 ·rename_i gf first cap hg
  obtain⟨h1,h2⟩:=asT_true h
  obtain⟨d,h3,h4⟩:=rfK_true h2
  obtain⟨t1,h5,h6⟩:=r.allocd h4
  rw[forceN_eq]at h5
  simp only[decC,h3]
  refine W_rangeF hg (bodied_find hT h1) ?_
  have hn:=r.n
  have hd:dec RT (.loop true .ready none ⟨ri,[],fr,#[],.skip,.skip⟩)=.loop true .ready none ⟨d.N,d.sl,fr,d.ps,d.assign,d.body⟩:=by
   simp only[dec,decL,h3]
  rw[hd]at h6
  rw[hn]
  obtain⟨v,H1,h7,h8⟩:=hc _ _ _ _ _ h5 _ h6
  exact⟨v,H1,h7,outK_ok h8⟩
 ·cases h
theorem runS_sound(hT:T.ok RT P ng)(hR:RTok P ng RT){rec:Rec}(hr:RecOK RT P ng rec):RecOK RT P ng (runS T RT rec):=by
 have hcall:=callE_ok hT hR hr
 have hy:=ycE_ok hT hR hr hcall
 intro c
 induction c with
 |skip=>intro fr n t K h H r;exact⟨n,t,r,h⟩
 |reg ops=>intro fr n t K h H r;exact runOps_sound hcall hy (K:=fun fr n t=>K .normal fr n t) h r
 |dreg ops=>intro fr n t K h H r;exact runD_sound hcall hy (K:=fun fr n t=>K .normal fr n t) h .nil r
 |seq a b iha ihb=>
  intro fr n t K h H r
  show W P ng (decC RT a) (AQ.andThen (QP RT K) (W P ng (decC RT b) (QP RT K))) fr H
  exact W_mono (QP_seq (fun fr n t h H r=>ihb fr n t K h H r)) (iha fr n t _ h H r)
 |cond c a b iha ihb=>
  intro fr n t K h H r
  have e:runS T RT rec (.cond c a b) fr n t K=evX c fr [] fun v=>condK v (runS T RT rec a fr n t K) (runS T RT rec b fr n t K):=rfl
  rw[e,evX_eq]at h
  simp only[decC,W]
  unfold condK at h
  split at h
  ·rename_i tt ht
   rw[ht]
   cases tt
   ·exact ihb fr n t K h H r
   ·exact iha fr n t K h H r
  ·cases h
 |block id c ih=>
  intro fr n t K h H r
  show W P ng (decC RT c) (AQ.inBlock (QP RT K) id) fr H
  refine W_mono ?_ (ih fr n t _ h H r)
  rintro e fr' H' ⟨n',t',r',h'⟩
  cases e with
  |exit id'=>
   simp only[blockK]at h'
   simp only[AQ.inBlock]
   cases e:Nat.beq id' id
   ·rw[e]at h'
    rw[if_neg (fun hh=>by subst hh;rw[Nat.beq_refl]at e;cases e)]
    exact⟨n',t',r',h'⟩
   ·rw[e]at h'
    rw[if_pos (Nat.eq_of_beq_eq_true e)]
    exact⟨n',t',r',h'⟩
  |normal=>exact⟨n',t',r',h'⟩
  |ret=>exact⟨n',t',r',h'⟩
  |goto l=>exact⟨n',t',r',h'⟩
  |panic ch=>exact⟨n',t',r',h'⟩
  |outgrown=>exact⟨n',t',r',h'⟩
 |loop c ih=>
  intro fr n t K h H r
  exact W_again (W_mono (QP_seq (c:=.loop (decC RT c)) (fun fr n t h H r=>hr (.loop c) fr n t K h H r)) (ih fr n t _ h H r))
 |exit id=>intro fr n t K h H r;exact⟨n,t,r,h⟩
 |ret=>intro fr n t K h H r;exact⟨n,t,r,h⟩
 |rangeF g N sl ps a b=>intro fr n t K h H r;exact rangeE_ok hT hcall h r
theorem run_sound(hT:T.ok RT P ng)(hR:RTok P ng RT):∀(fuel:Nat),RecOK RT P ng (run T RT fuel)
 |0=>fun c fr n t K h=>by cases h
 |m+1=>runS_sound hT hR (rec:=run T RT m) (run_sound hT hR m)
noncomputable def runF(T:FT)(RT:List RDef)(fuel:Nat)(f:FuncId)(xs:List Value)(n:Nat)(t:HT)(K:CK):Bool:=callE T RT (run T RT fuel) f xs n t K
theorem runF_sound(hT:T.ok RT P ng)(hR:RTok P ng RT){fuel:Nat}{f:FuncId}{xs:List Value}{n:Nat}{t:HT}{K:CK}(h:runF T RT fuel f xs n t K=true){H:AHeap}(r:Rp RT n t H):∃v H',ARun P ng f xs H v H'∧KP RT K v H':=
 callE_ok hT hR (run_sound hT hR fuel) f xs n t K h H r
end
theorem Rp.empty:Rp RT 0 .leaf ⟨0,[]⟩:=⟨rfl,fun b=>rfl⟩
end Ev
end Go.AM

namespace Go.AM
namespace Ev
variable {RT:List RDef} {P:Program}
def ren(n:Nat)(ρ:Nat→Nat)(σ:Sg):Sg:=fun b=>if b<n then σ (ρ b)else none
noncomputable def allocs(l:List AO):Nat→HT→(Nat→HT→Bool)→Bool:=
 List.rec (motive:=fun _=>Nat→HT→(Nat→HT→Bool)→Bool) (fun n t K=>K n t) (fun o _ ih n t K=>allocT o n t fun n t=>ih n t K) l
def notLoop:AO→Bool
 | .loop .. =>false
 |_=>true
theorem dec_notLoop{o:AO}(h:notLoop o=true):dec RT o=o:=by cases o<;>first|rfl|cases h
theorem allocs_true:∀{l:List AO} {n:Nat} {t:HT} {K:Nat→HT→Bool} {H:AHeap},allocs l n t K=true→l.all notLoop=true→Rp RT n t H→∃n' t',K n' t'=true∧Rp RT n' t' (l.foldl AHeap.alloc H)
 |[],n,t,K,H,h,_,r=>⟨n,t,h,r⟩
 |o::l,n,t,K,H,h,hl,r=>by
  simp only[List.all_cons,Bool.and_eq_true]at hl
  have h':allocT o n t (fun n t=>allocs l n t K)=true:=h
  obtain⟨n',t',h1,h2⟩:=r.allocT h' (dec_notLoop hl.1)
  exact allocs_true (l:=l) h1 hl.2 h2
theorem foldl_alloc_get:∀(l:List AO) (H:AHeap),(l.foldl AHeap.alloc H).n=H.n+l.length∧∀b,(l.foldl AHeap.alloc H).get b=if b<H.n then H.get b else l[b-H.n]?
 |[],H=>⟨rfl,fun b=>by
  simp only[List.foldl_nil,List.getElem?_nil]
  split
  ·rfl
  ·rename_i hb
   simp only[AHeap.get,if_neg hb]⟩
 |o::l,H=>by
  obtain⟨h1,h2⟩:=foldl_alloc_get l (H.alloc o)
  refine⟨by simp only[List.foldl_cons,h1,alloc_n,List.length_cons];omega,fun b=>?_⟩
  simp only[List.foldl_cons,h2,alloc_n,alloc_get]
  by_cases hb:b<H.n
  ·rw[if_pos (by omega),if_neg (by omega),if_pos hb]
  ·rw[if_neg hb]
   by_cases hb2:b=H.n
   ·subst hb2
    rw[if_pos (by omega),if_pos rfl];simp
   ·rw[if_neg (by omega)]
    have:b-H.n=(b-(H.n+1))+1:=by omega
    rw[this,List.getElem?_cons_succ]
end Ev
end Go.AM

namespace Go.AM
namespace Ev
variable {RT:List RDef} {P:Program} {ng:Nat}
def Fl(v:Value):Prop:=NV (fun _=>none) v v
theorem Fl.vr{v v':Value}(h:Fl v){σ σ':Sg}(k:VR σ v v'):VR σ' v v':=by
 have h1:NV (fun _=>none) v v:=h
 have key:∀σ:Sg,via (fun _=>none) σ=fun _=>none:=fun σ=>by funext b;rfl
 have:=h1.via k
 rw[key]at this
 exact this.mono (fun b i hb=>by cases hb)
theorem closed_flat{f:FuncId}{args:List Value}{H0 H H0':AHeap}{v:Value}(h:ARun P ng f args H0 v H0')(hn:H0.n=ng)(hd:∀b,b<H0.n→H0.get b=some .dead)(hv:Fl v)
 (ha:∀(σ σ':Sg) (args':List Value),VL σ args args'→VL σ' args args'):ARun P ng f args H v H:=by
 obtain⟨h0,_,h1⟩:=h
 refine⟨h0,Nat.le_refl _,fun σ w args' hr hx=>?_⟩
 have hno:∀b o,H0.get b=some o→o.own=false:=by
  intro b o ho
  rw[hd b (AHeap.get_lt ho)]at ho
  cases ho;rfl
 have hs:∀b i,ren H0.n (fun b=>b) σ b=some i→b<H0.n∧σ b=some i:=by
  intro b i hb
  unfold ren at hb
  split at hb
  ·rename_i hh;exact⟨hh,hb⟩
  ·cases hb
 have hr0:HR ng (ren H0.n (fun b=>b) σ) H0.get w:=by
  refine⟨fun b i hb=>?_,fun b1 b2 i1 i2 o1 o2 hne h1 h2 h3 h4 h5 h6=>?_,fun b i hb=>hr.lt _ i (hs b i hb).2,fun g hg=>?_⟩
  ·exact⟨.dead,hd b (hs b i hb).1,trivial⟩
  ·rw[hno b1 o1 h3]at h5;cases h5
  ·obtain⟨i,a1,a2,a3⟩:=hr.glob g hg
   exact⟨i,by unfold ren;rw[if_pos (by omega)];exact a1,a2,a3⟩
 refine(h1 _ w args' hr0 (ha _ _ _ hx)).mono ?_
 rintro e w' ⟨v',σ',rfl,k1,k2,k3⟩
 have hk:∀k,k<w.heap.size→w'.heap[k]? =w.heap[k]? :=fun k hk=>k2.keep k hk (fun b i o hb ho hown=>by rw[hno b o ho]at hown;cases hown)
 have hsz:=k2.size
 refine⟨v',σ,rfl,⟨fun b i hb=>?_,hr.inj,fun b i hb=>Nat.lt_of_lt_of_le (hr.lt b i hb) hsz,hr.glob⟩,⟨Sg.le.refl σ,(fun b i h1 h2=>by rw[h1]at h2;cases h2),fun _ _ o' _ a b=>⟨o',a,b⟩,fun _ _ o' _ a b=>⟨o',a,b⟩,fun k a _=>hk k a,hsz,Nat.le_refl _,k2.os,k2.tape,k2.output⟩,hv.vr k3⟩
 obtain⟨o,a1,a2⟩:=hr.obj b i hb
 exact⟨o,a1,a2.congr (fun _=>hk _ (hr.lt b i hb))⟩
def deads(ng:Nat):List AO:=List.replicate ng .dead
theorem deads_n(ng:Nat):((deads ng).foldl AHeap.alloc ⟨0,[]⟩).n=ng:=by
 rw[(foldl_alloc_get _ _).1];simp[deads]
theorem deads_get(ng:Nat){b:Nat}(hb:b<ng):((deads ng).foldl AHeap.alloc ⟨0,[]⟩).get b=some .dead:=by
 rw[(foldl_alloc_get _ _).2]
 simp only[Nat.not_lt_zero,if_false,Nat.sub_zero,deads]
 rw[List.getElem?_replicate,if_pos hb]
theorem closed_anyG{T:FT}(hT:T.ok RT P ng)(hR:RTok P ng RT){fuel:Nat}{f:FuncId}(h:allocs (deads ng) 0 .leaf (fun n t=>runF T RT fuel f [] n t isTrue)=true)(H:AHeap):ARun P ng f [] H (.bool true) H:=by
 obtain⟨n,t,h1,h2⟩:=allocs_true h (by simp[deads,notLoop]) Rp.empty
 obtain⟨v,H',h3,n',t',_,h4⟩:=runF_sound hT hR h1 h2
 have hv:v=.bool true:=by
  unfold isTrue at h4
  split at h4
  ·cases h4;rfl
  ·cases h4
 subst hv
 refine closed_flat h3 (deads_n ng) (fun b hb=>deads_get ng (by rw[deads_n]at hb;exact hb)) (.bool true) (fun σ σ' args' k=>?_)
 cases k
 exact .nil
end Ev
end Go.AM

namespace Go.AM.Fd
open Go.Proofs Go.AM.F Go.AM.Ev Go.AM.Ky
def strsV:List Value→Option (List (List UInt8))
 |[]=>some []
 | .string s::l=>match strsV l with
  |some r=>some (s.data.toList::r)
  |none=>none
 |_=>none
def namedV:List Value→Option (List (List UInt8×Int))
 |[]=>some []
 | .string s:: .int .i64 n::l=>match namedV l with
  |some r=>some ((s.data.toList,n)::r)
  |none=>none
 |_=>none
def intsV:List Value→Option (List Int)
 |[]=>some []
 | .int .i64 n::l=>match intsV l with
  |some r=>some (n::r)
  |none=>none
 |_=>none
def needsV:List Value→Option (List (Int×Bool))
 |[]=>some []
 | .int .i64 n:: .bool b::l=>match needsV l with
  |some r=>some ((n,b)::r)
  |none=>none
 |_=>none
theorem ba_eq(s:ByteArray):(⟨(s.data.toList).toArray⟩:ByteArray)=s:=by cases s;simp
theorem strsV_ok(c:List Value):∀l,strsV c=some l→c=(l.map tRow).flatten:=by
 fun_induction strsV c with
 |case1=>intro l h;cases h;rfl
 |case2 s c r hr ih=>intro l h;cases h;simp only[List.map_cons,List.flatten_cons,tRow,ba_eq,List.singleton_append,←ih _ hr]
 |case3|case4=>intro l h;cases h
theorem namedV_ok(c:List Value):∀l,namedV c=some l→c=(l.map pRow).flatten:=by
 fun_induction namedV c with
 |case1=>intro l h;cases h;rfl
 |case2 s n c r hr ih=>intro l h;cases h;simp only[List.map_cons,List.flatten_cons,pRow,ba_eq,List.cons_append,List.nil_append,←ih _ hr]
 |case3|case4=>intro l h;cases h
theorem intsV_ok(c:List Value):∀l,intsV c=some l→c=(l.map iRow).flatten:=by
 fun_induction intsV c with
 |case1=>intro l h;cases h;rfl
 |case2 n c r hr ih=>intro l h;cases h;simp only[List.map_cons,List.flatten_cons,iRow,List.cons_append,List.nil_append,←ih _ hr]
 |case3|case4=>intro l h;cases h
theorem needsV_ok(c:List Value):∀l,needsV c=some l→c=(l.map nRow).flatten:=by
 fun_induction needsV c with
 |case1=>intro l h;cases h;rfl
 |case2 n b c r hr ih=>intro l h;cases h;simp only[List.map_cons,List.flatten_cons,nRow,List.cons_append,List.nil_append,←ih _ hr]
 |case3|case4=>intro l h;cases h
noncomputable def slT{α:Type}(t:HT)(esz:Nat)(v:Value)(d:List Value→Option (List α))(K:List α→Bool):Bool:=match v with
 | .slice _ m _=>elemsT t esz v fun c=>match d c with
  |some l=>asT (Nat.beq m l.length) (asT (Nat.ble m 1000000) (K l))
  |none=>false
 |_=>false
theorem slT_true{α:Type}{RT:List RDef}{n:Nat}{t:HT}{H:AHeap}(r:Ev.Rp RT n t H){esz:Nat}{v:Value}{d:List Value→Option (List α)}{K:List α→Bool}{row:α→List Value}(hrow:∀x,(row x).length=esz)(hd:∀c l,d c=some l→c=(l.map row).flatten)(h:slT t esz v d K=true):∃l,Sl H esz v (l.map row)∧l.length≤1000000∧K l=true:=by
 unfold slT at h
 split at h
 ·rename_i a m k
  obtain⟨c,h1,h2⟩:=Ev.elemsT_true r h
  split at h2
  ·rename_i l hl
   obtain⟨h3,h4⟩:=asT_true h2
   obtain⟨h5,h6⟩:=asT_true h4
   have h3:=Nat.eq_of_beq_eq_true h3
   have h5:=Nat.le_of_ble_eq_true h5
   refine⟨l,⟨⟨a,k,by rw[List.length_map,h3]⟩,?_,by rw[h1,hd _ _ hl]⟩,by omega,h6⟩
   intro x hx
   obtain⟨y,_,rfl⟩:=List.mem_map.1 hx
   exact hrow y
  ·cases h2
 ·cases h
noncomputable def rosT(t:HT):List Value→(List RV→Bool)→Bool
 |[],K=>K []
 | .string s:: .int .i64 g::a::b::c::d::l,K=>asT (Nat.ble (bLen s) 1000000) <| slT t 1 a intsV fun p=>slT t 2 b needsV fun q=>slT t 1 c intsV fun o=>slT t 2 d needsV fun f=>rosT t l fun xs=>K (⟨⟨s.data.toList,g,p,q,o,f⟩,a,b,c,d⟩::xs)
 |_,_=>false
theorem rosT_true{RT:List RDef}{n:Nat}{t:HT}{H:AHeap}(r:Ev.Rp RT n t H)(c:List Value)(K:List RV→Bool):rosT t c K=true→∃xs:List RV,c=(xs.map RV.row).flatten∧(∀x∈xs,x.ok H∧x.r.n.length≤1000000∧x.r.path.length≤1000000∧x.r.pts.length≤1000000∧x.r.ov.length≤1000000∧x.r.fl.length≤1000000)∧K xs=true:=by
 fun_induction rosT t c K with
 |case1 K=>intro h;exact⟨[],rfl,by simp,h⟩
 |case2 s g a b c d l K ih=>
  intro h
  obtain⟨h0,h⟩:=asT_true h
  have h0:=Nat.le_of_ble_eq_true h0
  obtain⟨p,p1,p2,h⟩:=slT_true r (row:=iRow) (fun _=>rfl) intsV_ok h
  obtain⟨q,q1,q2,h⟩:=slT_true r (row:=nRow) (fun _=>rfl) needsV_ok h
  obtain⟨o,o1,o2,h⟩:=slT_true r (row:=iRow) (fun _=>rfl) intsV_ok h
  obtain⟨f,f1,f2,h⟩:=slT_true r (row:=nRow) (fun _=>rfl) needsV_ok h
  obtain⟨xs,x1,x2,x3⟩:=ih _ _ _ _ h
  refine⟨_,?_,?_,x3⟩
  ·rw[x1]
   simp only[List.map_cons,List.flatten_cons,RV.row,ba_eq,List.cons_append,List.nil_append]
  ·intro x hx
   rcases List.mem_cons.1 hx with rfl|hx
   ·exact⟨⟨p1,q1,o1,f1⟩,h0,p2,q2,o2,f2⟩
   ·exact x2 x hx
 |case3=>intro h;cases h
noncomputable def lyT(t:HT)(v:Value)(K:V4→List RV→Ly→Bool):Bool:=match v with
 | .agg cs=>match cs.toList with
  |[s,p,g,r]=>slT t 1 s strsV fun S=>asT (S.all fun x=>Nat.ble x.length 1000000) <| slT t 2 p namedV fun Q=>asT (Q.all fun x=>Nat.ble x.1.length 1000000) <| slT t 2 g namedV fun G=>asT (G.all fun x=>Nat.ble x.1.length 1000000) <|
   (match r with
    | .slice _ m _=>elemsT t 6 r fun c=>rosT t c fun xs=>asT (Nat.beq m xs.length) (asT (Nat.ble m 1000000) (K ⟨s,p,g,r⟩ xs ⟨S,Q,G,xs.map (·.r)⟩))
    |_=>false)
  |_=>false
 |_=>false
theorem lyT_true{RT:List RDef}{n:Nat}{t:HT}{H:AHeap}(r:Ev.Rp RT n t H){v:Value}{K:V4→List RV→Ly→Bool}(h:lyT t v K=true):∃u xs L,v=.agg u.l.toArray∧LyR H u xs L∧LyIn 9223372036854775807 L∧LyB xs L∧K u xs L=true:=by
 unfold lyT at h
 split at h
 ·rename_i cs
  split at h
  ·rename_i s p g q e
   obtain⟨S,s1,s2,h⟩:=slT_true r (row:=tRow) (fun _=>rfl) strsV_ok h
   obtain⟨s3,h⟩:=asT_true h
   obtain⟨Q,p1,p2,h⟩:=slT_true r (row:=pRow) (fun _=>rfl) namedV_ok h
   obtain⟨p3,h⟩:=asT_true h
   obtain⟨G,g1,g2,h⟩:=slT_true r (row:=pRow) (fun _=>rfl) namedV_ok h
   obtain⟨g3,h⟩:=asT_true h
   split at h
   ·rename_i a m k _ _ _ _ _ _
    obtain⟨c,c1,h⟩:=Ev.elemsT_true r h
    obtain⟨xs,x1,x2,h⟩:=rosT_true r _ _ h
    obtain⟨h3,h⟩:=asT_true h
    obtain⟨h5,h6⟩:=asT_true h
    have h3:=Nat.eq_of_beq_eq_true h3
    have h5:=Nat.le_of_ble_eq_true h5
    have s4:∀x∈S,x.length≤1000000:=fun x hx=>Nat.le_of_ble_eq_true (List.all_eq_true.1 s3 x hx)
    have p4:∀x∈Q,x.1.length≤1000000:=fun x hx=>Nat.le_of_ble_eq_true (List.all_eq_true.1 p3 x hx)
    have g4:∀x∈G,x.1.length≤1000000:=fun x hx=>Nat.le_of_ble_eq_true (List.all_eq_true.1 g3 x hx)
    refine⟨⟨s,p,g,_⟩,xs,⟨S,Q,G,xs.map (·.r)⟩,?_,⟨s1,p1,g1,⟨⟨a,k,by rw[List.length_map,h3]⟩,?_,by rw[c1,x1]⟩,rfl,fun x hx=>(x2 x hx).1⟩,⟨⟨by simp only;omega,fun x hx=>by have:=s4 x hx;omega⟩,⟨by simp only;omega,fun x hx=>by have:=p4 x hx;omega⟩,⟨by simp only;omega,fun x hx=>by have:=g4 x hx;omega⟩,⟨by simp only[List.length_map];omega,?_⟩⟩,⟨?_,?_,?_,?_,?_⟩,h6⟩
    ·simp only[V4.l,←e]
    ·intro y hy
     obtain⟨x,_,rfl⟩:=List.mem_map.1 hy
     rfl
    ·intro y hy
     obtain⟨x,hx,rfl⟩:=List.mem_map.1 hy
     have:=x2 x hx
     omega
    ·simp only[RB];omega
    ·simp only[RB];omega
    ·simp only[RB];omega
    ·simp only[RB,List.length_map];omega
    ·intro y hy
     have:=x2 y hy
     exact⟨by simp only[RB];omega,by simp only[RB];omega,by simp only[RB];omega,by simp only[RB];omega⟩
   ·cases h
  ·cases h
 ·cases h
variable {RT:List RDef}
noncomputable def lyH:HF:=fun xs n t K=>match xs with
 |[v]=>lyT t v fun _ _ _=>K (.bool true) n t
 |_=>false
theorem lyH_ok{f:FuncId}(h:∀{H:AHeap} {u:V4} {xs:List RV} {L:Ly},LyR H u xs L→LyIn 9223372036854775807 L→LyB xs L→∃w H',ARun Tryz.prog 4 f [.agg u.l.toArray] H w H'∧w=.bool true):HFok RT Tryz.prog 4 f lyH:=HFok.of fun xs n t K h1 H r=>by
 unfold lyH at h1
 split at h1
 ·obtain⟨u,xs,L,rfl,a1,a2,a3,a4⟩:=lyT_true r h1
  obtain⟨w,H',b1,rfl⟩:=h (Ky.LyR.un a1) a2 a3
  exact⟨_,b1.pure rfl,a4⟩
 ·cases h1
noncomputable def txH:HF:=fun xs n t K=>match xs with
 |[.string s]=>asT (Nat.ble (bLen s) 1000000) (K (.bool true) n t)
 |_=>false
theorem txH_ok{f:FuncId}(h:∀(H:AHeap) {s:List UInt8},s.length≤9223372036854775807→∃w H',ARun Tryz.prog 4 f [.string ⟨s.toArray⟩] H w H'∧w=.bool true):HFok RT Tryz.prog 4 f txH:=HFok.of fun xs n t K h1 H r=>by
 unfold txH at h1
 split at h1
 ·rename_i s
  obtain⟨a1,a2⟩:=asT_true h1
  have a1:=Nat.le_of_ble_eq_true a1
  obtain⟨w,H',b1,rfl⟩:=h H.unown (s:=s.data.toList) (by unfold bLen at a1;omega)
  rw[ba_eq]at b1
  exact⟨_,b1.pure rfl,a2⟩
 ·cases h1
noncomputable def tlH:HF:=fun xs n t K=>match xs with
 |[.string s,v]=>asT (Nat.ble (bLen s) 1000000) (lyT t v fun _ _ _=>K (.bool true) n t)
 |_=>false
theorem tlH_ok:HFok RT Tryz.prog 4 6 tlH:=HFok.of fun xs n t K h1 H r=>by
 unfold tlH at h1
 split at h1
 ·rename_i s v
  obtain⟨a1,a2⟩:=asT_true h1
  have a1:=Nat.le_of_ble_eq_true a1
  obtain⟨u,xs,L,rfl,c1,c2,c3,c4⟩:=lyT_true r a2
  obtain⟨w,H',b1,rfl⟩:=tBackL (s:=s.data.toList) (by unfold bLen at a1;omega) (Ky.LyR.un c1) c2
  rw[ba_eq]at b1
  exact⟨_,b1.pure rfl,c4⟩
 ·cases h1
noncomputable def prH:HF:=fun xs n t K=>match xs with
 |[v]=>lyT t v fun _ _ L=>match prV L with
  | .tuple cs=>match cs.toList with
   |[.string s,.int k e]=>K (.tuple #[.string s,.int k e]) n t
   |_=>false
  |_=>false
 |_=>false
theorem prH_ok{f:FuncId}(h:∀{H:AHeap} {u:V4} {xs:List RV} {L:Ly},LyR H u xs L→LyIn 9223372036854775807 L→∃w H',ARun Tryz.prog 4 f [.agg u.l.toArray] H w H'∧w=prV L∧H'=H):HFok RT Tryz.prog 4 f prH:=HFok.of fun xs n t K h1 H r=>by
 unfold prH at h1
 split at h1
 ·obtain⟨u,xs,L,rfl,a1,a2,a3,a4⟩:=lyT_true r h1
  obtain⟨w,H',b1,rfl,rfl⟩:=h a1 a2
  split at a4
  ·rename_i cs e
   split at a4
   ·rename_i s k e2 e3
    refine⟨_,b1,?_⟩
    have:cs= #[.string s,.int k e2]:=by rw[←e3]
    rw[e,this];exact a4
   ·cases a4
  ·cases a4
 ·cases h1
noncomputable def myH:HF:=fun xs n t K=>match xs with
 |[v]=>lyT t v fun _ _ L=>forceB (mayB L) fun b=>K (.bool b) n t
 |_=>false
theorem myH_ok:HFok RT Tryz.prog 4 18 myH:=HFok.of fun xs n t K h1 H r=>by
 unfold myH at h1
 split at h1
 ·obtain⟨u,xs,L,rfl,a1,a2,a3,a4⟩:=lyT_true r h1
  rw[forceB_eq]at a4
  obtain⟨w,H',b1,rfl,rfl⟩:=lMayA a1 a2
  exact⟨_,b1,a4⟩
 ·cases h1
noncomputable def paH:HF:=fun xs n t K=>match xs with
 |[.string s]=>match parseP s.data.toList with
  |(_,e,i)=>forceI e fun e=>asT (!iEq e 0) (forceN i fun i=>K (.tuple #[.agg #[.slice none 0 0,.slice none 0 0,.slice none 0 0,.slice none 0 0],.int .i64 e,.int .i64 (.ofNat i)]) n t)
 |_=>false
theorem nil4_n(ρ:Nat→Option Nat)(e i:Int):NV ρ (.tuple #[.agg nil4.l.toArray,.int .i64 e,.int .i64 i]) (.tuple #[.agg nil4.l.toArray,.int .i64 e,.int .i64 i]):=
 NV.tuple_of (l:=[_,_,_]) (l':=[_,_,_]) (.cons (NV.agg_of (NL.plain rfl)) (.cons (.int _ _) (.cons (.int _ _) .nil)))
theorem paH_ok:HFok RT Tryz.prog 4 13 paH:=HFok.of fun xs n t K h1 H r=>by
 unfold paH at h1
 split at h1
 ·rename_i s
  obtain⟨w,K1,b1,b2,u,xs,rfl,_,b3⟩:=t13s H s.data.toList
  split at h1
  rename_i _ e i hp
  rw[forceI_eq]at h1
  obtain⟨c1,c2⟩:=asT_true h1
  rw[forceN_eq]at c2
  rw[hp]at b1 b3
  have c1:e≠0:=by
   intro h
   subst h
   rw[iEq_eq]at c1
   simp at c1
  have:=b3 c1
  subst this
  rw[ba_eq]at b1
  exact⟨_,b1.gc0 b2 (.inr (nil4_n _ _ _)),c2⟩
 ·cases h1
noncomputable def wkH:HF:=fun xs n t K=>match xs with
 |[]=>K (.bool true) n t
 |_=>false
theorem wkH_ok:HFok RT Tryz.prog 4 10 wkH:=HFok.of fun xs n t K h1 H r=>by
 unfold wkH at h1
 split at h1
 ·obtain⟨w,K1,b1,rfl,b2⟩:=t10 H
  exact⟨_,b1.gc0 b2 (.inr (.bool true)),h1⟩
 ·cases h1
theorem hkParses:HFok RT Tryz.prog 4 5 txH:=txH_ok fun H _ hs=>t5L H hs
theorem hkNotes:HFok RT Tryz.prog 4 7 txH:=txH_ok fun H _ hs=>t7L H hs
theorem hkMay:HFok RT Tryz.prog 4 19 lyH:=lyH_ok fun a b _=>t19L a b
theorem hkPrints:HFok RT Tryz.prog 4 20 lyH:=lyH_ok fun a b c=>tPrintsL a b c
theorem hkPrint:HFok RT Tryz.prog 4 17 prH:=prH_ok fun a b=>lPrintA a b
theorem hkRow:HFok RT Tryz.prog 4 11 prH:=prH_ok fun a b=>t11 a b
end Go.AM.Fd

set_option maxRecDepth 100000
set_option maxHeartbeats 0
namespace Go.AM.F
def Z40:List Value:=List.replicate 40 (.string ByteArray.empty)
def Z30:List Value:=[(.string ByteArray.empty),(.int .i64 0),(.slice none 0 0),(.slice none 0 0),(.slice none 0 0),(.slice none 0 0),(.string ByteArray.empty),(.int .i64 0),(.slice none 0 0),(.slice none 0 0),(.slice none 0 0),(.slice none 0 0),(.string ByteArray.empty),(.int .i64 0),(.slice none 0 0),(.slice none 0 0),(.slice none 0 0),(.slice none 0 0),(.string ByteArray.empty),(.int .i64 0),(.slice none 0 0),(.slice none 0 0),(.slice none 0 0),(.slice none 0 0),(.string ByteArray.empty),(.int .i64 0),(.slice none 0 0),(.slice none 0 0),(.slice none 0 0),(.slice none 0 0)]
def zclF:TypeId→List Value
 |30=>[(.slice none 0 0),(.slice none 0 0),(.slice none 0 0),(.slice none 0 0)]
 |44=>[(.string ByteArray.empty),(.int .i64 0),(.slice none 0 0),(.slice none 0 0),(.slice none 0 0),(.slice none 0 0)]
 |49=>[(.int .i64 0),(.bool false)]
 |3=>[(.int .i64 0)]
 |46=>[(.string ByteArray.empty),(.int .i64 0)]
 |47=>[(.string ByteArray.empty),(.int .i64 0)]
 |5=>[(.int .u8 0)]
 |_=>[]
def zvlF:TypeId→Value
 |_=>undef
def zklF:TypeId→List Nat
 |_=>[]
def zrlF:Nat→TypeId→List Value
 |40,9=>Z40
 |1,3=>[(.int .i64 0)]
 |1,49=>[(.int .i64 0),(.bool false)]
 |2,5=>[(.int .u8 0),(.int .u8 0)]
 |1,9=>[(.string ByteArray.empty)]
 |1,46=>[(.string ByteArray.empty),(.int .i64 0)]
 |1,47=>[(.string ByteArray.empty),(.int .i64 0)]
 |1,44=>[(.string ByteArray.empty),(.int .i64 0),(.slice none 0 0),(.slice none 0 0),(.slice none 0 0),(.slice none 0 0)]
 |4,9=>[(.string ByteArray.empty),(.string ByteArray.empty),(.string ByteArray.empty),(.string ByteArray.empty)]
 |6,9=>[(.string ByteArray.empty),(.string ByteArray.empty),(.string ByteArray.empty),(.string ByteArray.empty),(.string ByteArray.empty),(.string ByteArray.empty)]
 |2,46=>[(.string ByteArray.empty),(.int .i64 0),(.string ByteArray.empty),(.int .i64 0)]
 |3,47=>[(.string ByteArray.empty),(.int .i64 0),(.string ByteArray.empty),(.int .i64 0),(.string ByteArray.empty),(.int .i64 0)]
 |2,3=>[(.int .i64 0),(.int .i64 0)]
 |2,49=>[(.int .i64 0),(.bool false),(.int .i64 0),(.bool false)]
 |5,44=>Z30
 |_,_=>[]
noncomputable def f3:AFunc:=by
 refine(fun(_:Cz zclF zvlF zklF zrlF Go.Proofs.Tryz.prog 4 [0,1,3,5,6,7,8,35] 3 ?a)=>?a) ?h
 case h=>
 intro zc zv zk zr hc hv hk hr
 conv=>lhs;cbv;try simp only[hc,hv,hk,hr,zclF,zvlF,zklF,zrlF]
theorem f3_ok:compF Go.Proofs.Tryz.prog 4 [0,1,3,5,6,7,8,35] 3=some f3:=by kernel_rfl
theorem f3_n:argsOK Go.Proofs.Tryz.prog 3 0=true:=by kernel_rfl
noncomputable def f4:AFunc:=by
 refine(fun(_:Cz zclF zvlF zklF zrlF Go.Proofs.Tryz.prog 4 [0,1] 4 ?a)=>?a) ?h
 case h=>
 intro zc zv zk zr hc hv hk hr
 conv=>lhs;cbv;try simp only[hc,hv,hk,hr,zclF,zvlF,zklF,zrlF]
theorem f4_ok:compF Go.Proofs.Tryz.prog 4 [0,1] 4=some f4:=by kernel_rfl
theorem f4_n:argsOK Go.Proofs.Tryz.prog 4 0=true:=by kernel_rfl
noncomputable def f8:AFunc:=by
 refine(fun(_:Cz zclF zvlF zklF zrlF Go.Proofs.Tryz.prog 4 [0,1,2,3,5,13,14,19,25,31,37,43,46,50,54,59,64,67,71,75,79,84,103] 8 ?a)=>?a) ?h
 case h=>
 intro zc zv zk zr hc hv hk hr
 conv=>lhs;cbv;try simp only[hc,hv,hk,hr,zclF,zvlF,zklF,zrlF]
theorem f8_ok:compF Go.Proofs.Tryz.prog 4 [0,1,2,3,5,13,14,19,25,31,37,43,46,50,54,59,64,67,71,75,79,84,103] 8=some f8:=by kernel_rfl
theorem f8_n:argsOK Go.Proofs.Tryz.prog 8 0=true:=by kernel_rfl
noncomputable def f9:AFunc:=by
 refine(fun(_:Cz zclF zvlF zklF zrlF Go.Proofs.Tryz.prog 4 [0,1,2,3,4,5,6,7,9,11,12,13,14,16,18,22,93,109,110,115,121,127,139,158,159,160,161,177,180] 9 ?a)=>?a) ?h
 case h=>
 intro zc zv zk zr hc hv hk hr
 conv=>lhs;cbv;try simp only[hc,hv,hk,hr,zclF,zvlF,zklF,zrlF]
theorem f9_ok:compF Go.Proofs.Tryz.prog 4 [0,1,2,3,4,5,6,7,9,11,12,13,14,16,18,22,93,109,110,115,121,127,139,158,159,160,161,177,180] 9=some f9:=by kernel_rfl
theorem f9_n:argsOK Go.Proofs.Tryz.prog 9 0=true:=by kernel_rfl
noncomputable def f12:AFunc:=by
 refine(fun(_:Cz zclF zvlF zklF zrlF Go.Proofs.Tryz.prog 4 [0] 12 ?a)=>?a) ?h
 case h=>
 intro zc zv zk zr hc hv hk hr
 conv=>lhs;cbv;try simp only[hc,hv,hk,hr,zclF,zvlF,zklF,zrlF]
theorem f12_ok:compF Go.Proofs.Tryz.prog 4 [0] 12=some f12:=by kernel_rfl
theorem f12_n:argsOK Go.Proofs.Tryz.prog 12 0=true:=by kernel_rfl
end Go.AM.F

set_option maxRecDepth 100000
set_option maxHeartbeats 0
namespace Go.AM.Fd
open Go.Proofs Go.AM.F Go.AM.Ev
noncomputable def RT:List RDef:=[]
theorem RT_ok:RTok Tryz.prog 4 RT:=fun d hd=>by cases hd
noncomputable def e3:EF:=⟨0,f3.sl,f3.res,simpC f3.body⟩
theorem e3_ok:EFok RT Tryz.prog 4 3 e3:=ok_sf f3_ok rfl f3_n
noncomputable def e4:EF:=⟨0,f4.sl,f4.res,simpC f4.body⟩
theorem e4_ok:EFok RT Tryz.prog 4 4 e4:=ok_sf f4_ok rfl f4_n
noncomputable def e8:EF:=⟨0,f8.sl,f8.res,simpC f8.body⟩
theorem e8_ok:EFok RT Tryz.prog 4 8 e8:=ok_sf f8_ok rfl f8_n
noncomputable def e9:EF:=⟨0,f9.sl,f9.res,simpC f9.body⟩
theorem e9_ok:EFok RT Tryz.prog 4 9 e9:=ok_sf f9_ok rfl f9_n
noncomputable def e12:EF:=⟨0,f12.sl,f12.res,simpC f12.body⟩
theorem e12_ok:EFok RT Tryz.prog 4 12 e12:=ok_sf f12_ok rfl f12_n
noncomputable def tab:Ev.FT:=(.hook 10 wkH (.hook 6 tlH (.node 4 e4 (.node 3 e3 .leaf .leaf) (.hook 5 txH .leaf .leaf)) (.node 8 e8 (.hook 7 txH .leaf .leaf) (.node 9 e9 .leaf .leaf))) (.hook 17 prH (.node 12 e12 (.hook 11 prH .leaf .leaf) (.hook 13 paH .leaf .leaf)) (.hook 19 lyH (.hook 18 myH .leaf .leaf) (.hook 20 lyH .leaf .leaf))))
theorem tab_ok:tab.ok RT Tryz.prog 4:=⟨wkH_ok,⟨tlH_ok,⟨e4_ok,⟨e3_ok,trivial,trivial⟩,⟨hkParses,trivial,trivial⟩⟩,⟨e8_ok,⟨hkNotes,trivial,trivial⟩,⟨e9_ok,trivial,trivial⟩⟩⟩,⟨hkPrint,⟨e12_ok,⟨hkRow,trivial,trivial⟩,⟨paH_ok,trivial,trivial⟩⟩,⟨hkMay,⟨myH_ok,trivial,trivial⟩,⟨hkPrints,trivial,trivial⟩⟩⟩⟩
end Go.AM.Fd
