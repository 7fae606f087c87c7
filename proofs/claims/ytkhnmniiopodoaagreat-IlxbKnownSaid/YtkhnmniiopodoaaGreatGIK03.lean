/- Part of the proof. -/
import Derived.Test.YtkhnmniiopodoaaGreatGIK02
set_option linter.unusedSimpArgs false
set_option linter.unusedVariables false
namespace Go.AM.Fd
open Nat (reduceAdd reduceEqDiff reduceLT reduceLeDiff reduceMul reduceSub)
open Go.Proofs Go.AM.F
theorem okN_bad1{l:List (List UInt8)}{i:Nat}(h:i<l.length)(hr:rightB (l.getD i [])=false):okN l=false:=by
 simp only[okN,all_not h hr,Bool.false_and]
theorem nodup_take{α:Type}[BEq α][LawfulBEq α]{l:List α}{i:Nat}{d:α}(h:i<l.length)(hc:(l.take i).contains (l.getD i d)=true):¬l.Nodup:=by
 intro hn
 have e:l=l.take i++l.drop i:=(List.take_append_drop i l).symm
 rw[e]at hn
 have h2:=(List.nodup_append.1 hn).2.2
 have h3:l.getD i d∈l.drop i:=by
  rw[List.mem_iff_getElem?]
  exact⟨0,by simp[List.getD,List.getElem?_eq_getElem h]⟩
 exact h2 _ (by simpa using hc) _ h3 rfl
theorem okN_bad2{l:List (List UInt8)}{i:Nat}(h:i<l.length)(hc:(l.take i).contains (l.getD i [])=true):okN l=false:=by
 have:=nodup_take h hc
 simp[okN,this]
theorem ixV_no{n:List UInt8}{l:List (List UInt8)}(h:l.contains n=false):ixV n l= -1:=by
 have:=ixT_mem (n:=n) (l:=l)
 rw[h]at this
 unfold ixV
 cases he:ixT n l with
 |none=>rfl
 |some i=>rw[he]at this;cases this
theorem ixV_yes{n:List UInt8}{l:List (List UInt8)}(h:l.contains n=true):0≤ixV n l:=by
 have:=ixT_mem (n:=n) (l:=l)
 rw[h]at this
 unfold ixV
 cases he:ixT n l with
 |none=>rw[he]at this;cases this
 |some i=>simp
def RF(A:Value)(H:AHeap)(fr:List Value)(K:AHeap):Prop:=∃x3 x4 x5 x6 x7 x8 x9 x10 x11 x12 x13 x14 x15 x16 x17,fr=[A,ptr H.n 0,.bool false,x3,x4,x5,x6,x7,x8,x9,x10,x11,x12,x13,x14,x15,x16,x17]∧Keeps H K
def RM(A:Value)(H:AHeap)(u:V4)(L:Ly)(ok:Prop)(fr:List Value)(K:AHeap):Prop:=
 ∃vn x4 x5 x6 x7 x8 x9 x10 x11 x12 x13 x14 x15 x16 x17,fr=[A,ptr H.n 0,.bool false,vn,x4,x5,x6,x7,x8,x9,x10,x11,x12,x13,x14,x15,x16,x17]∧Keeps (vB H u) K∧OW 9 1 H K vn ((namesL L).map tRow)∧ok
theorem namesL_fit{L:Ly}(hf:LyFit L):∀x∈namesL L,x.length≤9223372036854775807:=by
 intro x hx
 simp only[namesL,List.mem_append,List.mem_map]at hx
 rcases hx with((hx|⟨y,hy,rfl⟩)|⟨y,hy,rfl⟩)|⟨y,hy,rfl⟩
 ·exact hf.s.2 x hx
 ·exact hf.p.2 y hy
 ·exact hf.g.2 y hy
 ·exact(hf.r.2 y hy).1
set_option maxHeartbeats 1000000 in
theorem rmay1{H:AHeap}{u:V4}{L:Ly}{Q:AQ}{A:Value}{fr:List Value}{K:AHeap}(hf:LyFit L)(hs:(namesL L).length≤1000000000)(hm:RM A H u L True fr K)
 (hk:∀fr K,RM A H u L (okN (namesL L)=true) fr K→Q .normal fr K) (hr:mayB L=false→∀fr K,RF A H fr K→Q .ret fr K):W Tryz.prog 0 (cpre 1 (cpost 3 f63.body)) Q fr K:=by
 obtain⟨vn,x4,x5,x6,x7,x8,x9,x10,x11,x12,x13,x14,x15,x16,x17,rfl,hkK,ho,_⟩:=hm
 have ia:=ho.is
 have la:=ho.len
 rw[List.length_map]at la
 have hfit:=namesL_fit hf
 have bad:okN (namesL L)=false→mayB L=false:=fun e=>by simp[mayB,e]
 have ht:TL K vn (namesL L):=ho.sl
 obtain⟨ns,hns⟩:∃ns,ns=namesL L:=⟨_,rfl⟩
 rw[←hns]at hs la hfit bad ht
 have ho':=ho
 rw[←hns]at ho'
 simp(disch:=first|assumption|omega)only[f63,cpre,cpost,P3,seval,initFr,clsA]
 rw[W_block]
 refine W_loop2 (fun k fr K'=>∃i x10 x11,fr=[A,ptr H.n 0,.bool false,vn,.int .i64 ((i:Nat):Int),x5,x6,x7,x8,x9,x10,x11,x12,x13,x14,x15,x16,x17]∧K'=K∧i≤ns.length∧okN (ns.take i)=true∧k=ns.length-i) ns.length
  ⟨0,_,_,rfl,rfl,by omega,by simp[okN],rfl⟩ ?_
 rintro Q' k fr _ ⟨i,x10,x11,rfl,rfl,hi,hp,rfl⟩ hn hx hret
 by_cases hlt:i<ns.length
 ·obtain⟨na,ra⟩:=ht.at_ hlt
  have h0:(0:Int)≤(i:Int):=by omega
  have h1:(i:Int)<((lenS vn:Nat):Int):=by omega
  have h3:(i:Int)<((ns.length:Nat):Int):=by omega
  have hw:IntKind.i64.wrap ((i:Int)+1)=((i+1:Nat):Int):=by rw[wrap_i64 (by omega) (by omega)];simp
  have hlen:=hfit _ (getD_mem (d:=[]) hlt)
  obtain⟨w,s1,s2⟩:=ho'.pre (kd:=.i64) (i:=i) (by rw[List.length_map];omega)
  rw[←List.map_take]at s2
  have hs1:=okN_snoc (ns.take i) (ns.getD i [])
  rw[←take_snoc [] hlt,hp]at hs1
  have b1:=fun e=>okN_bad1 (l:=ns) hlt e
  have b2:=fun e=>okN_bad2 (l:=ns) hlt e
  unfold tRow at ra
  generalize ns.getD i []=n at*
  simp(disch:=first|assumption|omega)only[W_block,P3,seval,initFr,clsA,la,ra,na,a_load1v]
  refine callK (t103 _ n hlen) ?_
  rintro _ _ ⟨rfl,rfl⟩
  cases hrn:rightB n with
  |false=>
   simp(disch:=first|assumption|omega)only[W_block,P3,seval,initFr,clsA]
   exact hret _ _ (hr (bad (b1 hrn)) _ _ ⟨_,_,_,_,_,_,_,_,_,_,_,_,_,_,_,rfl,(vB_k H u).trans hkK⟩)
  |true=>
  simp(disch:=first|assumption|omega)only[W_block,P3,seval,initFr,clsA,s1,la,ra,na,a_load1v]
  refine callK (t104 s2 (by rw[List.length_take];omega) n) ?_
  rintro _ _ ⟨rfl,rfl⟩
  cases hc:(ns.take i).contains n with
  |true=>
   have c0:=ixV_yes hc
   simp(disch:=first|assumption|omega)only[W_block,P3,seval,initFr,clsA]
   exact hret _ _ (hr (bad (b2 hc)) _ _ ⟨_,_,_,_,_,_,_,_,_,_,_,_,_,_,_,rfl,(vB_k H u).trans hkK⟩)
  |false=>
   have c0:=ixV_no hc
   rw[c0]
   have c1:¬(0:Int)≤ -1:=by omega
   simp(disch:=first|assumption|omega)only[W_block,P3,seval,initFr,clsA,hw]
   exact hn _ _ _ ⟨i+1,_,_,rfl,rfl,by omega,by rw[hs1,hrn,hc];rfl,rfl⟩ (by omega)
 ·have h3:¬(i:Int)<((ns.length:Nat):Int):=by omega
  simp(disch:=first|assumption|omega)only[W_block,P3,seval,initFr,clsA,la]
  refine hx 0 _ _ ?_
  rw[List.take_of_length_le (by omega),hns]at hp
  exact hk _ _ ⟨_,_,_,_,_,_,_,_,_,_,_,_,_,_,_,rfl,hkK,ho,hp⟩
end Go.AM.Fd

namespace Go.AM.Fd
open Nat (reduceAdd reduceEqDiff reduceLT reduceLeDiff reduceMul reduceSub)
open Go.Proofs Go.AM.F
def C2(L:Ly):Prop:=okN (namesL L)=true∧L.p.all (fun x=>inB L.s.length x.2)=true
def C3(L:Ly):Prop:=C2 L∧L.g.all (fun x=>inB L.s.length x.2)=true
set_option maxHeartbeats 1000000 in
theorem rmay2{H:AHeap}{u:V4}{xs:List RV}{L:Ly}{Q:AQ}{A:Value}{fr:List Value}{K:AHeap}(h:LyR H u xs L)(hf:LyFit L)(hm:RM A H u L (okN (namesL L)=true) fr K)
 (hk:∀fr K,RM A H u L (C2 L) fr K→Q .normal fr K) (hr:mayB L=false→∀fr K,RF A H fr K→Q .ret fr K):W Tryz.prog 0 (cpre 1 (cpost 4 f63.body)) Q fr K:=by
 obtain⟨vn,x4,x5,x6,x7,x8,x9,x10,x11,x12,x13,x14,x15,x16,x17,rfl,hkK,ho,hpre⟩:=hm
 have lp:=h.p.len
 have ls:=h.s.len
 have ip:=Sl.is h.p
 have is:=Sl.is h.s
 have bad:L.p.all (fun x=>inB L.s.length x.2)=false→mayB L=false:=fun e=>by simp only[mayB,e];simp
 simp(disch:=first|assumption|omega)only[f63,cpre,cpost,P3,seval,initFr,clsA]
 rw[W_block]
 refine W_loop2 (fun k fr K=>∃i xc xd,fr=[A,ptr H.n 0,.bool false,vn,x4,.int .i64 ((i:Nat):Int),x6,x7,x8,x9,x10,x11,xc,xd,x14,x15,x16,x17]∧Keeps (vB H u) K∧OW 9 1 H K vn ((namesL L).map tRow)∧i≤L.p.length∧(L.p.take i).all (fun x=>inB L.s.length x.2)=true∧k=L.p.length-i) L.p.length
  ⟨0,_,_,rfl,hkK,ho,by omega,by simp,rfl⟩ ?_
 clear hkK ho
 rintro Q' k fr K ⟨i,xc,xd,rfl,hkK,ho,hi,hp,rfl⟩ hn hx hret
 have gl:=hkK.at_ (vB_g H u)
 simp only[V4.l]at gl
 by_cases hlt:i<L.p.length
 ·obtain⟨na,ra⟩:=(h.p.keeps ((vB_k H u).trans hkK)).at_ hlt
  have h1:(0:Int)≤(i:Int):=by omega
  have h2:(i:Int)<((lenS u.p:Nat):Int):=by omega
  have h3:(i:Int)<((L.p.length:Nat):Int):=by omega
  have hw:IntKind.i64.wrap ((i:Int)+1)=((i+1:Nat):Int):=by rw[wrap_i64 (by omega) (by have:=hf.p.1;omega)];simp
  have stop:=fun e=>all_not (p:=fun x:List UInt8×Int=>inB L.s.length x.2) (d:=([],0)) hlt e
  have go:=fun e=>all_take (p:=fun x:List UInt8×Int=>inB L.s.length x.2) (d:=([],0)) hlt hp e
  generalize L.p.getD i ([],0)=y at*
  have o1:one1 (Value.int .i64 y.2)=True:=by simp[one1,one_int]
  have gl2:=((Keeps.refl K).alloc (.cells true false 1 [.int .i64 y.2] 3)).at_ gl
  have hk2:=hkK.trans ((Keeps.refl K).alloc (.cells true false 1 [.int .i64 y.2] 3))
  have ho2:=ho.keeps ((Keeps.refl K).alloc (.cells true false 1 [.int .i64 y.2] 3))
  have hln:=AHeap.get_lt gl
  have hil:IL (K.alloc (.cells true false 1 [.int .i64 y.2] 3)) (slc K.n 0 1 1) [y.2]:=
   ⟨⟨_,_,rfl⟩,by simp[iRow],by rw[elems_new rfl rfl];rfl⟩
  simp(disch:=first|assumption|omega)only[W_block,P3,seval,initFr,clsA,gl,gl2,lp,ls,ra,na,a_load1v,o1]
  refine callQ (t105 _ hil (by simp)) ?_
  have e:(decide ([y.2].length≤16)&&[y.2].all (inB (L.s.length:Nat)))=inB L.s.length y.2:=by simp
  rw[e]
  cases hb:inB L.s.length y.2 with
  |false=>
   simp(disch:=first|assumption|omega)only[W_block,P3,seval,initFr,clsA]
   exact hret _ _ (hr (bad (stop hb)) _ _ ⟨_,_,_,_,_,_,_,_,_,_,_,_,_,_,_,rfl,(vB_k H u).trans hk2⟩)
  |true=>
   simp(disch:=first|assumption|omega)only[W_block,P3,seval,initFr,clsA,hw]
   exact hn _ _ _ ⟨i+1,_,_,rfl,hk2,ho2,by omega,go hb,rfl⟩ (by omega)
 ·have h3:¬(i:Int)<((L.p.length:Nat):Int):=by omega
  simp(disch:=first|assumption|omega)only[W_block,P3,seval,initFr,clsA,gl,lp]
  refine hx 2 _ _ ?_
  rw[List.take_of_length_le (by omega)]at hp
  exact hk _ _ ⟨_,_,_,_,_,_,_,_,_,_,_,_,_,_,_,rfl,hkK,ho,hpre,hp⟩
set_option maxHeartbeats 1000000 in
theorem rmay3{H:AHeap}{u:V4}{xs:List RV}{L:Ly}{Q:AQ}{A:Value}{fr:List Value}{K:AHeap}(h:LyR H u xs L)(hf:LyFit L)(hm:RM A H u L (C2 L) fr K)
 (hk:∀fr K,RM A H u L (C3 L) fr K→Q .normal fr K) (hr:mayB L=false→∀fr K,RF A H fr K→Q .ret fr K):W Tryz.prog 0 (cpre 1 (cpost 5 f63.body)) Q fr K:=by
 obtain⟨vn,x4,x5,x6,x7,x8,x9,x10,x11,x12,x13,x14,x15,x16,x17,rfl,hkK,ho,hpre⟩:=hm
 have lp:=h.g.len
 have ls:=h.s.len
 have ip:=Sl.is h.g
 have is:=Sl.is h.s
 have bad:L.g.all (fun x=>inB L.s.length x.2)=false→mayB L=false:=fun e=>by simp only[mayB,e];simp
 simp(disch:=first|assumption|omega)only[f63,cpre,cpost,P3,seval,initFr,clsA]
 rw[W_block]
 refine W_loop2 (fun k fr K=>∃i xc xd,fr=[A,ptr H.n 0,.bool false,vn,x4,x5,.int .i64 ((i:Nat):Int),x7,x8,x9,x10,x11,x12,x13,xc,xd,x16,x17]∧Keeps (vB H u) K∧OW 9 1 H K vn ((namesL L).map tRow)∧i≤L.g.length∧(L.g.take i).all (fun x=>inB L.s.length x.2)=true∧k=L.g.length-i) L.g.length
  ⟨0,_,_,rfl,hkK,ho,by omega,by simp,rfl⟩ ?_
 clear hkK ho
 rintro Q' k fr K ⟨i,xc,xd,rfl,hkK,ho,hi,hp,rfl⟩ hn hx hret
 have gl:=hkK.at_ (vB_g H u)
 simp only[V4.l]at gl
 by_cases hlt:i<L.g.length
 ·obtain⟨na,ra⟩:=(h.g.keeps ((vB_k H u).trans hkK)).at_ hlt
  have h1:(0:Int)≤(i:Int):=by omega
  have h2:(i:Int)<((lenS u.g:Nat):Int):=by omega
  have h3:(i:Int)<((L.g.length:Nat):Int):=by omega
  have hw:IntKind.i64.wrap ((i:Int)+1)=((i+1:Nat):Int):=by rw[wrap_i64 (by omega) (by have:=hf.g.1;omega)];simp
  have stop:=fun e=>all_not (p:=fun x:List UInt8×Int=>inB L.s.length x.2) (d:=([],0)) hlt e
  have go:=fun e=>all_take (p:=fun x:List UInt8×Int=>inB L.s.length x.2) (d:=([],0)) hlt hp e
  generalize L.g.getD i ([],0)=y at*
  have o1:one1 (Value.int .i64 y.2)=True:=by simp[one1,one_int]
  have gl2:=((Keeps.refl K).alloc (.cells true false 1 [.int .i64 y.2] 3)).at_ gl
  have hk2:=hkK.trans ((Keeps.refl K).alloc (.cells true false 1 [.int .i64 y.2] 3))
  have ho2:=ho.keeps ((Keeps.refl K).alloc (.cells true false 1 [.int .i64 y.2] 3))
  have hln:=AHeap.get_lt gl
  have hil:IL (K.alloc (.cells true false 1 [.int .i64 y.2] 3)) (slc K.n 0 1 1) [y.2]:=
   ⟨⟨_,_,rfl⟩,by simp[iRow],by rw[elems_new rfl rfl];rfl⟩
  simp(disch:=first|assumption|omega)only[W_block,P3,seval,initFr,clsA,gl,gl2,lp,ls,ra,na,a_load1v,o1]
  refine callQ (t105 _ hil (by simp)) ?_
  have e:(decide ([y.2].length≤16)&&[y.2].all (inB (L.s.length:Nat)))=inB L.s.length y.2:=by simp
  rw[e]
  cases hb:inB L.s.length y.2 with
  |false=>
   simp(disch:=first|assumption|omega)only[W_block,P3,seval,initFr,clsA]
   exact hret _ _ (hr (bad (stop hb)) _ _ ⟨_,_,_,_,_,_,_,_,_,_,_,_,_,_,_,rfl,(vB_k H u).trans hk2⟩)
  |true=>
   simp(disch:=first|assumption|omega)only[W_block,P3,seval,initFr,clsA,hw]
   exact hn _ _ _ ⟨i+1,_,_,rfl,hk2,ho2,by omega,go hb,rfl⟩ (by omega)
 ·have h3:¬(i:Int)<((L.g.length:Nat):Int):=by omega
  simp(disch:=first|assumption|omega)only[W_block,P3,seval,initFr,clsA,gl,lp]
  refine hx 4 _ _ ?_
  rw[List.take_of_length_le (by omega)]at hp
  exact hk _ _ ⟨_,_,_,_,_,_,_,_,_,_,_,_,_,_,_,rfl,hkK,ho,hpre,hp⟩
end Go.AM.Fd

namespace Go.AM.Fd
open Nat (reduceAdd reduceEqDiff reduceLT reduceLeDiff reduceMul reduceSub)
open Go.Proofs Go.AM.F
theorem roB_at{L:Ly}{i:Nat}(hi:i<L.r.length)(h:roB L (L.r.getD i rv0.r)=false):mayB L=false:=by
 have:=all_not (p:=roB L) (d:=rv0.r) hi h
 simp only[mayB,this];simp
set_option maxHeartbeats 4000000 in
theorem rmay4{H:AHeap}{u:V4}{xs:List RV}{L:Ly}{Q:AQ}{A:Value}{fr:List Value}{K:AHeap}(h:LyR H u xs L)(hf:LyFit L)(hm:RM A H u L (C3 L) fr K)
 (hk:∀fr K,RM A H u L (C3 L∧L.r.all (roB L)=true) fr K→Q .normal fr K) (hr:mayB L=false→∀fr K,RF A H fr K→Q .ret fr K):W Tryz.prog 0 (cpre 1 (cpost 6 f63.body)) Q fr K:=by
 obtain⟨vn,x4,x5,x6,x7,x8,x9,x10,x11,x12,x13,x14,x15,x16,x17,rfl,hkK,ho,hpre⟩:=hm
 have lp:=h.p.len
 have ls:=h.s.len
 have lg:=h.g.len
 have lr:=h.r.len
 rw[h.rlen]at lr
 have ip:=Sl.is h.p
 have is:=Sl.is h.s
 have ig:=Sl.is h.g
 have ir:=Sl.is h.r
 simp(disch:=first|assumption|omega)only[f63,cpre,cpost,P3,seval,initFr,clsA]
 rw[W_block]
 refine W_loop2 (fun k fr K=>∃i x8 xc xd,fr=[A,ptr H.n 0,.bool false,vn,x4,x5,x6,.int .i64 ((i:Nat):Int),x8,x9,x10,x11,x12,x13,x14,x15,xc,xd]∧Keeps (vB H u) K∧OW 9 1 H K vn ((namesL L).map tRow)∧i≤L.r.length∧(L.r.take i).all (roB L)=true∧k=L.r.length-i) L.r.length
  ⟨0,_,_,_,rfl,hkK,ho,by omega,by simp,rfl⟩ ?_
 clear hkK ho
 rintro Q' k fr K ⟨i,x8,xc,xd,rfl,hkK,ho,hi,hp,rfl⟩ hn hx hret
 have gl:=hkK.at_ (vB_g H u)
 simp only[V4.l]at gl
 by_cases hlt:i<L.r.length
 ·have hlt':i<xs.length:=by rw[h.rlen];exact hlt
  obtain⟨na,ra⟩:=RL.at_ (h.r.keeps ((vB_k H u).trans hkK)) hlt'
  obtain⟨xok,xr⟩:=h.rat hlt
  have hbl:=Sl.bn_le (h.r.keeps ((vB_k H u).trans hkK)) (by intro e;simp at e;rw[e]at hlt';simp at hlt') (by omega)
  have h1:(0:Int)≤(i:Int):=by omega
  have h2:(i:Int)<((lenS u.r:Nat):Int):=by omega
  have h3:(i:Int)<((L.r.length:Nat):Int):=by omega
  have hw:IntKind.i64.wrap ((i:Int)+1)=((i+1:Nat):Int):=by rw[wrap_i64 (by omega) (by have:=hf.r.1;omega)];simp
  have hlen:=hf.r.2 _ (getD_mem (d:=rv0.r) hlt)
  have stop:=roB_at hlt
  have go:=fun e=>all_take (p:=roB L) (d:=rv0.r) hlt hp e
  rw[←xr]at stop go hlen
  clear xr
  generalize xs.getD i rv0=y at*
  simp only[RV.row]at ra
  have iP:=Sl.is xok.p
  have iQ:=Sl.is xok.q
  have iO:=Sl.is xok.o
  have iF:=Sl.is xok.f
  have o1:one1 (Value.int .i64 y.r.g)=True:=by simp[one1,one_int]
  have o2:one1 (Value.string ⟨y.r.n.toArray⟩)=True:=by simp[one1,one_str]
  have o3:=one_isS iP
  have o4:=one_isS iQ
  have o5:=one_isS iO
  have o6:=one_isS iF
  obtain⟨row,hrow⟩:∃row,row=[.string ⟨y.r.n.toArray⟩,.int .i64 y.r.g,y.vp,y.vq,y.vo,y.vf]:=⟨_,rfl⟩
  have k1:=(Keeps.refl K).alloc (.cells true false 6 row 49)
  have gv1:=AHeap.get_alloc_new K (.cells true false 6 row 49)
  obtain⟨K1,hK1⟩:∃X,X=K.alloc (.cells true false 6 row 49):=⟨_,rfl⟩
  have n1:K1.n=K.n+1:=by rw[hK1];rfl
  have k2:=(Keeps.refl K1).alloc (.cells true false 1 [.int .i64 y.r.g] 3)
  obtain⟨K2,hK2⟩:∃X,X=K1.alloc (.cells true false 1 [.int .i64 y.r.g] 3):=⟨_,rfl⟩
  have n2:K2.n=K1.n+1:=by rw[hK2];rfl
  have hil:IL K2 (slc K1.n 0 1 1) [y.r.g]:=by
   rw[hK2];exact⟨⟨_,_,rfl⟩,by simp[iRow],by rw[elems_new rfl rfl];rfl⟩
  rw[←hK1]at k1 gv1
  rw[←hK2]at k2
  have gv2:=k2.at_ gv1
  have gl2:=(k1.trans k2).at_ gl
  have hk2:=hkK.trans (k1.trans k2)
  have ho2:=ho.keeps (k1.trans k2)
  have xk:=xok.keeps ((vB_k H u).trans hk2)
  have fin:∀{X:AHeap} {x8 xc xd:Value},Keeps (vB H u) X→roB L y.r=false→Q' .ret [A,ptr H.n 0,.bool false,vn,x4,x5,x6,.int .i64 ((i:Nat):Int),x8,x9,x10,x11,x12,x13,x14,x15,xc,xd] X:=
   fun hX e=>hret _ _ (hr (stop e) _ _ ⟨_,_,_,_,_,_,_,_,_,_,_,_,_,_,_,rfl,(vB_k H u).trans hX⟩)
  have hln:=AHeap.get_lt gl
  subst hrow
  simp(disch:=first|assumption|omega|(simp only[LN]<;>omega)|(simp(disch:=first|assumption|omega|(simp only[LN]<;>omega))only[row_alloc,row_set];assumption))only[W_block,P3,seval,initFr,clsA,gl,lr,lg,ra,na,a_loadnvf,o1,o2,o3,o4,o5,o6]
  rw[←hK1,←hK2,←n1]
  refine callQ (t105 _ hil (by simp)) ?_
  have e:(decide ([y.r.g].length≤16)&&[y.r.g].all (inB (L.g.length:Nat)))=inB L.g.length y.r.g:=by simp
  rw[e]
  have lP:=hlen.2.1
  have lQ:=hlen.2.2.1
  have lO:=hlen.2.2.2.1
  have lF:=hlen.2.2.2.2
  have e1:roB L y.r=(inB L.g.length y.r.g&&((decide (y.r.path.length≤16)&&y.r.path.all (inB L.s.length))&&((decide (y.r.ov.length≤16)&&y.r.ov.all (inB L.s.length))&&(needB L.p.length y.r.pts&&needB L.p.length y.r.fl)))):=by
   simp only[roB]
   cases inB L.g.length y.r.g<;>cases decide (y.r.path.length≤16)<;>cases decide (y.r.ov.length≤16)<;>cases y.r.path.all (inB L.s.length)<;>cases y.r.ov.all (inB L.s.length)<;>rfl
  cases hb:inB L.g.length y.r.g with
  |false=>
   simp(disch:=first|assumption|omega)only[W_block,P3,seval,initFr,clsA]
   exact fin hk2 (by rw[e1,hb];rfl)
  |true=>
  simp(disch:=first|assumption|omega)only[W_block,P3,seval,initFr,clsA,gv2,gl2,ls]
  refine callQ (t105 _ xk.p lP) ?_
  cases hbp:(decide (y.r.path.length≤16)&&y.r.path.all (inB (L.s.length:Nat)))with
  |false=>
   simp(disch:=first|assumption|omega)only[W_block,P3,seval,initFr,clsA]
   exact fin hk2 (by rw[e1,hbp];simp)
  |true=>
  simp(disch:=first|assumption|omega)only[W_block,P3,seval,initFr,clsA,gv2,gl2,ls]
  refine callQ (t105 _ xk.o lO) ?_
  cases hbo:(decide (y.r.ov.length≤16)&&y.r.ov.all (inB (L.s.length:Nat)))with
  |false=>
   simp(disch:=first|assumption|omega)only[W_block,P3,seval,initFr,clsA]
   exact fin hk2 (by rw[e1,hbo];simp)
  |true=>
  simp(disch:=first|assumption|omega)only[W_block,P3,seval,initFr,clsA,gv2,gl2,ls]
  refine callK (t106 xk.q lQ) ?_
  rintro wq K3 ⟨hq,k3⟩
  have gl3:=k3.at_ gl2
  have gv3:=k3.at_ gv2
  have hln2:=AHeap.get_lt gl2
  have xk3:=xk.keeps k3
  simp(disch:=first|assumption|omega)only[W_block,P3,seval,initFr,clsA,gl2,gl3,gv3,lp]
  refine callK (t105 _ hq (by rw[List.length_map,List.length_take];omega)) ?_
  rintro _ X ⟨rfl,hX⟩
  rw[hX,needs_in]
  cases hbq:needB L.p.length y.r.pts with
  |false=>
   simp(disch:=first|assumption|omega)only[W_block,P3,seval,initFr,clsA]
   exact fin (hk2.trans k3) (by rw[e1,hbq];simp)
  |true=>
  simp(disch:=first|assumption|omega)only[W_block,P3,seval,initFr,clsA,gl3,gv3,lp]
  refine callK (t106 xk3.f lF) ?_
  rintro wf K4 ⟨hfl,k4⟩
  have gl4:=k4.at_ gl3
  have hln3:=AHeap.get_lt gl3
  simp(disch:=first|assumption|omega)only[W_block,P3,seval,initFr,clsA,gl3,gl4,lp]
  refine callK (t105 _ hfl (by rw[List.length_map,List.length_take];omega)) ?_
  rintro _ X ⟨rfl,hX⟩
  rw[hX,needs_in]
  have hk4:=(hk2.trans k3).trans k4
  cases hbf:needB L.p.length y.r.fl with
  |false=>
   simp(disch:=first|assumption|omega)only[W_block,P3,seval,initFr,clsA]
   exact fin hk4 (by rw[e1,hbf];simp)
  |true=>
   simp(disch:=first|assumption|omega)only[W_block,P3,seval,initFr,clsA,hw]
   exact hn _ _ _ ⟨i+1,_,_,_,rfl,hk4,(ho2.keeps k3).keeps k4,by omega,go (by rw[e1,hb,hbp,hbo,hbq,hbf];rfl),rfl⟩ (by omega)
 ·have h3:¬(i:Int)<((L.r.length:Nat):Int):=by omega
  simp(disch:=first|assumption|omega)only[W_block,P3,seval,initFr,clsA,gl,lr]
  refine hx 6 _ _ ?_
  rw[List.take_of_length_le (by omega)]at hp
  exact hk _ _ ⟨_,_,_,_,_,_,_,_,_,_,_,_,_,_,_,rfl,hkK,ho,hpre,hp⟩
set_option maxHeartbeats 1000000 in
theorem t63{H:AHeap}{u:V4}{xs:List RV}{L:Ly}(h:LyR H u xs L)(hf:LyFit L):∃w H',ARun Tryz.prog 0 63 [.agg u.l.toArray] H w H'∧w=.bool (mayB L)∧H'=H:=by
 refine gcb ?_
 refine walk2 f63_ok f63_n ?_
 intro Q hq1 hq2
 have os:=Sl.one h.s
 have op:=Sl.one h.p
 have og:=Sl.one h.g
 have or:=Sl.one h.r
 have kv:=vB_k H u
 have hv:=h.keeps kv
 have gv:=vB_g H u
 cases hfu:fullB L with
 |true=>
  have hm:mayB L=false:=by simp[mayB,hfu]
  rw[hm]at hq2
  unfold vB at*
  obtain⟨us,up,ug,ur⟩:=u
  simp only[V4.l]at*
  simp(disch:=first|assumption|omega|(simp only[LN]<;>omega)|(simp(disch:=first|assumption|omega|(simp only[LN]<;>omega))only[row_alloc,row_set];assumption))only[f63,W_block,P3,seval,initFr,clsA,os,op,og,or]
  refine callK (t101 hv) ?_
  rintro _ X ⟨rfl,rfl⟩
  rw[hfu]
  simp(disch:=first|assumption|omega)only[W_block,P3,seval,initFr,clsA]
  exact hq2 _ _ ⟨_,rfl,rfl,kv⟩
 |false=>
  have hle:(namesL L).length≤1000000000:=by
   simp only[fullB,Bool.or_eq_false_iff,decide_eq_false_iff_not]at hfu
   simp only[namesL,List.length_append,List.length_map];omega
  have ret:mayB L=false→∀fr K,RF (.agg u.l.toArray) H fr K→Q .ret fr K:=by
   rintro e fr K ⟨x3,x4,x5,x6,x7,x8,x9,x10,x11,x12,x13,x14,x15,x16,x17,rfl,k⟩
   exact hq2 _ _ ⟨_,rfl,by rw[e];rfl,k⟩
  refine W_part 3 (RM (.agg u.l.toArray) H u L True) (by kernel_rfl) ?_ (fun fr K m=>?_)
  ·intro Q' a _ _
   unfold RM vB at*
   obtain⟨us,up,ug,ur⟩:=u
   simp only[V4.l]at*
   simp(disch:=first|assumption|omega|(simp only[LN]<;>omega)|(simp(disch:=first|assumption|omega|(simp only[LN]<;>omega))only[row_alloc,row_set];assumption))only[f63,cpre,W_block,P3,seval,initFr,clsA,os,op,og,or]
   refine callK (t101 hv) ?_
   rintro _ X ⟨rfl,hX⟩
   rw[hX,hfu]
   simp(disch:=first|assumption|omega|(simp only[LN]<;>omega)|(simp(disch:=first|assumption|omega|(simp only[LN]<;>omega))only[row_alloc,row_set];assumption))only[W_block,P3,seval,initFr,clsA]
   refine callK (t102 hv hf) ?_
   rintro wn K ho
   simp(disch:=first|assumption|omega)only[W_block,P3,seval,initFr,clsA]
   exact a _ _ ⟨_,_,_,_,_,_,_,_,_,_,_,_,_,_,_,rfl,ho.k,ho.base kv,trivial⟩
  refine W_part 1 (RM (.agg u.l.toArray) H u L (okN (namesL L)=true)) (by kernel_rfl) (fun Q' a _ b=>rmay1 hf hle m a (fun e fr K k=>b _ _ (ret e fr K k))) (fun fr K m=>?_)
  refine W_part 1 (RM (.agg u.l.toArray) H u L (C2 L)) (by kernel_rfl) (fun Q' a _ b=>rmay2 h hf m a (fun e fr K k=>b _ _ (ret e fr K k))) (fun fr K m=>?_)
  refine W_part 1 (RM (.agg u.l.toArray) H u L (C3 L)) (by kernel_rfl) (fun Q' a _ b=>rmay3 h hf m a (fun e fr K k=>b _ _ (ret e fr K k))) (fun fr K m=>?_)
  refine W_part 1 (RM (.agg u.l.toArray) H u L (C3 L∧L.r.all (roB L)=true)) (by kernel_rfl) (fun Q' a _ b=>rmay4 h hf m a (fun e fr K k=>b _ _ (ret e fr K k))) (fun fr K m=>?_)
  obtain⟨vn,x4,x5,x6,x7,x8,x9,x10,x11,x12,x13,x14,x15,x16,x17,rfl,hkK,ho,⟨⟨c1,c2⟩,c3⟩,c4⟩:=m
  simp(disch:=first|assumption|omega)only[f63,cpost,W_block,P3,seval,initFr,clsA]
  refine hq2 _ _ ⟨_,rfl,?_,kv.trans hkK⟩
  rw[mayB,hfu,c1,c2,c3,c4];rfl
end Go.AM.Fd

namespace Go.AM.Fd
open Nat (reduceAdd reduceEqDiff reduceLT reduceLeDiff reduceMul reduceSub)
open Go.Proofs Go.AM.F
structure LyIn (T:Nat) (L:Ly):Prop where
 s:L.s.length≤T∧∀x∈L.s,x.length≤T
 p:L.p.length≤T∧∀x∈L.p,x.1.length≤T
 g:L.g.length≤T∧∀x∈L.g,x.1.length≤T
 r:L.r.length≤T∧∀x∈L.r,x.n.length≤T∧x.path.length≤T∧x.pts.length≤T∧x.ov.length≤T∧x.fl.length≤T
def WG(A:Value)(H:AHeap)(u:V4)(top:Nat)(fr:List Value)(K:AHeap):Prop:=
 ∃(n:Int) (x5 x6 x7 x8 x9 x10 x11 x12 x13 x14:Value),fr=[A,.int .i64 ((top:Nat):Int),ptr H.n 0,.int .i64 0,.int .i64 n,x5,x6,x7,x8,x9,x10,x11,x12,x13,x14]∧Keeps (vB H u) K
set_option maxHeartbeats 1000000 in
theorem wgt1{H:AHeap}{u:V4}{xs:List RV}{L:Ly}{Q:AQ}{A:Value}{fr:List Value}{K:AHeap}{top:Nat}(ht:top≤1000000)(h:LyR H u xs L)(hf:LyIn 9223372036854775807 L)(hm:WG A H u top fr K)
 (hk:∀fr K,WG A H u top fr K→Q .normal fr K):W Tryz.prog 0 (cpre 1 (cpost 2 f25.body)) Q fr K:=by
 obtain⟨n0,x5,x6,x7,x8,x9,x10,x11,x12,x13,x14,rfl,hkK⟩:=hm
 have lp:=h.s.len
 have ip:=Sl.is h.s
 simp(disch:=first|assumption|omega)only[f25,cpre,cpost,P3,seval,initFr,clsA]
 rw[W_block]
 refine W_loop2 (fun k fr K=>∃i n xc,fr=[A,.int .i64 ((top:Nat):Int),ptr H.n 0,.int .i64 0,.int .i64 n,.int .i64 ((i:Nat):Int),x6,x7,x8,x9,xc,x11,x12,x13,x14]∧Keeps (vB H u) K∧i≤L.s.length∧k=L.s.length-i) L.s.length
  ⟨0,n0,_,rfl,hkK,by omega,rfl⟩ ?_
 clear hkK
 rintro Q' k fr K ⟨i,n,xc,rfl,hkK,hi,rfl⟩ hn hx hret
 have gl:=hkK.at_ (vB_g H u)
 simp only[V4.l]at gl
 by_cases hlt:i<L.s.length
 ·have h3:(i:Int)<((L.s.length:Nat):Int):=by omega
  by_cases htn:n≤((top:Nat):Int)
  ·obtain⟨na,ra⟩:=(h.s.keeps ((vB_k H u).trans hkK)).at_ hlt
   have h1:(0:Int)≤(i:Int):=by omega
   have h2:(i:Int)<((lenS u.s:Nat):Int):=by omega
   have h4:=htn
   have hlf:=hf.s.1
   have hw:IntKind.i64.wrap ((i:Int)+1)=((i+1:Nat):Int):=by rw[wrap_i64 (by omega) (by omega)];simp
   unfold tRow at ra
   simp(disch:=first|assumption|omega)only[W_block,P3,seval,initFr,clsA,gl,lp,ra,na,a_load1v,a_lens,hw]
   refine hn _ _ _ ⟨i+1,_,_,rfl,hkK,by omega,rfl⟩ (by omega)
  ·have h4:=htn
   simp(disch:=first|assumption|omega)only[W_block,P3,seval,initFr,clsA,gl,lp]
   refine hx 0 _ _ ?_
   exact hk _ _ ⟨n,_,_,_,_,_,_,_,_,_,_,rfl,hkK⟩
 ·have h3:¬(i:Int)<((L.s.length:Nat):Int):=by omega
  simp(disch:=first|assumption|omega)only[W_block,P3,seval,initFr,clsA,gl,lp]
  refine hx 0 _ _ ?_
  exact hk _ _ ⟨n,_,_,_,_,_,_,_,_,_,_,rfl,hkK⟩
set_option maxHeartbeats 1000000 in
theorem wgt2{H:AHeap}{u:V4}{xs:List RV}{L:Ly}{Q:AQ}{A:Value}{fr:List Value}{K:AHeap}{top:Nat}(ht:top≤1000000)(h:LyR H u xs L)(hf:LyIn 9223372036854775807 L)(hm:WG A H u top fr K)
 (hk:∀fr K,WG A H u top fr K→Q .normal fr K):W Tryz.prog 0 (cpre 1 (cpost 3 f25.body)) Q fr K:=by
 obtain⟨n0,x5,x6,x7,x8,x9,x10,x11,x12,x13,x14,rfl,hkK⟩:=hm
 have lp:=h.p.len
 have ip:=Sl.is h.p
 simp(disch:=first|assumption|omega)only[f25,cpre,cpost,P3,seval,initFr,clsA]
 rw[W_block]
 refine W_loop2 (fun k fr K=>∃i n xc,fr=[A,.int .i64 ((top:Nat):Int),ptr H.n 0,.int .i64 0,.int .i64 n,x5,.int .i64 ((i:Nat):Int),x7,x8,x9,x10,xc,x12,x13,x14]∧Keeps (vB H u) K∧i≤L.p.length∧k=L.p.length-i) L.p.length
  ⟨0,n0,_,rfl,hkK,by omega,rfl⟩ ?_
 clear hkK
 rintro Q' k fr K ⟨i,n,xc,rfl,hkK,hi,rfl⟩ hn hx hret
 have gl:=hkK.at_ (vB_g H u)
 simp only[V4.l]at gl
 by_cases hlt:i<L.p.length
 ·have h3:(i:Int)<((L.p.length:Nat):Int):=by omega
  by_cases htn:n≤((top:Nat):Int)
  ·obtain⟨na,ra⟩:=(h.p.keeps ((vB_k H u).trans hkK)).at_ hlt
   have h1:(0:Int)≤(i:Int):=by omega
   have h2:(i:Int)<((lenS u.p:Nat):Int):=by omega
   have h4:=htn
   have hlf:=hf.p.1
   have hw:IntKind.i64.wrap ((i:Int)+1)=((i+1:Nat):Int):=by rw[wrap_i64 (by omega) (by omega)];simp
   simp(disch:=first|assumption|omega)only[W_block,P3,seval,initFr,clsA,gl,lp,ra,na,a_load1v,a_lens,hw]
   refine hn _ _ _ ⟨i+1,_,_,rfl,hkK,by omega,rfl⟩ (by omega)
  ·have h4:=htn
   simp(disch:=first|assumption|omega)only[W_block,P3,seval,initFr,clsA,gl,lp]
   refine hx 2 _ _ ?_
   exact hk _ _ ⟨n,_,_,_,_,_,_,_,_,_,_,rfl,hkK⟩
 ·have h3:¬(i:Int)<((L.p.length:Nat):Int):=by omega
  simp(disch:=first|assumption|omega)only[W_block,P3,seval,initFr,clsA,gl,lp]
  refine hx 2 _ _ ?_
  exact hk _ _ ⟨n,_,_,_,_,_,_,_,_,_,_,rfl,hkK⟩
set_option maxHeartbeats 1000000 in
theorem wgt3{H:AHeap}{u:V4}{xs:List RV}{L:Ly}{Q:AQ}{A:Value}{fr:List Value}{K:AHeap}{top:Nat}(ht:top≤1000000)(h:LyR H u xs L)(hf:LyIn 9223372036854775807 L)(hm:WG A H u top fr K)
 (hk:∀fr K,WG A H u top fr K→Q .normal fr K):W Tryz.prog 0 (cpre 1 (cpost 4 f25.body)) Q fr K:=by
 obtain⟨n0,x5,x6,x7,x8,x9,x10,x11,x12,x13,x14,rfl,hkK⟩:=hm
 have lp:=h.g.len
 have ip:=Sl.is h.g
 simp(disch:=first|assumption|omega)only[f25,cpre,cpost,P3,seval,initFr,clsA]
 rw[W_block]
 refine W_loop2 (fun k fr K=>∃i n xc,fr=[A,.int .i64 ((top:Nat):Int),ptr H.n 0,.int .i64 0,.int .i64 n,x5,x6,.int .i64 ((i:Nat):Int),x8,x9,x10,x11,xc,x13,x14]∧Keeps (vB H u) K∧i≤L.g.length∧k=L.g.length-i) L.g.length
  ⟨0,n0,_,rfl,hkK,by omega,rfl⟩ ?_
 clear hkK
 rintro Q' k fr K ⟨i,n,xc,rfl,hkK,hi,rfl⟩ hn hx hret
 have gl:=hkK.at_ (vB_g H u)
 simp only[V4.l]at gl
 by_cases hlt:i<L.g.length
 ·have h3:(i:Int)<((L.g.length:Nat):Int):=by omega
  by_cases htn:n≤((top:Nat):Int)
  ·obtain⟨na,ra⟩:=(h.g.keeps ((vB_k H u).trans hkK)).at_ hlt
   have h1:(0:Int)≤(i:Int):=by omega
   have h2:(i:Int)<((lenS u.g:Nat):Int):=by omega
   have h4:=htn
   have hlf:=hf.g.1
   have hw:IntKind.i64.wrap ((i:Int)+1)=((i+1:Nat):Int):=by rw[wrap_i64 (by omega) (by omega)];simp
   simp(disch:=first|assumption|omega)only[W_block,P3,seval,initFr,clsA,gl,lp,ra,na,a_load1v,a_lens,hw]
   refine hn _ _ _ ⟨i+1,_,_,rfl,hkK,by omega,rfl⟩ (by omega)
  ·have h4:=htn
   simp(disch:=first|assumption|omega)only[W_block,P3,seval,initFr,clsA,gl,lp]
   refine hx 4 _ _ ?_
   exact hk _ _ ⟨n,_,_,_,_,_,_,_,_,_,_,rfl,hkK⟩
 ·have h3:¬(i:Int)<((L.g.length:Nat):Int):=by omega
  simp(disch:=first|assumption|omega)only[W_block,P3,seval,initFr,clsA,gl,lp]
  refine hx 4 _ _ ?_
  exact hk _ _ ⟨n,_,_,_,_,_,_,_,_,_,_,rfl,hkK⟩
set_option maxHeartbeats 2000000 in
theorem wgt4{H:AHeap}{u:V4}{xs:List RV}{L:Ly}{Q:AQ}{A:Value}{fr:List Value}{K:AHeap}{top:Nat}(ht:top≤1000000)(h:LyR H u xs L)(hf:LyIn 9223372036854775807 L)(hm:WG A H u top fr K)
 (hk:∀fr K,WG A H u top fr K→Q .normal fr K):W Tryz.prog 0 (cpre 1 (cpost 5 f25.body)) Q fr K:=by
 obtain⟨n0,x5,x6,x7,x8,x9,x10,x11,x12,x13,x14,rfl,hkK⟩:=hm
 have lp:=h.r.len
 rw[h.rlen]at lp
 have ip:=Sl.is h.r
 simp(disch:=first|assumption|omega)only[f25,cpre,cpost,P3,seval,initFr,clsA]
 rw[W_block]
 refine W_loop2 (fun k fr K=>∃i n x9 xc xd,fr=[A,.int .i64 ((top:Nat):Int),ptr H.n 0,.int .i64 0,.int .i64 n,x5,x6,x7,.int .i64 ((i:Nat):Int),x9,x10,x11,x12,xc,xd]∧Keeps (vB H u) K∧i≤L.r.length∧k=L.r.length-i) L.r.length
  ⟨0,n0,_,_,_,rfl,hkK,by omega,rfl⟩ ?_
 clear hkK
 rintro Q' k fr K ⟨i,n,x9,xc,xd,rfl,hkK,hi,rfl⟩ hn hx hret
 have gl:=hkK.at_ (vB_g H u)
 simp only[V4.l]at gl
 by_cases hlt:i<L.r.length
 ·have h3:(i:Int)<((L.r.length:Nat):Int):=by omega
  by_cases htn:n≤((top:Nat):Int)
  ·have hlt':i<xs.length:=by rw[h.rlen];exact hlt
   obtain⟨na,ra⟩:=RL.at_ (h.r.keeps ((vB_k H u).trans hkK)) hlt'
   obtain⟨xok,xr⟩:=h.rat hlt
   have hbl:=Sl.bn_le (h.r.keeps ((vB_k H u).trans hkK)) (by intro e;simp at e;rw[e]at hlt';simp at hlt') (by omega)
   have h1:(0:Int)≤(i:Int):=by omega
   have h2:(i:Int)<((lenS u.r:Nat):Int):=by omega
   have h4:=htn
   have hl:=hf.r.2 _ (getD_mem (d:=rv0.r) hlt)
   have hlf:=hf.r.1
   have hw:IntKind.i64.wrap ((i:Int)+1)=((i+1:Nat):Int):=by rw[wrap_i64 (by omega) (by omega)];simp
   generalize xs.getD i rv0=y at*
   simp only[RV.row]at ra
   have iP:=Sl.is xok.p
   have iQ:=Sl.is xok.q
   have iO:=Sl.is xok.o
   have iF:=Sl.is xok.f
   have lP:=xok.p.len
   have lQ:=xok.q.len
   have lO:=xok.o.len
   have lF:=xok.f.len
   have o3:=one_isS iP
   have o4:=one_isS iQ
   have o5:=one_isS iO
   have o6:=one_isS iF
   obtain⟨m,hm⟩:∃m:Int,m=IntKind.i64.wrap (IntKind.i64.wrap (IntKind.i64.wrap (IntKind.i64.wrap (n+1)+((y.r.n.length:Nat):Int))+((y.r.path.length:Nat):Int))+((y.r.pts.length:Nat):Int)):=⟨_,rfl⟩
   have k1:=hkK.trans ((Keeps.refl K).alloc (.cells true false 6 [.string ⟨y.r.n.toArray⟩,.int .i64 y.r.g,y.vp,y.vq,y.vo,y.vf] 49))
   by_cases hmt:m≤((top:Nat):Int)
   ·have h5:=hmt
    simp(disch:=first|assumption|omega|(simp only[LN]<;>omega)|(simp(disch:=first|assumption|omega|(simp only[LN]<;>omega))only[row_alloc,row_set];assumption))only[W_block,P3,seval,initFr,clsA,gl,lp,ra,na,a_loadnvf,a_lens,lP,lQ,lO,lF,o3,o4,o5,o6,hw,←hm]
    refine hn _ _ _ ⟨i+1,_,_,_,_,rfl,k1,by omega,rfl⟩ (by omega)
   ·have h5:=hmt
    simp(disch:=first|assumption|omega|(simp only[LN]<;>omega)|(simp(disch:=first|assumption|omega|(simp only[LN]<;>omega))only[row_alloc,row_set];assumption))only[W_block,P3,seval,initFr,clsA,gl,lp,ra,na,a_loadnvf,a_lens,lP,lQ,lO,lF,o3,o4,o5,o6,hw,←hm]
    refine hn _ _ _ ⟨i+1,m,_,_,_,rfl,k1,by omega,rfl⟩ (by omega)
  ·have h4:=htn
   simp(disch:=first|assumption|omega)only[W_block,P3,seval,initFr,clsA,gl,lp]
   refine hx 6 _ _ ?_
   exact hk _ _ ⟨n,_,_,_,_,_,_,_,_,_,_,rfl,hkK⟩
 ·have h3:¬(i:Int)<((L.r.length:Nat):Int):=by omega
  simp(disch:=first|assumption|omega)only[W_block,P3,seval,initFr,clsA,gl,lp]
  refine hx 6 _ _ ?_
  exact hk _ _ ⟨n,_,_,_,_,_,_,_,_,_,_,rfl,hkK⟩
theorem t25{H:AHeap}{u:V4}{xs:List RV}{L:Ly}{top:Nat}(ht:top≤1000000)(h:LyR H u xs L)(hf:LyIn 9223372036854775807 L):∃w H',ARun Tryz.prog 0 25 [.agg u.l.toArray,.int .i64 ((top:Nat):Int)] H w H'∧(∃n:Int,w=.int .i64 n)∧H'=H:=by
 suffices h':∃w H',ARun Tryz.prog 0 25 [.agg u.l.toArray,.int .i64 ((top:Nat):Int)] H w H'∧(∃n:Int,w=.int .i64 n)∧Keeps H H' by
  obtain⟨_,_,a,⟨n,rfl⟩,k⟩:=h'
  exact⟨_,_,a.gc0 k (.inr (.int _ _)),⟨n,rfl⟩,rfl⟩
 refine walk2 f25_ok f25_n ?_
 intro Q hq1 hq2
 refine W_part 2 (WG (.agg u.l.toArray) H u top) (by kernel_rfl) ?_ (fun fr K m=>?_)
 ·intro Q' a _ _
  have os:=Sl.one h.s
  have op:=Sl.one h.p
  have og:=Sl.one h.g
  have or:=Sl.one h.r
  unfold WG vB at*
  obtain⟨us,up,ug,ur⟩:=u
  simp only[V4.l]at*
  simp(disch:=first|assumption|omega)only[f25,cpre,W_block,P3,seval,initFr,clsA,os,op,og,or]
  exact a _ _ ⟨0,_,_,_,_,_,_,_,_,_,_,rfl,Keeps.refl _⟩
 refine W_part 1 (WG (.agg u.l.toArray) H u top) (by kernel_rfl) (fun Q' a _ _=>wgt1 ht h hf m a) (fun fr K m=>?_)
 refine W_part 1 (WG (.agg u.l.toArray) H u top) (by kernel_rfl) (fun Q' a _ _=>wgt2 ht h hf m a) (fun fr K m=>?_)
 refine W_part 1 (WG (.agg u.l.toArray) H u top) (by kernel_rfl) (fun Q' a _ _=>wgt3 ht h hf m a) (fun fr K m=>?_)
 refine W_part 1 (WG (.agg u.l.toArray) H u top) (by kernel_rfl) (fun Q' a _ _=>wgt4 ht h hf m a) (fun fr K m=>?_)
 obtain⟨n,x5,x6,x7,x8,x9,x10,x11,x12,x13,x14,rfl,hkK⟩:=m
 simp(disch:=first|assumption|omega)only[f25,cpost,W_block,P3,seval,initFr,clsA]
 exact hq2 _ _ ⟨_,rfl,⟨n,rfl⟩,(vB_k H u).trans hkK⟩
end Go.AM.Fd

set_option maxRecDepth 100000
set_option maxHeartbeats 0
namespace Go.AM.F
def zclE:TypeId→List Value
 |52=>[(.string ByteArray.empty),(.int .i64 0)]
 |4=>[(.bool false)]
 |33=>[(.int .u64 0)]
 |49=>[(.string ByteArray.empty),(.int .i64 0),(.slice none 0 0),(.slice none 0 0),(.slice none 0 0),(.slice none 0 0)]
 |3=>[(.int .i64 0)]
 |55=>[(.int .i64 0),(.bool false)]
 |179=>[(.map none)]
 |_=>[]
def zvlE:TypeId→Value
 |_=>undef
def zklE:TypeId→List Nat
 |_=>[]
def zrlE:Nat→TypeId→List Value
 |2,46=>[(.slice none 0 0),(.slice none 0 0)]
 |2,47=>[(.slice none 0 0),(.slice none 0 0)]
 |_,_=>[]
noncomputable def f46:AFunc:=by
 refine(fun(_:Cz zclE zvlE zklE zrlE Go.Proofs.Tryz.prog 0 [0,1,2,3,4,7,13] 46 ?a)=>?a) ?h
 case h=>
 intro zc zv zk zr hc hv hk hr
 conv=>lhs;cbv;try simp only[hc,hv,hk,hr,zclE,zvlE,zklE,zrlE]
theorem f46_ok:compF Go.Proofs.Tryz.prog 0 [0,1,2,3,4,7,13] 46=some f46:=by kernel_rfl
theorem f46_n:argsOK Go.Proofs.Tryz.prog 46 1=true:=by kernel_rfl
noncomputable def f30:AFunc:=by
 refine(fun(_:Cz zclE zvlE zklE zrlE Go.Proofs.Tryz.prog 0 [0,1,2] 30 ?a)=>?a) ?h
 case h=>
 intro zc zv zk zr hc hv hk hr
 conv=>lhs;cbv;try simp only[hc,hv,hk,hr,zclE,zvlE,zklE,zrlE]
theorem f30_ok:compF Go.Proofs.Tryz.prog 0 [0,1,2] 30=some f30:=by kernel_rfl
theorem f30_n:argsOK Go.Proofs.Tryz.prog 30 1=true:=by kernel_rfl
noncomputable def f32:AFunc:=by
 refine(fun(_:Cz zclE zvlE zklE zrlE Go.Proofs.Tryz.prog 0 [0,1,2] 32 ?a)=>?a) ?h
 case h=>
 intro zc zv zk zr hc hv hk hr
 conv=>lhs;cbv;try simp only[hc,hv,hk,hr,zclE,zvlE,zklE,zrlE]
theorem f32_ok:compF Go.Proofs.Tryz.prog 0 [0,1,2] 32=some f32:=by kernel_rfl
theorem f32_n:argsOK Go.Proofs.Tryz.prog 32 1=true:=by kernel_rfl
noncomputable def f55:AFunc:=by
 refine(fun(_:Cz zclE zvlE zklE zrlE Go.Proofs.Tryz.prog 0 [0,1,4] 55 ?a)=>?a) ?h
 case h=>
 intro zc zv zk zr hc hv hk hr
 conv=>lhs;cbv;try simp only[hc,hv,hk,hr,zclE,zvlE,zklE,zrlE]
theorem f55_ok:compF Go.Proofs.Tryz.prog 0 [0,1,4] 55=some f55:=by kernel_rfl
theorem f55_n:argsOK Go.Proofs.Tryz.prog 55 2=true:=by kernel_rfl
noncomputable def f57:AFunc:=by
 refine(fun(_:Cz zclE zvlE zklE zrlE Go.Proofs.Tryz.prog 0 [0,1,4] 57 ?a)=>?a) ?h
 case h=>
 intro zc zv zk zr hc hv hk hr
 conv=>lhs;cbv;try simp only[hc,hv,hk,hr,zclE,zvlE,zklE,zrlE]
theorem f57_ok:compF Go.Proofs.Tryz.prog 0 [0,1,4] 57=some f57:=by kernel_rfl
theorem f57_n:argsOK Go.Proofs.Tryz.prog 57 2=true:=by kernel_rfl
noncomputable def f81:AFunc:=by
 refine(fun(_:Cz zclE zvlE zklE zrlE Go.Proofs.Tryz.prog 0 [0,1,4,5,7,8,9,16] 81 ?a)=>?a) ?h
 case h=>
 intro zc zv zk zr hc hv hk hr
 conv=>lhs;cbv;try simp only[hc,hv,hk,hr,zclE,zvlE,zklE,zrlE]
theorem f81_ok:compF Go.Proofs.Tryz.prog 0 [0,1,4,5,7,8,9,16] 81=some f81:=by kernel_rfl
theorem f81_n:argsOK Go.Proofs.Tryz.prog 81 2=true:=by kernel_rfl
noncomputable def f82:AFunc:=by
 refine(fun(_:Cz zclE zvlE zklE zrlE Go.Proofs.Tryz.prog 0 [0,1,2,3] 82 ?a)=>?a) ?h
 case h=>
 intro zc zv zk zr hc hv hk hr
 conv=>lhs;cbv;try simp only[hc,hv,hk,hr,zclE,zvlE,zklE,zrlE]
theorem f82_ok:compF Go.Proofs.Tryz.prog 0 [0,1,2,3] 82=some f82:=by kernel_rfl
theorem f82_n:argsOK Go.Proofs.Tryz.prog 82 2=true:=by kernel_rfl
noncomputable def f83:AFunc:=by
 refine(fun(_:Cz zclE zvlE zklE zrlE Go.Proofs.Tryz.prog 0 [0,1,2,3,4,5,6,7,8,11,31,32,33,34,56] 83 ?a)=>?a) ?h
 case h=>
 intro zc zv zk zr hc hv hk hr
 conv=>lhs;cbv;try simp only[hc,hv,hk,hr,zclE,zvlE,zklE,zrlE]
theorem f83_ok:compF Go.Proofs.Tryz.prog 0 [0,1,2,3,4,5,6,7,8,11,31,32,33,34,56] 83=some f83:=by kernel_rfl
theorem f83_n:argsOK Go.Proofs.Tryz.prog 83 2=true:=by kernel_rfl
noncomputable def f67:AFunc:=by
 refine(fun(_:Cz zclE zvlE zklE zrlE Go.Proofs.Tryz.prog 0 [0,2,3,5,6,8,9,10,11,12,20,25,26,27,28] 67 ?a)=>?a) ?h
 case h=>
 intro zc zv zk zr hc hv hk hr
 conv=>lhs;cbv;try simp only[hc,hv,hk,hr,zclE,zvlE,zklE,zrlE]
theorem f67_ok:compF Go.Proofs.Tryz.prog 0 [0,2,3,5,6,8,9,10,11,12,20,25,26,27,28] 67=some f67:=by kernel_rfl
theorem f67_n:argsOK Go.Proofs.Tryz.prog 67 1=true:=by kernel_rfl
noncomputable def f68:AFunc:=by
 refine(fun(_:Cz zclE zvlE zklE zrlE Go.Proofs.Tryz.prog 0 [0,2,3,5,6,8,9,10,11,12,20,25,26,27,28] 68 ?a)=>?a) ?h
 case h=>
 intro zc zv zk zr hc hv hk hr
 conv=>lhs;cbv;try simp only[hc,hv,hk,hr,zclE,zvlE,zklE,zrlE]
theorem f68_ok:compF Go.Proofs.Tryz.prog 0 [0,2,3,5,6,8,9,10,11,12,20,25,26,27,28] 68=some f68:=by kernel_rfl
theorem f68_n:argsOK Go.Proofs.Tryz.prog 68 1=true:=by kernel_rfl
noncomputable def f65:AFunc:=by
 refine(fun(_:Cz zclE zvlE zklE zrlE Go.Proofs.Tryz.prog 0 [0,1,2,3,4,5,6,7,11,12,13] 65 ?a)=>?a) ?h
 case h=>
 intro zc zv zk zr hc hv hk hr
 have e0A:=(rfl:rfA Go.Proofs.Tryz.prog 65 0=rfA Go.Proofs.Tryz.prog 65 0);conv at e0A=>rhs;cbv
 have e0B:=(rfl:rfB Go.Proofs.Tryz.prog 65 0=rfB Go.Proofs.Tryz.prog 65 0);conv at e0B=>rhs;cbv
 conv=>lhs;cbv;try simp only[hc,hv,hk,hr,zclE,zvlE,zklE,zrlE];simp only[←e0A,←e0B]
theorem f65_ok:compF Go.Proofs.Tryz.prog 0 [0,1,2,3,4,5,6,7,11,12,13] 65=some f65:=by kernel_rfl
theorem f65_n:argsOK Go.Proofs.Tryz.prog 65 3=true:=by kernel_rfl
noncomputable def f65r0a:ACode:=by
 refine(fun(_:CzC zclE zvlE zklE zrlE Go.Proofs.Tryz.prog 0 14 [0,1,2,3,4,5,6,7,11,12,13] (rfA Go.Proofs.Tryz.prog 65 0) ?a)=>?a) ?h
 case h=>intro zc zv zk zr hc hv hk hr;conv=>lhs;cbv;try simp only[hc,hv,hk,hr,zclE,zvlE,zklE,zrlE]
theorem f65r0a_ok:compC Go.Proofs.Tryz.prog 0 14 [0,1,2,3,4,5,6,7,11,12,13] (rfA Go.Proofs.Tryz.prog 65 0)=some f65r0a:=by kernel_rfl
noncomputable def f65r0b:ACode:=by
 refine(fun(_:CzC zclE zvlE zklE zrlE Go.Proofs.Tryz.prog 0 14 [0,1,2,3,4,5,6,7,11,12,13] (rfB Go.Proofs.Tryz.prog 65 0) ?a)=>?a) ?h
 case h=>intro zc zv zk zr hc hv hk hr;conv=>lhs;cbv;try simp only[hc,hv,hk,hr,zclE,zvlE,zklE,zrlE]
theorem f65r0b_ok:compC Go.Proofs.Tryz.prog 0 14 [0,1,2,3,4,5,6,7,11,12,13] (rfB Go.Proofs.Tryz.prog 65 0)=some f65r0b:=by kernel_rfl
theorem f65r0_n:(noRF (rfA Go.Proofs.Tryz.prog 65 0)&&noRF (rfB Go.Proofs.Tryz.prog 65 0))=true:=by kernel_rfl
noncomputable def f95:AFunc:=by
 refine(fun(_:Cz zclE zvlE zklE zrlE Go.Proofs.Tryz.prog 0 [0,1,4,5,7,8,9,16] 95 ?a)=>?a) ?h
 case h=>
 intro zc zv zk zr hc hv hk hr
 conv=>lhs;cbv;try simp only[hc,hv,hk,hr,zclE,zvlE,zklE,zrlE]
theorem f95_ok:compF Go.Proofs.Tryz.prog 0 [0,1,4,5,7,8,9,16] 95=some f95:=by kernel_rfl
theorem f95_n:argsOK Go.Proofs.Tryz.prog 95 2=true:=by kernel_rfl
noncomputable def f96:AFunc:=by
 refine(fun(_:Cz zclE zvlE zklE zrlE Go.Proofs.Tryz.prog 0 [0,1,4,5,7,8,9,16] 96 ?a)=>?a) ?h
 case h=>
 intro zc zv zk zr hc hv hk hr
 conv=>lhs;cbv;try simp only[hc,hv,hk,hr,zclE,zvlE,zklE,zrlE]
theorem f96_ok:compF Go.Proofs.Tryz.prog 0 [0,1,4,5,7,8,9,16] 96=some f96:=by kernel_rfl
theorem f96_n:argsOK Go.Proofs.Tryz.prog 96 2=true:=by kernel_rfl
noncomputable def f27:AFunc:=by
 refine(fun(_:Cz zclE zvlE zklE zrlE Go.Proofs.Tryz.prog 0 [0,1,2,3,4,6,7,8,9,16,23,24,25,26,30,31,32,41] 27 ?a)=>?a) ?h
 case h=>
 intro zc zv zk zr hc hv hk hr
 conv=>lhs;cbv;try simp only[hc,hv,hk,hr,zclE,zvlE,zklE,zrlE]
theorem f27_ok:compF Go.Proofs.Tryz.prog 0 [0,1,2,3,4,6,7,8,9,16,23,24,25,26,30,31,32,41] 27=some f27:=by kernel_rfl
theorem f27_n:argsOK Go.Proofs.Tryz.prog 27 1=true:=by kernel_rfl
noncomputable def f119:AFunc:=by
 refine(fun(_:Cz zclE zvlE zklE zrlE Go.Proofs.Tryz.prog 0 [0,1,3,4,5,6,7,8,9,10,18] 119 ?a)=>?a) ?h
 case h=>
 intro zc zv zk zr hc hv hk hr
 conv=>lhs;cbv;try simp only[hc,hv,hk,hr,zclE,zvlE,zklE,zrlE]
theorem f119_ok:compF Go.Proofs.Tryz.prog 0 [0,1,3,4,5,6,7,8,9,10,18] 119=some f119:=by kernel_rfl
theorem f119_n:argsOK Go.Proofs.Tryz.prog 119 2=true:=by kernel_rfl
noncomputable def f120:AFunc:=by
 refine(fun(_:Cz zclE zvlE zklE zrlE Go.Proofs.Tryz.prog 0 [0,2] 120 ?a)=>?a) ?h
 case h=>
 intro zc zv zk zr hc hv hk hr
 conv=>lhs;cbv;try simp only[hc,hv,hk,hr,zclE,zvlE,zklE,zrlE]
theorem f120_ok:compF Go.Proofs.Tryz.prog 0 [0,2] 120=some f120:=by kernel_rfl
theorem f120_n:argsOK Go.Proofs.Tryz.prog 120 1=true:=by kernel_rfl
noncomputable def f121:AFunc:=by
 refine(fun(_:Cz zclE zvlE zklE zrlE Go.Proofs.Tryz.prog 0 [0,1,4] 121 ?a)=>?a) ?h
 case h=>
 intro zc zv zk zr hc hv hk hr
 conv=>lhs;cbv;try simp only[hc,hv,hk,hr,zclE,zvlE,zklE,zrlE]
theorem f121_ok:compF Go.Proofs.Tryz.prog 0 [0,1,4] 121=some f121:=by kernel_rfl
theorem f121_n:argsOK Go.Proofs.Tryz.prog 121 2=true:=by kernel_rfl
noncomputable def f122:AFunc:=by
 refine(fun(_:Cz zclE zvlE zklE zrlE Go.Proofs.Tryz.prog 0 [0,1,3,4,5,6,7,8,9,10,18] 122 ?a)=>?a) ?h
 case h=>
 intro zc zv zk zr hc hv hk hr
 conv=>lhs;cbv;try simp only[hc,hv,hk,hr,zclE,zvlE,zklE,zrlE]
theorem f122_ok:compF Go.Proofs.Tryz.prog 0 [0,1,3,4,5,6,7,8,9,10,18] 122=some f122:=by kernel_rfl
theorem f122_n:argsOK Go.Proofs.Tryz.prog 122 2=true:=by kernel_rfl
noncomputable def f123:AFunc:=by
 refine(fun(_:Cz zclE zvlE zklE zrlE Go.Proofs.Tryz.prog 0 [0,1,2] 123 ?a)=>?a) ?h
 case h=>
 intro zc zv zk zr hc hv hk hr
 conv=>lhs;cbv;try simp only[hc,hv,hk,hr,zclE,zvlE,zklE,zrlE]
theorem f123_ok:compF Go.Proofs.Tryz.prog 0 [0,1,2] 123=some f123:=by kernel_rfl
theorem f123_n:argsOK Go.Proofs.Tryz.prog 123 1=true:=by kernel_rfl
noncomputable def f124:AFunc:=by
 refine(fun(_:Cz zclE zvlE zklE zrlE Go.Proofs.Tryz.prog 0 [0,1,3,4] 124 ?a)=>?a) ?h
 case h=>
 intro zc zv zk zr hc hv hk hr
 conv=>lhs;cbv;try simp only[hc,hv,hk,hr,zclE,zvlE,zklE,zrlE]
theorem f124_ok:compF Go.Proofs.Tryz.prog 0 [0,1,3,4] 124=some f124:=by kernel_rfl
theorem f124_n:argsOK Go.Proofs.Tryz.prog 124 2=true:=by kernel_rfl
noncomputable def f110:AFunc:=by
 refine(fun(_:Cz zclE zvlE zklE zrlE Go.Proofs.Tryz.prog 0 [0,1,4,6,16] 110 ?a)=>?a) ?h
 case h=>
 intro zc zv zk zr hc hv hk hr
 conv=>lhs;cbv;try simp only[hc,hv,hk,hr,zclE,zvlE,zklE,zrlE]
theorem f110_ok:compF Go.Proofs.Tryz.prog 0 [0,1,4,6,16] 110=some f110:=by kernel_rfl
theorem f110_n:argsOK Go.Proofs.Tryz.prog 110 2=true:=by kernel_rfl
noncomputable def f111:AFunc:=by
 refine(fun(_:Cz zclE zvlE zklE zrlE Go.Proofs.Tryz.prog 0 [0,1,4,6,16] 111 ?a)=>?a) ?h
 case h=>
 intro zc zv zk zr hc hv hk hr
 conv=>lhs;cbv;try simp only[hc,hv,hk,hr,zclE,zvlE,zklE,zrlE]
theorem f111_ok:compF Go.Proofs.Tryz.prog 0 [0,1,4,6,16] 111=some f111:=by kernel_rfl
theorem f111_n:argsOK Go.Proofs.Tryz.prog 111 2=true:=by kernel_rfl
noncomputable def f109:AFunc:=by
 refine(fun(_:Cz zclE zvlE zklE zrlE Go.Proofs.Tryz.prog 0 [0,1,2,3,4,5,6] 109 ?a)=>?a) ?h
 case h=>
 intro zc zv zk zr hc hv hk hr
 conv=>lhs;cbv;try simp only[hc,hv,hk,hr,zclE,zvlE,zklE,zrlE]
theorem f109_ok:compF Go.Proofs.Tryz.prog 0 [0,1,2,3,4,5,6] 109=some f109:=by kernel_rfl
theorem f109_n:argsOK Go.Proofs.Tryz.prog 109 3=true:=by kernel_rfl
noncomputable def f131:AFunc:=by
 refine(fun(_:Cz zclE zvlE zklE zrlE Go.Proofs.Tryz.prog 0 [0,1,2,4] 131 ?a)=>?a) ?h
 case h=>
 intro zc zv zk zr hc hv hk hr
 conv=>lhs;cbv;try simp only[hc,hv,hk,hr,zclE,zvlE,zklE,zrlE]
theorem f131_ok:compF Go.Proofs.Tryz.prog 0 [0,1,2,4] 131=some f131:=by kernel_rfl
theorem f131_n:argsOK Go.Proofs.Tryz.prog 131 3=true:=by kernel_rfl
noncomputable def f132:AFunc:=by
 refine(fun(_:Cz zclE zvlE zklE zrlE Go.Proofs.Tryz.prog 0 [0,1,4,5,7,8,9,16] 132 ?a)=>?a) ?h
 case h=>
 intro zc zv zk zr hc hv hk hr
 conv=>lhs;cbv;try simp only[hc,hv,hk,hr,zclE,zvlE,zklE,zrlE]
theorem f132_ok:compF Go.Proofs.Tryz.prog 0 [0,1,4,5,7,8,9,16] 132=some f132:=by kernel_rfl
theorem f132_n:argsOK Go.Proofs.Tryz.prog 132 2=true:=by kernel_rfl
noncomputable def f133:AFunc:=by
 refine(fun(_:Cz zclE zvlE zklE zrlE Go.Proofs.Tryz.prog 0 [0,1,2,3,4] 133 ?a)=>?a) ?h
 case h=>
 intro zc zv zk zr hc hv hk hr
 conv=>lhs;cbv;try simp only[hc,hv,hk,hr,zclE,zvlE,zklE,zrlE]
theorem f133_ok:compF Go.Proofs.Tryz.prog 0 [0,1,2,3,4] 133=some f133:=by kernel_rfl
theorem f133_n:argsOK Go.Proofs.Tryz.prog 133 3=true:=by kernel_rfl
noncomputable def f134:AFunc:=by
 refine(fun(_:Cz zclE zvlE zklE zrlE Go.Proofs.Tryz.prog 0 [0,1,2,3] 134 ?a)=>?a) ?h
 case h=>
 intro zc zv zk zr hc hv hk hr
 conv=>lhs;cbv;try simp only[hc,hv,hk,hr,zclE,zvlE,zklE,zrlE]
theorem f134_ok:compF Go.Proofs.Tryz.prog 0 [0,1,2,3] 134=some f134:=by kernel_rfl
theorem f134_n:argsOK Go.Proofs.Tryz.prog 134 2=true:=by kernel_rfl
noncomputable def f128:AFunc:=by
 refine(fun(_:Cz zclE zvlE zklE zrlE Go.Proofs.Tryz.prog 0 [0,1,2,3,5,6,8,9,10,11,12,13,14,15,16,17,18,26,31,32,33,34,42,49,50,51,52,105] 128 ?a)=>?a) ?h
 case h=>
 intro zc zv zk zr hc hv hk hr
 conv=>lhs;cbv;try simp only[hc,hv,hk,hr,zclE,zvlE,zklE,zrlE]
theorem f128_ok:compF Go.Proofs.Tryz.prog 0 [0,1,2,3,5,6,8,9,10,11,12,13,14,15,16,17,18,26,31,32,33,34,42,49,50,51,52,105] 128=some f128:=by kernel_rfl
theorem f128_n:argsOK Go.Proofs.Tryz.prog 128 4=true:=by kernel_rfl
noncomputable def f129:AFunc:=by
 refine(fun(_:Cz zclE zvlE zklE zrlE Go.Proofs.Tryz.prog 0 [0,1,2,3,5,9,10,11] 129 ?a)=>?a) ?h
 case h=>
 intro zc zv zk zr hc hv hk hr
 have e0A:=(rfl:rfA Go.Proofs.Tryz.prog 129 0=rfA Go.Proofs.Tryz.prog 129 0);conv at e0A=>rhs;cbv
 have e0B:=(rfl:rfB Go.Proofs.Tryz.prog 129 0=rfB Go.Proofs.Tryz.prog 129 0);conv at e0B=>rhs;cbv
 conv=>lhs;cbv;try simp only[hc,hv,hk,hr,zclE,zvlE,zklE,zrlE];simp only[←e0A,←e0B]
theorem f129_ok:compF Go.Proofs.Tryz.prog 0 [0,1,2,3,5,9,10,11] 129=some f129:=by kernel_rfl
theorem f129_n:argsOK Go.Proofs.Tryz.prog 129 1=true:=by kernel_rfl
noncomputable def f129r0a:ACode:=by
 refine(fun(_:CzC zclE zvlE zklE zrlE Go.Proofs.Tryz.prog 0 18 [0,1,2,3,5,9,10,11] (rfA Go.Proofs.Tryz.prog 129 0) ?a)=>?a) ?h
 case h=>intro zc zv zk zr hc hv hk hr;conv=>lhs;cbv;try simp only[hc,hv,hk,hr,zclE,zvlE,zklE,zrlE]
theorem f129r0a_ok:compC Go.Proofs.Tryz.prog 0 18 [0,1,2,3,5,9,10,11] (rfA Go.Proofs.Tryz.prog 129 0)=some f129r0a:=by kernel_rfl
noncomputable def f129r0b:ACode:=by
 refine(fun(_:CzC zclE zvlE zklE zrlE Go.Proofs.Tryz.prog 0 18 [0,1,2,3,5,9,10,11] (rfB Go.Proofs.Tryz.prog 129 0) ?a)=>?a) ?h
 case h=>intro zc zv zk zr hc hv hk hr;conv=>lhs;cbv;try simp only[hc,hv,hk,hr,zclE,zvlE,zklE,zrlE]
theorem f129r0b_ok:compC Go.Proofs.Tryz.prog 0 18 [0,1,2,3,5,9,10,11] (rfB Go.Proofs.Tryz.prog 129 0)=some f129r0b:=by kernel_rfl
theorem f129r0_n:(noRF (rfA Go.Proofs.Tryz.prog 129 0)&&noRF (rfB Go.Proofs.Tryz.prog 129 0))=true:=by kernel_rfl
noncomputable def f135:AFunc:=by
 refine(fun(_:Cz zclE zvlE zklE zrlE Go.Proofs.Tryz.prog 0 [0,1,2] 135 ?a)=>?a) ?h
 case h=>
 intro zc zv zk zr hc hv hk hr
 conv=>lhs;cbv;try simp only[hc,hv,hk,hr,zclE,zvlE,zklE,zrlE]
theorem f135_ok:compF Go.Proofs.Tryz.prog 0 [0,1,2] 135=some f135:=by kernel_rfl
theorem f135_n:argsOK Go.Proofs.Tryz.prog 135 1=true:=by kernel_rfl
noncomputable def f136:AFunc:=by
 refine(fun(_:Cz zclE zvlE zklE zrlE Go.Proofs.Tryz.prog 0 [0,1,3,8,18] 136 ?a)=>?a) ?h
 case h=>
 intro zc zv zk zr hc hv hk hr
 conv=>lhs;cbv;try simp only[hc,hv,hk,hr,zclE,zvlE,zklE,zrlE]
theorem f136_ok:compF Go.Proofs.Tryz.prog 0 [0,1,3,8,18] 136=some f136:=by kernel_rfl
theorem f136_n:argsOK Go.Proofs.Tryz.prog 136 2=true:=by kernel_rfl
end Go.AM.F

namespace Go.AM.Fd
open Nat (reduceAdd reduceEqDiff reduceLT reduceLeDiff reduceMul reduceSub)
open Go.Proofs Go.AM.F
def WRr(H:AHeap)(e esz:Nat)(v:Value)(rows:List (List Value)):Prop:=WR H e esz v rows.length rows.flatten∧∀r∈rows,r.length=esz
theorem WRr.sl{H:AHeap}{e esz:Nat}{v:Value}{rows:List (List Value)}(h:WRr H e esz v rows):Sl H esz v rows:=h.1.sl h.2 rfl
theorem WRr.keeps{H K:AHeap}{e esz:Nat}{v:Value}{rows:List (List Value)}(h:WRr H e esz v rows)(k:Keeps H K):WRr K e esz v rows:=⟨h.1.keeps k,h.2⟩
theorem WRr.pre{H:AHeap}{e esz:Nat}{v:Value}{rows:List (List Value)}(h:WRr H e esz v rows){kd:IntKind}{i:Nat}(hi:i≤rows.length):∃w,asem (.slsl esz v none (some (.int kd (i:Nat))) none) H=some (w,H)∧Sl H esz w (rows.take i):=by
 have hr:∀r∈rows.take i,r.length=esz:=fun r hm=>h.2 r (List.mem_of_mem_take hm)
 rcases h.1 with⟨rfl,h1,h2⟩|⟨b,k,room,d,rfl,h1,h2,h3,h4⟩
 ·have:rows=[]:=List.eq_nil_of_length_eq_zero h1
  subst this
  have:i=0:=by simpa using hi
  subst this
  exact⟨_,a_slsl_nil ⟨0,0,0,bnd_none 0 0,bnd_some kd 0 0 0 (Nat.le_refl _),bnd_none 0 0⟩,Sl.nil _ _⟩
 ·refine⟨_,a_slsl h4 (bnd_none _ _) (bnd_some kd i rows.length k (by omega)) (bnd_none 0 i),⟨⟨_,_,by rw[List.length_take,Nat.min_eq_left hi,Nat.sub_zero];rfl⟩,hr,?_⟩⟩
  have hle:i*esz≤k*esz:=Nat.mul_le_mul_right _ (by omega)
  have hle2:i*esz≤rows.length*esz:=Nat.mul_le_mul_right _ hi
  simp only[elemsA,slc,h4,Nat.zero_mul,Nat.add_zero,Nat.zero_add,Nat.sub_zero]
  rw[if_pos (by omega),List.drop_zero]
  congr 1
  have e:rows.flatten=(rows.take i).flatten++(rows.drop i).flatten:=by rw[←List.flatten_append,List.take_append_drop]
  have hl:(rows.take i).flatten.length=i*esz:=by rw[flat_len hr,List.length_take,Nat.min_eq_left hi]
  have e2:d.take (i*esz)=(d.take (rows.length*esz)).take (i*esz):=by rw[List.take_take,Nat.min_eq_left hle2]
  rw[e2,h3,e,←hl,List.take_left]
theorem t110(H:AHeap)(n:Nat)(hn:n≤1000000):∃w H',ARun Tryz.prog 0 110 [.slice none 0 0,.int .i64 (n:Nat)] H w H'∧WR H' 3 1 w 0 []∧Keeps H H'∧Fresh H.n w:=by
 refine walk2 f110_ok f110_n ?_
 intro Q hq1 hq2
 have h0:¬((n:Nat):Int)<0:=by omega
 have hw0:IntKind.i64.wrap (0-((0:Nat):Int))=0:=rfl
 have hw:IntKind.i64.wrap ((n:Int)-0)=(n:Nat):=by rw[wrap_i64 (by omega) (by omega)];omega
 have hs:=a_slsl_nil (H:=H) (esz:=1) (lo:=none) (hi:=some (.int .i64 0)) (mx:=none) ⟨0,0,0,bnd_none 0 0,bnd_some .i64 0 0 0 (Nat.le_refl _),bnd_none 0 0⟩
 by_cases hz:n=0
 ·subst hz
  have h1:¬(0:Int)<((0:Nat):Int):=by omega
  simp(disch:=first|assumption|omega|(simp only[LN]<;>omega)|(simp(disch:=first|assumption|omega|(simp only[LN]<;>omega))only[row_alloc,row_set];assumption))only[f110,W_block,P3,↓reduceIte,reduceAdd,reduceEqDiff,reduceCtorEq,initFr,reduceLT,clsA,reduceLeDiff,reduceMul,reduceSub,reduceIte,st_cap,st_appz,hw0,hw,a_cap0,lenS]
  exact hq2 _ _ ⟨.slice none 0 0,rfl,.inl ⟨rfl,rfl,rfl⟩,Keeps.refl _,fun b hb=>by cases hb⟩
 ·have h1:(0:Int)<((n:Nat):Int):=by omega
  have hlen:(List.replicate n [Value.int .i64 0]).flatten.length=n*1:=by simp
  have ha:asem (.appz 3 1 8 [Value.int .i64 0] (.slice none 0 0) (.int .i64 (n:Nat))) H=some (slc H.n 0 n n,H.alloc (.cells true true 1 (List.replicate n [Value.int .i64 0]).flatten 3)):=by
   simp only[asem,Int.toNat_natCast,appA,if_neg hz]
   rw[if_pos (by omega)]
   simp only[and_self,if_true]
   rw[if_pos (by omega)]
  have hs2:=a_slsl (AHeap.get_alloc_new H (.cells true true 1 (List.replicate n [Value.int .i64 0]).flatten 3)) (o:=0) (n:=n) (k:=n) (lo:=none) (hi:=some (.int .i64 (0:Nat))) (mx:=none) (bnd_none _ _) (bnd_some .i64 0 n n (by omega)) (bnd_none 0 0)
  simp only[slc]at ha hs2
  simp(disch:=first|assumption|omega|(simp only[LN]<;>omega)|(simp(disch:=first|assumption|omega|(simp only[LN]<;>omega))only[row_alloc,row_set];assumption))only[f110,W_block,P3,↓reduceIte,reduceAdd,reduceEqDiff,reduceCtorEq,initFr,reduceLT,clsA,reduceLeDiff,reduceMul,reduceSub,reduceIte,st_cap,st_appz,hw0,hw,a_cap0,lenS,hs,ha,hs2]
  exact hq2 _ _ ⟨slc H.n 0 0 n,rfl,.inr ⟨H.n,n,true,_,rfl,Nat.zero_le _,hlen,by simp,AHeap.get_alloc_new H _⟩,(Keeps.refl H).alloc _,fun b hb=>by cases hb;exact Nat.le_refl _⟩
theorem t67{H:AHeap}{V:Value}{vs:List (Value×List (List Value))}(hV:Sl H 1 V (vs.map fun x=>[x.1]))(hx:∀x∈vs,Sl H 1 x.1 x.2)(hl:vs.length≤1000)(hT:(vs.map (·.2.length)).sum≤1000000):
 ∃w H',ARun Tryz.prog 0 67 [V] H w H'∧WRr H' 3 1 w (vs.map (·.2)).flatten∧Keeps H H'∧Fresh H.n w:=by
 refine walk2 f67_ok f67_n ?_
 intro Q hq1 hq2
 have iV:=Sl.is hV
 have lV:lenS V=vs.length:=by have:=Sl.len hV;simpa using this
 have el:∀{i:Nat} (hi:i<vs.length) {K:AHeap},Keeps H K→nnS V=true∧rowA K 1 V i=some [vs[i].1]:=fun{i} hi {K} k=>by
  have:=Sl.at_ (hV.keeps k) (by omega) (i:=i) (by simpa using hi)
  simpa using this
 have tk:∀{i:Nat} (hi:i<vs.length),((vs.take (i+1)).map (·.2.length)).sum=((vs.take i).map (·.2.length)).sum+vs[i].2.length:=fun{i} hi=>by
  rw[List.take_succ_eq_append_getElem hi,List.map_append,List.sum_append];simp
 have tle:∀i,((vs.take i).map (·.2.length)).sum≤1000000:=fun i=>by
  have:vs=vs.take i++vs.drop i:=(List.take_append_drop i vs).symm
  rw[this,List.map_append,List.sum_append]at hT;omega
 simp(disch:=first|assumption|omega)only[f67,P3,seval,initFr,clsA,lV]
 rw[W_block]
 refine W_loop2 (fun k fr K=>∃i x3 x9 x10,fr=[V,.slice none 0 0,.int .i64 (((vs.take i).map (·.2.length)).sum:Nat),x3,undef,undef,V,.int .i64 ((vs.length:Nat):Int),.int .i64 ((i:Nat):Int),x9,x10,undef,undef,undef,undef]∧K=H∧i≤vs.length∧k=vs.length-i) vs.length
  ⟨0,_,_,_,rfl,rfl,by omega,rfl⟩ ?_
 rintro Q' k fr K0 ⟨i,x3,x9,x10,rfl,rfl,hi,rfl⟩ hn hx1 hret
 by_cases hlt:i<vs.length
 ·obtain⟨na,ra⟩:=el hlt (Keeps.refl _)
  have h0:(0:Int)≤(i:Int):=by omega
  have h1:(i:Int)<((vs.length:Nat):Int):=by omega
  have hw:IntKind.i64.wrap ((i:Int)+1)=((i+1:Nat):Int):=by rw[wrap_i64 (by omega) (by omega)];simp
  have lx:lenS vs[i].1 =vs[i].2.length:=Sl.len (hx _ (List.getElem_mem _))
  have ix:=Sl.is (hx _ (List.getElem_mem hlt))
  have hs:IntKind.i64.wrap ((((vs.take i).map (·.2.length)).sum:Nat)+(vs[i].2.length:Nat):Int)=((((vs.take (i+1)).map (·.2.length)).sum:Nat):Int):=by
   have:=tle (i+1);have:=tk hlt
   rw[wrap_i64 (by omega) (by omega)];omega
  have hneg:¬((((vs.take (i+1)).map (·.2.length)).sum:Nat):Int)<0:=by omega
  simp(disch:=first|assumption|omega)only[W_block,P3,seval,initFr,clsA,lV,ra,na,a_load1v,hw,lx,hs]
  exact hn _ _ _ ⟨i+1,_,_,_,rfl,rfl,by omega,rfl⟩ (by omega)
 ·have h1:¬(i:Int)<((vs.length:Nat):Int):=by omega
  have:i=vs.length:=by omega
  subst this
  simp(disch:=first|assumption|omega)only[W_block,P3,seval,initFr,clsA,lV]
  refine hx1 0 _ _ ?_
  simp(disch:=first|assumption|omega)only[P3,seval,initFr,clsA]
  refine callK (t110 _ _ (tle _)) ?_
  rintro w K ⟨wr,kk,fw⟩
  simp(disch:=first|assumption|omega)only[P3,seval,initFr,clsA,lV]
  rw[W_block]
  refine W_loop2 (fun k fr M=>∃i w x3 x5 x9 x10 x14,fr=[V,.slice none 0 0,.int .i64 (((vs.take vs.length).map (·.2.length)).sum:Nat),x3,w,x5,V,.int .i64 ((vs.length:Nat):Int),.int .i64 ((vs.length:Nat):Int),x9,x10,V,.int .i64 ((vs.length:Nat):Int),.int .i64 ((i:Nat):Int),x14]∧
   WR M 3 1 w ((vs.take i).map (·.2.length)).sum ((vs.take i).map (·.2)).flatten.flatten∧Keeps K0 M∧Fresh K0.n w∧i≤vs.length∧k=vs.length-i) vs.length
   ⟨0,w,_,_,_,_,_,rfl,wr,kk,fw,by omega,rfl⟩ ?_
  clear wr kk fw w K
  rintro Q2 k fr M ⟨i,w,x3,x5,x9,x10,x14,rfl,wr,kk,fw,hi,rfl⟩ hn2 hx2 hret2
  by_cases hlt:i<vs.length
  ·obtain⟨na,ra⟩:=el hlt kk
   have h0:(0:Int)≤(i:Int):=by omega
   have h1:(i:Int)<((vs.length:Nat):Int):=by omega
   have hw:IntKind.i64.wrap ((i:Int)+1)=((i+1:Nat):Int):=by rw[wrap_i64 (by omega) (by omega)];simp
   have sx:=(hx _ (List.getElem_mem hlt)).keeps kk
   have iw:=wr.is
   have t1:=tk hlt
   have t2:=tle (i+1)
   simp(disch:=first|assumption|omega)only[W_block,P3,seval,initFr,clsA,lV,ra,na,a_load1v]
   refine wr.appR (bytes:=8) sx.sh sx.el (flat_len sx.row) (by omega) ?_
   intro w' M' wr' c' hb'
   simp(disch:=first|assumption|omega)only[W_block,P3,seval,initFr,clsA,hw]
   refine hn2 _ _ _ ⟨i+1,w',_,_,_,_,_,rfl,?_,kk.chg_trans c' (fun x hx=>fw x (mem_blkL.1 hx)),fun b hb=>?_,by omega,rfl⟩ (by omega)
   ·rw[t1]
    have e:((vs.take (i+1)).map (·.2)).flatten.flatten=((vs.take i).map (·.2)).flatten.flatten++vs[i].2.flatten:=by
     rw[List.take_succ_eq_append_getElem hlt,List.map_append,List.flatten_append,List.flatten_append];simp
    rw[e];exact wr'
   ·rcases hb' with e|e
    ·exact fw b (by rw[←e];exact hb)
    ·rw[e]at hb;cases hb;exact kk.n
  ·have h1:¬(i:Int)<((vs.length:Nat):Int):=by omega
   have:i=vs.length:=by omega
   subst this
   simp(disch:=first|assumption|omega)only[W_block,P3,seval,initFr,clsA,lV]
   refine hx2 2 _ _ ?_
   simp(disch:=first|assumption|omega)only[W_block,P3,seval,initFr,clsA]
   refine hq2 _ _ ⟨_,rfl,?_,kk,fw⟩
   rw[List.take_length]at wr
   refine⟨?_,fun r hr=>?_⟩
   ·have e:(vs.map (·.2)).flatten.length=(vs.map (·.2.length)).sum:=by simp[List.length_flatten,List.map_map,Function.comp_def]
    rw[e];exact wr
   ·obtain⟨l,hl,hm⟩:=List.mem_flatten.1 hr
    obtain⟨x,hxm,rfl⟩:=List.mem_map.1 hl
    exact(hx x hxm).row r hm
theorem t111(H:AHeap)(n:Nat)(hn:n≤1000000):∃w H',ARun Tryz.prog 0 111 [.slice none 0 0,.int .i64 (n:Nat)] H w H'∧WR H' 55 2 w 0 []∧Keeps H H'∧Fresh H.n w:=by
 refine walk2 f111_ok f111_n ?_
 intro Q hq1 hq2
 have h0:¬((n:Nat):Int)<0:=by omega
 have hw0:IntKind.i64.wrap (0-((0:Nat):Int))=0:=rfl
 have hw:IntKind.i64.wrap ((n:Int)-0)=(n:Nat):=by rw[wrap_i64 (by omega) (by omega)];omega
 have hs:=a_slsl_nil (H:=H) (esz:=2) (lo:=none) (hi:=some (.int .i64 0)) (mx:=none) ⟨0,0,0,bnd_none 0 0,bnd_some .i64 0 0 0 (Nat.le_refl _),bnd_none 0 0⟩
 by_cases hz:n=0
 ·subst hz
  have h1:¬(0:Int)<((0:Nat):Int):=by omega
  simp(disch:=first|assumption|omega|(simp only[LN]<;>omega)|(simp(disch:=first|assumption|omega|(simp only[LN]<;>omega))only[row_alloc,row_set];assumption))only[f111,W_block,P3,↓reduceIte,reduceAdd,reduceEqDiff,reduceCtorEq,initFr,reduceLT,clsA,reduceLeDiff,reduceMul,reduceSub,reduceIte,st_cap,st_appz,hw0,hw,a_cap0,lenS]
  exact hq2 _ _ ⟨.slice none 0 0,rfl,.inl ⟨rfl,rfl,rfl⟩,Keeps.refl _,fun b hb=>by cases hb⟩
 ·have h1:(0:Int)<((n:Nat):Int):=by omega
  have hlen:(List.replicate n [Value.int .i64 0,Value.bool false]).flatten.length=n*2:=by simp
  have ha:asem (.appz 55 2 16 [Value.int .i64 0,Value.bool false] (.slice none 0 0) (.int .i64 (n:Nat))) H=some (slc H.n 0 n n,H.alloc (.cells true true 2 (List.replicate n [Value.int .i64 0,Value.bool false]).flatten 55)):=by
   simp only[asem,Int.toNat_natCast,appA,if_neg hz]
   rw[if_pos (by omega)]
   simp only[and_self,if_true]
   rw[if_pos (by omega)]
  have hs2:=a_slsl (AHeap.get_alloc_new H (.cells true true 2 (List.replicate n [Value.int .i64 0,Value.bool false]).flatten 55)) (o:=0) (n:=n) (k:=n) (lo:=none) (hi:=some (.int .i64 (0:Nat))) (mx:=none) (bnd_none _ _) (bnd_some .i64 0 n n (by omega)) (bnd_none 0 0)
  simp only[slc]at ha hs2
  simp(disch:=first|assumption|omega|(simp only[LN]<;>omega)|(simp(disch:=first|assumption|omega|(simp only[LN]<;>omega))only[row_alloc,row_set];assumption))only[f111,W_block,P3,↓reduceIte,reduceAdd,reduceEqDiff,reduceCtorEq,initFr,reduceLT,clsA,reduceLeDiff,reduceMul,reduceSub,reduceIte,st_cap,st_appz,hw0,hw,a_cap0,lenS,hs,ha,hs2]
  exact hq2 _ _ ⟨slc H.n 0 0 n,rfl,.inr ⟨H.n,n,true,_,rfl,Nat.zero_le _,hlen,by simp,AHeap.get_alloc_new H _⟩,(Keeps.refl H).alloc _,fun b hb=>by cases hb;exact Nat.le_refl _⟩
theorem t68{H:AHeap}{V:Value}{vs:List (Value×List (List Value))}(hV:Sl H 1 V (vs.map fun x=>[x.1]))(hx:∀x∈vs,Sl H 2 x.1 x.2)(hl:vs.length≤1000)(hT:(vs.map (·.2.length)).sum≤1000000):
 ∃w H',ARun Tryz.prog 0 68 [V] H w H'∧WRr H' 55 2 w (vs.map (·.2)).flatten∧Keeps H H'∧Fresh H.n w:=by
 refine walk2 f68_ok f68_n ?_
 intro Q hq1 hq2
 have iV:=Sl.is hV
 have lV:lenS V=vs.length:=by have:=Sl.len hV;simpa using this
 have el:∀{i:Nat} (hi:i<vs.length) {K:AHeap},Keeps H K→nnS V=true∧rowA K 1 V i=some [vs[i].1]:=fun{i} hi {K} k=>by
  have:=Sl.at_ (hV.keeps k) (by omega) (i:=i) (by simpa using hi)
  simpa using this
 have tk:∀{i:Nat} (hi:i<vs.length),((vs.take (i+1)).map (·.2.length)).sum=((vs.take i).map (·.2.length)).sum+vs[i].2.length:=fun{i} hi=>by
  rw[List.take_succ_eq_append_getElem hi,List.map_append,List.sum_append];simp
 have tle:∀i,((vs.take i).map (·.2.length)).sum≤1000000:=fun i=>by
  have:vs=vs.take i++vs.drop i:=(List.take_append_drop i vs).symm
  rw[this,List.map_append,List.sum_append]at hT;omega
 simp(disch:=first|assumption|omega)only[f68,P3,seval,initFr,clsA,lV]
 rw[W_block]
 refine W_loop2 (fun k fr K=>∃i x3 x9 x10,fr=[V,.slice none 0 0,.int .i64 (((vs.take i).map (·.2.length)).sum:Nat),x3,undef,undef,V,.int .i64 ((vs.length:Nat):Int),.int .i64 ((i:Nat):Int),x9,x10,undef,undef,undef,undef]∧K=H∧i≤vs.length∧k=vs.length-i) vs.length
  ⟨0,_,_,_,rfl,rfl,by omega,rfl⟩ ?_
 rintro Q' k fr K0 ⟨i,x3,x9,x10,rfl,rfl,hi,rfl⟩ hn hx1 hret
 by_cases hlt:i<vs.length
 ·obtain⟨na,ra⟩:=el hlt (Keeps.refl _)
  have h0:(0:Int)≤(i:Int):=by omega
  have h1:(i:Int)<((vs.length:Nat):Int):=by omega
  have hw:IntKind.i64.wrap ((i:Int)+1)=((i+1:Nat):Int):=by rw[wrap_i64 (by omega) (by omega)];simp
  have lx:lenS vs[i].1 =vs[i].2.length:=Sl.len (hx _ (List.getElem_mem _))
  have ix:=Sl.is (hx _ (List.getElem_mem hlt))
  have hs:IntKind.i64.wrap ((((vs.take i).map (·.2.length)).sum:Nat)+(vs[i].2.length:Nat):Int)=((((vs.take (i+1)).map (·.2.length)).sum:Nat):Int):=by
   have:=tle (i+1);have:=tk hlt
   rw[wrap_i64 (by omega) (by omega)];omega
  have hneg:¬((((vs.take (i+1)).map (·.2.length)).sum:Nat):Int)<0:=by omega
  simp(disch:=first|assumption|omega)only[W_block,P3,seval,initFr,clsA,lV,ra,na,a_load1v,hw,lx,hs]
  exact hn _ _ _ ⟨i+1,_,_,_,rfl,rfl,by omega,rfl⟩ (by omega)
 ·have h1:¬(i:Int)<((vs.length:Nat):Int):=by omega
  have:i=vs.length:=by omega
  subst this
  simp(disch:=first|assumption|omega)only[W_block,P3,seval,initFr,clsA,lV]
  refine hx1 0 _ _ ?_
  simp(disch:=first|assumption|omega)only[P3,seval,initFr,clsA]
  refine callK (t111 _ _ (tle _)) ?_
  rintro w K ⟨wr,kk,fw⟩
  simp(disch:=first|assumption|omega)only[P3,seval,initFr,clsA,lV]
  rw[W_block]
  refine W_loop2 (fun k fr M=>∃i w x3 x5 x9 x10 x14,fr=[V,.slice none 0 0,.int .i64 (((vs.take vs.length).map (·.2.length)).sum:Nat),x3,w,x5,V,.int .i64 ((vs.length:Nat):Int),.int .i64 ((vs.length:Nat):Int),x9,x10,V,.int .i64 ((vs.length:Nat):Int),.int .i64 ((i:Nat):Int),x14]∧
   WR M 55 2 w ((vs.take i).map (·.2.length)).sum ((vs.take i).map (·.2)).flatten.flatten∧Keeps K0 M∧Fresh K0.n w∧i≤vs.length∧k=vs.length-i) vs.length
   ⟨0,w,_,_,_,_,_,rfl,wr,kk,fw,by omega,rfl⟩ ?_
  clear wr kk fw w K
  rintro Q2 k fr M ⟨i,w,x3,x5,x9,x10,x14,rfl,wr,kk,fw,hi,rfl⟩ hn2 hx2 hret2
  by_cases hlt:i<vs.length
  ·obtain⟨na,ra⟩:=el hlt kk
   have h0:(0:Int)≤(i:Int):=by omega
   have h1:(i:Int)<((vs.length:Nat):Int):=by omega
   have hw:IntKind.i64.wrap ((i:Int)+1)=((i+1:Nat):Int):=by rw[wrap_i64 (by omega) (by omega)];simp
   have sx:=(hx _ (List.getElem_mem hlt)).keeps kk
   have iw:=wr.is
   have t1:=tk hlt
   have t2:=tle (i+1)
   simp(disch:=first|assumption|omega)only[W_block,P3,seval,initFr,clsA,lV,ra,na,a_load1v]
   refine wr.appR (bytes:=16) sx.sh sx.el (flat_len sx.row) (by omega) ?_
   intro w' M' wr' c' hb'
   simp(disch:=first|assumption|omega)only[W_block,P3,seval,initFr,clsA,hw]
   refine hn2 _ _ _ ⟨i+1,w',_,_,_,_,_,rfl,?_,kk.chg_trans c' (fun x hx=>fw x (mem_blkL.1 hx)),fun b hb=>?_,by omega,rfl⟩ (by omega)
   ·rw[t1]
    have e:((vs.take (i+1)).map (·.2)).flatten.flatten=((vs.take i).map (·.2)).flatten.flatten++vs[i].2.flatten:=by
     rw[List.take_succ_eq_append_getElem hlt,List.map_append,List.flatten_append,List.flatten_append];simp
    rw[e];exact wr'
   ·rcases hb' with e|e
    ·exact fw b (by rw[←e];exact hb)
    ·rw[e]at hb;cases hb;exact kk.n
  ·have h1:¬(i:Int)<((vs.length:Nat):Int):=by omega
   have:i=vs.length:=by omega
   subst this
   simp(disch:=first|assumption|omega)only[W_block,P3,seval,initFr,clsA,lV]
   refine hx2 2 _ _ ?_
   simp(disch:=first|assumption|omega)only[W_block,P3,seval,initFr,clsA]
   refine hq2 _ _ ⟨_,rfl,?_,kk,fw⟩
   rw[List.take_length]at wr
   refine⟨?_,fun r hr=>?_⟩
   ·have e:(vs.map (·.2)).flatten.length=(vs.map (·.2.length)).sum:=by simp[List.length_flatten,List.map_map,Function.comp_def]
    rw[e];exact wr
   ·obtain⟨l,hl,hm⟩:=List.mem_flatten.1 hr
    obtain⟨x,hxm,rfl⟩:=List.mem_map.1 hl
    exact(hx x hxm).row r hm
end Go.AM.Fd

namespace Go.AM.Fd
open Nat (reduceAdd reduceEqDiff reduceLT reduceLeDiff reduceMul reduceSub)
open Go.Proofs Go.AM.F
theorem t132{H:AHeap}{v:Value}{l:List Int}(h:IL H v l)(hl:l.length≤1000000)(x:Int):
 ∃w H',ARun Tryz.prog 0 132 [v,.int .i64 x] H w H'∧H'=H∧∃i:Int,w=.int .i64 i∧decide (0≤i)=l.contains x:=by
 refine walk2 f132_ok f132_n ?_
 intro Q hq1 hq2
 have ia:=Sl.is h
 have la:=h.len
 simp(disch:=first|assumption|omega)only[f132,P3,seval,initFr,clsA,la]
 rw[W_block]
 refine W_loop2 (fun k fr K=>∃i x3 x6 x7,fr=[v,.int .i64 x,.int .i64 0,x3,.int .i64 ((l.length:Nat):Int),.int .i64 ((i:Nat):Int),x6,x7]∧K=H∧i≤l.length∧(l.take i).contains x=false∧k=l.length-i) l.length
  ⟨0,_,_,_,rfl,rfl,by omega,by simp,rfl⟩ ?_
 rintro Q' k fr K ⟨i,x3,x6,x7,rfl,rfl,hi,hp,rfl⟩ hn hx hret
 by_cases hlt:i<l.length
 ·obtain⟨na,ra⟩:=h.at_ hlt
  have h0:(0:Int)≤(i:Int):=by omega
  have h1:(i:Int)<((lenS v:Nat):Int):=by omega
  have h3:(i:Int)<((l.length:Nat):Int):=by omega
  have hw:IntKind.i64.wrap ((i:Int)+1)=((i+1:Nat):Int):=by rw[wrap_i64 (by omega) (by omega)];simp
  have e1:l.getD i 0=l[i]:=by simp[List.getD,List.getElem?_eq_getElem hlt]
  have tk:x≠l[i]→(l.take (i+1)).contains x=false:=fun e=>by
   rw[List.take_succ_eq_append_getElem hlt]
   simp only[List.contains_eq_any_beq,List.any_append]at hp ⊢
   rw[hp];simpa using e
  have an:x=l[i]→l.contains x=true:=fun e=>by rw[e];simp
  rw[e1]at ra
  generalize l[i]=y at*
  by_cases hxy:x=y
  ·have e2:(x==y)=true:=by simpa using hxy
   simp(disch:=first|assumption|omega)only[W_block,P3,seval,initFr,clsA,la,ra,na,a_load1v,e2]
   exact hret _ _ (hq2 _ _ ⟨_,rfl,rfl,(i:Int),rfl,by rw[an hxy];simp⟩)
  ·have e2:(x==y)=false:=by simpa using hxy
   simp(disch:=first|assumption|omega)only[W_block,P3,seval,initFr,clsA,la,ra,na,a_load1v,e2,hw]
   exact hn _ _ _ ⟨i+1,_,_,_,rfl,rfl,by omega,tk hxy,rfl⟩ (by omega)
 ·have h3:¬(i:Int)<((l.length:Nat):Int):=by omega
  simp(disch:=first|assumption|omega)only[W_block,P3,seval,initFr,clsA,la]
  refine hx 0 _ _ ?_
  simp(disch:=first|assumption|omega)only[W_block,P3,seval,initFr,clsA]
  refine hq2 _ _ ⟨_,rfl,rfl,-1,rfl,?_⟩
  rw[List.take_of_length_le (by omega)]at hp
  rw[hp];rfl
theorem t121{H:AHeap}{v:Value}{l:List Int}(h:IL H v l)(hl:l.length≤1000000)(x:Int):
 ∃w H',ARun Tryz.prog 0 121 [v,.int .i64 x] H w H'∧w=.bool (l.contains x)∧H'=H:=by
 refine walk2 f121_ok f121_n ?_
 intro Q hq1 hq2
 simp(disch:=first|assumption|omega)only[f121,P3,seval,initFr,clsA]
 refine callK (t132 h hl x) ?_
 rintro _ _ ⟨rfl,i,rfl,hi⟩
 simp(disch:=first|assumption|omega)only[W_block,P3,seval,initFr,clsA]
 exact hq2 _ _ ⟨_,rfl,by rw[←hi];rfl,rfl⟩
theorem t95{H:AHeap}{v:Value}{l:List Int}(h:IL H v l)(hl:l.length≤1000000){g:FuncId}{fi ca:Array Value}{p:Int→Bool}
 (hF:∀x∈l,∃w K',ARun Tryz.prog 0 g (fi.toList++[Value.int .i64 x]++ca.toList) H w K'∧w=.bool (p x)∧K'=H):
 ∃w H',ARun Tryz.prog 0 95 [v,.func (.func g) fi ca] H w H'∧H'=H∧∃i:Int,w=.int .i64 i∧decide (0≤i)=l.any p:=by
 refine walk2 f95_ok f95_n ?_
 intro Q hq1 hq2
 have ia:=Sl.is h
 have la:=h.len
 simp(disch:=first|assumption|omega)only[f95,P3,seval,initFr,clsA,la]
 rw[W_block]
 refine W_loop2 (fun k fr K=>∃i x3 x6 x7,fr=[v,.func (.func g) fi ca,.int .i64 0,x3,.int .i64 ((l.length:Nat):Int),.int .i64 ((i:Nat):Int),x6,x7]∧K=H∧i≤l.length∧(l.take i).any p=false∧k=l.length-i) l.length
  ⟨0,_,_,_,rfl,rfl,by omega,by simp,rfl⟩ ?_
 rintro Q' k fr K ⟨i,x3,x6,x7,rfl,rfl,hi,hp,rfl⟩ hn hx hret
 by_cases hlt:i<l.length
 ·obtain⟨na,ra⟩:=h.at_ hlt
  have h0:(0:Int)≤(i:Int):=by omega
  have h1:(i:Int)<((lenS v:Nat):Int):=by omega
  have h3:(i:Int)<((l.length:Nat):Int):=by omega
  have hw:IntKind.i64.wrap ((i:Int)+1)=((i+1:Nat):Int):=by rw[wrap_i64 (by omega) (by omega)];simp
  have e1:l.getD i 0=l[i]:=by simp[List.getD,List.getElem?_eq_getElem hlt]
  have hf:=hF _ (List.getElem_mem hlt)
  have tk:(l.take (i+1)).any p=p l[i]:=by rw[List.take_succ_eq_append_getElem hlt,List.any_append,hp];simp
  have an:p l[i]=true→l.any p=true:=fun e=>List.any_eq_true.2 ⟨_,List.getElem_mem hlt,e⟩
  rw[e1]at ra
  generalize l[i]=x at*
  simp(disch:=first|assumption|omega)only[W_block,P3,seval,initFr,clsA,la,ra,na,a_load1v,a_loadnv,st_callv,ia]
  refine callK hf ?_
  rintro _ _ ⟨rfl,rfl⟩
  cases hpx:p x with
  |true=>
   simp(disch:=first|assumption|omega)only[W_block,P3,seval,initFr,clsA]
   exact hret _ _ (hq2 _ _ ⟨_,rfl,rfl,(i:Int),rfl,by rw[an hpx];simp⟩)
  |false=>
   simp(disch:=first|assumption|omega)only[W_block,P3,seval,initFr,clsA,hw]
   exact hn _ _ _ ⟨i+1,_,_,_,rfl,rfl,by omega,by rw[tk,hpx],rfl⟩ (by omega)
 ·have h3:¬(i:Int)<((l.length:Nat):Int):=by omega
  simp(disch:=first|assumption|omega)only[W_block,P3,seval,initFr,clsA,la]
  refine hx 0 _ _ ?_
  simp(disch:=first|assumption|omega)only[W_block,P3,seval,initFr,clsA]
  refine hq2 _ _ ⟨_,rfl,rfl,-1,rfl,?_⟩
  rw[List.take_of_length_le (by omega)]at hp
  rw[hp];rfl
theorem t55{H:AHeap}{v:Value}{l:List Int}(h:IL H v l)(hl:l.length≤1000000){g:FuncId}{fi ca:Array Value}{p:Int→Bool}
 (hF:∀x∈l,∃w K',ARun Tryz.prog 0 g (fi.toList++[Value.int .i64 x]++ca.toList) H w K'∧w=.bool (p x)∧K'=H):
 ∃w H',ARun Tryz.prog 0 55 [v,.func (.func g) fi ca] H w H'∧w=.bool (l.any p)∧H'=H:=by
 refine walk2 f55_ok f55_n ?_
 intro Q hq1 hq2
 simp(disch:=first|assumption|omega)only[f55,P3,seval,initFr,clsA]
 refine callK (t95 h hl hF) ?_
 rintro _ _ ⟨rfl,i,rfl,hi⟩
 simp(disch:=first|assumption|omega)only[W_block,P3,seval,initFr,clsA]
 exact hq2 _ _ ⟨_,rfl,by rw[←hi];rfl,rfl⟩
theorem t96{H:AHeap}{v:Value}{l:List (Int×Bool)}(h:NL H v l)(hl:l.length≤1000000){g:FuncId}{fi ca:Array Value}{p:(Int×Bool)→Bool}
 (hF:∀x∈l,∃w K',ARun Tryz.prog 0 g (fi.toList++[Value.agg (nRow x).toArray]++ca.toList) H w K'∧w=.bool (p x)∧K'=H):
 ∃w H',ARun Tryz.prog 0 96 [v,.func (.func g) fi ca] H w H'∧H'=H∧∃i:Int,w=.int .i64 i∧decide (0≤i)=l.any p:=by
 refine walk2 f96_ok f96_n ?_
 intro Q hq1 hq2
 have ia:=Sl.is h
 have la:=h.len
 simp(disch:=first|assumption|omega)only[f96,P3,seval,initFr,clsA,la]
 rw[W_block]
 refine W_loop2 (fun k fr K=>∃i x3 x6 x7,fr=[v,.func (.func g) fi ca,.int .i64 0,x3,.int .i64 ((l.length:Nat):Int),.int .i64 ((i:Nat):Int),x6,x7]∧K=H∧i≤l.length∧(l.take i).any p=false∧k=l.length-i) l.length
  ⟨0,_,_,_,rfl,rfl,by omega,by simp,rfl⟩ ?_
 rintro Q' k fr K ⟨i,x3,x6,x7,rfl,rfl,hi,hp,rfl⟩ hn hx hret
 by_cases hlt:i<l.length
 ·obtain⟨na,ra⟩:=h.at_ hlt
  have h0:(0:Int)≤(i:Int):=by omega
  have h1:(i:Int)<((lenS v:Nat):Int):=by omega
  have h3:(i:Int)<((l.length:Nat):Int):=by omega
  have hw:IntKind.i64.wrap ((i:Int)+1)=((i+1:Nat):Int):=by rw[wrap_i64 (by omega) (by omega)];simp
  have e1:l.getD i (0,false)=l[i]:=by simp[List.getD,List.getElem?_eq_getElem hlt]
  have hf:=hF _ (List.getElem_mem hlt)
  have tk:(l.take (i+1)).any p=p l[i]:=by rw[List.take_succ_eq_append_getElem hlt,List.any_append,hp];simp
  have an:p l[i]=true→l.any p=true:=fun e=>List.any_eq_true.2 ⟨_,List.getElem_mem hlt,e⟩
  rw[e1]at ra
  generalize l[i]=x at*
  simp(disch:=first|assumption|omega)only[W_block,P3,seval,initFr,clsA,la,ra,na,a_load1v,a_loadnv,st_callv,nRow]
  refine callK hf ?_
  rintro _ _ ⟨rfl,rfl⟩
  cases hpx:p x with
  |true=>
   simp(disch:=first|assumption|omega)only[W_block,P3,seval,initFr,clsA]
   exact hret _ _ (hq2 _ _ ⟨_,rfl,rfl,(i:Int),rfl,by rw[an hpx];simp⟩)
  |false=>
   simp(disch:=first|assumption|omega)only[W_block,P3,seval,initFr,clsA,hw]
   exact hn _ _ _ ⟨i+1,_,_,_,rfl,rfl,by omega,by rw[tk,hpx],rfl⟩ (by omega)
 ·have h3:¬(i:Int)<((l.length:Nat):Int):=by omega
  simp(disch:=first|assumption|omega)only[W_block,P3,seval,initFr,clsA,la]
  refine hx 0 _ _ ?_
  simp(disch:=first|assumption|omega)only[W_block,P3,seval,initFr,clsA]
  refine hq2 _ _ ⟨_,rfl,rfl,-1,rfl,?_⟩
  rw[List.take_of_length_le (by omega)]at hp
  rw[hp];rfl
theorem t57{H:AHeap}{v:Value}{l:List (Int×Bool)}(h:NL H v l)(hl:l.length≤1000000){g:FuncId}{fi ca:Array Value}{p:(Int×Bool)→Bool}
 (hF:∀x∈l,∃w K',ARun Tryz.prog 0 g (fi.toList++[Value.agg (nRow x).toArray]++ca.toList) H w K'∧w=.bool (p x)∧K'=H):
 ∃w H',ARun Tryz.prog 0 57 [v,.func (.func g) fi ca] H w H'∧w=.bool (l.any p)∧H'=H:=by
 refine walk2 f57_ok f57_n ?_
 intro Q hq1 hq2
 simp(disch:=first|assumption|omega)only[f57,P3,seval,initFr,clsA]
 refine callK (t96 h hl hF) ?_
 rintro _ _ ⟨rfl,i,rfl,hi⟩
 simp(disch:=first|assumption|omega)only[W_block,P3,seval,initFr,clsA]
 exact hq2 _ _ ⟨_,rfl,by rw[←hi];rfl,rfl⟩
theorem t81{H:AHeap}{v:Value}{l:List RV}(h:RL H v l)(hl:l.length≤1000000){g:FuncId}{fi ca:Array Value}{p:RV→Bool}
 (hF:∀x∈l,∃w K',ARun Tryz.prog 0 g (fi.toList++[Value.agg x.row.toArray]++ca.toList) H w K'∧w=.bool (p x)∧K'=H):
 ∃w H',ARun Tryz.prog 0 81 [v,.func (.func g) fi ca] H w H'∧H'=H∧∃i:Int,w=.int .i64 i∧decide (0≤i)=l.any p:=by
 refine walk2 f81_ok f81_n ?_
 intro Q hq1 hq2
 have ia:=Sl.is h
 have la:=h.len
 simp(disch:=first|assumption|omega)only[f81,P3,seval,initFr,clsA,la]
 rw[W_block]
 refine W_loop2 (fun k fr K=>∃i x3 x6 x7,fr=[v,.func (.func g) fi ca,.int .i64 0,x3,.int .i64 ((l.length:Nat):Int),.int .i64 ((i:Nat):Int),x6,x7]∧K=H∧i≤l.length∧(l.take i).any p=false∧k=l.length-i) l.length
  ⟨0,_,_,_,rfl,rfl,by omega,by simp,rfl⟩ ?_
 rintro Q' k fr K ⟨i,x3,x6,x7,rfl,rfl,hi,hp,rfl⟩ hn hx hret
 by_cases hlt:i<l.length
 ·obtain⟨na,ra⟩:=h.at_ hlt
  have h0:(0:Int)≤(i:Int):=by omega
  have h1:(i:Int)<((lenS v:Nat):Int):=by omega
  have h3:(i:Int)<((l.length:Nat):Int):=by omega
  have hw:IntKind.i64.wrap ((i:Int)+1)=((i+1:Nat):Int):=by rw[wrap_i64 (by omega) (by omega)];simp
  have e1:l.getD i rv0=l[i]:=by simp[List.getD,List.getElem?_eq_getElem hlt]
  have hf:=hF _ (List.getElem_mem hlt)
  have tk:(l.take (i+1)).any p=p l[i]:=by rw[List.take_succ_eq_append_getElem hlt,List.any_append,hp];simp
  have an:p l[i]=true→l.any p=true:=fun e=>List.any_eq_true.2 ⟨_,List.getElem_mem hlt,e⟩
  rw[e1]at ra
  generalize l[i]=x at*
  simp(disch:=first|assumption|omega)only[W_block,P3,seval,initFr,clsA,la,ra,na,a_load1v,a_loadnv,st_callv,RV.row]
  refine callK hf ?_
  rintro _ _ ⟨rfl,rfl⟩
  cases hpx:p x with
  |true=>
   simp(disch:=first|assumption|omega)only[W_block,P3,seval,initFr,clsA]
   exact hret _ _ (hq2 _ _ ⟨_,rfl,rfl,(i:Int),rfl,by rw[an hpx];simp⟩)
  |false=>
   simp(disch:=first|assumption|omega)only[W_block,P3,seval,initFr,clsA,hw]
   exact hn _ _ _ ⟨i+1,_,_,_,rfl,rfl,by omega,by rw[tk,hpx],rfl⟩ (by omega)
 ·have h3:¬(i:Int)<((l.length:Nat):Int):=by omega
  simp(disch:=first|assumption|omega)only[W_block,P3,seval,initFr,clsA,la]
  refine hx 0 _ _ ?_
  simp(disch:=first|assumption|omega)only[W_block,P3,seval,initFr,clsA]
  refine hq2 _ _ ⟨_,rfl,rfl,-1,rfl,?_⟩
  rw[List.take_of_length_le (by omega)]at hp
  rw[hp];rfl
end Go.AM.Fd

namespace Go.AM.Fd
open Nat (reduceAdd reduceEqDiff reduceLT reduceLeDiff reduceMul reduceSub)
open Go.Proofs Go.AM.F
theorem fnc(f:Fn)(a b:Array Value):(Value.func f a b).cells.toList=[.func f a b]:=rfl
theorem fna(f:Fn)(a b:Array Value):(Value.func f a b).oneCell'=true:=rfl
def trk(r:Ro):List Int:=r.path++r.ov
def nds(r:Ro):List (Int×Bool):=r.pts++r.fl
theorem nodup_step{α:Type}[BEq α][LawfulBEq α]{l:List α}{i:Nat}(h:i<l.length)(hn:(l.take i).Nodup)(hc:(l.take i).contains l[i]=false):(l.take (i+1)).Nodup:=by
 rw[List.take_succ_eq_append_getElem h,List.nodup_append]
 refine⟨hn,by simp,fun a ha b hb=>?_⟩
 simp only[List.mem_singleton]at hb
 subst hb
 rintro rfl
 simp at hc
 exact hc ha
theorem t120(H:AHeap)(n:Int):∃w H',ARun Tryz.prog 0 120 [.int .i64 n] H w H'∧w=.int .i64 n∧H'=H:=by
 refine walk2 f120_ok f120_n ?_
 intro Q hq1 hq2
 simp(disch:=first|assumption|omega)only[f120,W_block,P3,seval,initFr,clsA]
 exact hq2 _ _ ⟨_,rfl,rfl,rfl⟩
theorem t123(H:AHeap)(x:Int×Bool):∃w H',ARun Tryz.prog 0 123 [.agg (nRow x).toArray] H w H'∧w=.int .i64 x.1∧H'=H:=by
 suffices h':∃w H',ARun Tryz.prog 0 123 [.agg (nRow x).toArray] H w H'∧w=.int .i64 x.1∧Keeps H H' by
  obtain⟨_,_,a,rfl,k⟩:=h'
  exact⟨_,_,a.gc0 k (.inr (.int _ _)),rfl,rfl⟩
 refine walk2 f123_ok f123_n ?_
 intro Q hq1 hq2
 have o1:one1 (Value.int .i64 x.1)=True:=by simp[one1,one_int]
 simp(disch:=first|assumption|omega)only[f123,W_block,P3,seval,initFr,clsA,nRow,o1]
 exact hq2 _ _ ⟨_,rfl,rfl,(Keeps.refl H).alloc _⟩
theorem t131{H:AHeap}{a b:Nat}{oa ob ra rb:Bool}{ta tb:Nat}{x:Int}(ga:H.get a=some (.cells oa ra 1 [.func (.func 120) #[] #[]] ta))(gb:H.get b=some (.cells ob rb 1 [.int .i64 x] tb))(y:Int):
 ∃w H',ARun Tryz.prog 0 131 [.int .i64 y,ptr a 0,ptr b 0] H w H'∧w=.bool (x==y)∧H'=H:=by
 refine walk2 f131_ok f131_n ?_
 intro Q hq1 hq2
 simp(disch:=first|assumption|omega)only[f131,W_block,P3,seval,initFr,clsA,ga,gb,stD_callv]
 refine callK (t120 H x) ?_
 rintro _ _ ⟨rfl,rfl⟩
 simp(disch:=first|assumption|omega)only[W_block,P3,seval,initFr,clsA,ga,gb,stD_callv]
 refine⟨AHeap.get_lt ga,callK (t120 _ y) ?_⟩
 rintro _ _ ⟨rfl,rfl⟩
 simp(disch:=first|assumption|omega)only[W_block,P3,seval,initFr,clsA]
 exact hq2 _ _ ⟨_,rfl,rfl,rfl⟩
theorem t133{H:AHeap}{a b:Nat}{oa ob ra rb:Bool}{ta tb:Nat}{x:Int×Bool}(ga:H.get a=some (.cells oa ra 1 [.func (.func 123) #[] #[]] ta))(gb:H.get b=some (.cells ob rb 2 (nRow x) tb))(y:Int×Bool):
 ∃w H',ARun Tryz.prog 0 133 [.agg (nRow y).toArray,ptr a 0,ptr b 0] H w H'∧w=.bool (x.1==y.1)∧H'=H:=by
 refine gcb ?_
 refine walk2 f133_ok f133_n ?_
 intro Q hq1 hq2
 have fx:=fun K=>t123 K x
 have fy:=fun K=>t123 K y
 have la:=AHeap.get_lt ga
 have lb:=AHeap.get_lt gb
 have o1:one1 (Value.int .i64 y.1)=True:=by simp[one1,one_int]
 simp only[nRow]at gb fx fy
 simp(disch:=first|assumption|omega|(simp only[LN]<;>omega)|(simp(disch:=first|assumption|omega|(simp only[LN]<;>omega))only[row_alloc,row_set];assumption))only[f133,W_block,P3,seval,initFr,clsA,ga,gb,nRow,stD_callv]
 refine callK (fx _) ?_
 rintro _ _ ⟨rfl,rfl⟩
 simp(disch:=first|assumption|omega|(simp only[LN]<;>omega)|(simp(disch:=first|assumption|omega|(simp only[LN]<;>omega))only[row_alloc,row_set];assumption))only[W_block,P3,seval,initFr,clsA,ga,gb,stD_callv]
 refine callK (fy _) ?_
 rintro _ _ ⟨rfl,rfl⟩
 simp(disch:=first|assumption|omega)only[W_block,P3,seval,initFr,clsA]
 exact hq2 _ _ ⟨_,rfl,rfl,(Keeps.refl H).alloc _⟩
theorem t119{H:AHeap}{v:Value}{l:List Int}(h:WRr H 3 1 v (l.map iRow))(hl:l.length≤1000000):
 ∃w H',ARun Tryz.prog 0 119 [v,.func (.func 120) #[] #[]] H w H'∧w=.bool (!decide l.Nodup)∧H'=H:=by
 refine gcb ?_
 refine walk2 f119_ok f119_n ?_
 intro Q hq1 hq2
 have hI:IL H v l:=h.sl
 have ia:=Sl.is hI
 have la:=hI.len
 have gk:=AHeap.get_alloc_new H (.cells true false 1 [.func (.func 120) #[] #[]] 174)
 simp(disch:=first|assumption|omega)only[f119,P3,seval,initFr,clsA,la,fnc,fna]
 rw[W_block]
 refine W_loop2 (fun k fr K=>∃i x4 x5 x9 x10,fr=[v,.func (.func 120) #[] #[],ptr H.n 0,.bool false,x4,x5,v,.int .i64 ((l.length:Nat):Int),.int .i64 ((i:Nat):Int),x9,x10]∧
  Keeps (H.alloc (.cells true false 1 [.func (.func 120) #[] #[]] 174)) K∧i≤l.length∧(l.take i).Nodup∧k=l.length-i) l.length
  ⟨0,_,_,_,_,rfl,Keeps.refl _,by omega,by simp,rfl⟩ ?_
 rintro Q' k fr K ⟨i,x4,x5,x9,x10,rfl,kk,hi,hp,rfl⟩ hn hx hret
 have kH:Keeps H K:=((Keeps.refl H).alloc _).trans kk
 by_cases hlt:i<l.length
 ·obtain⟨na,ra⟩:=(hI.keeps kH).at_ hlt
  have h0:(0:Int)≤(i:Int):=by omega
  have h1:(i:Int)<((lenS v:Nat):Int):=by omega
  have h3:(i:Int)<((l.length:Nat):Int):=by omega
  have hw:IntKind.i64.wrap ((i:Int)+1)=((i+1:Nat):Int):=by rw[wrap_i64 (by omega) (by omega)];simp
  have e1:l.getD i 0=l[i]:=by simp[List.getD,List.getElem?_eq_getElem hlt]
  have nd:=nodup_step hlt hp
  have nt:=nodup_take (d:=0) hlt
  rw[e1]at ra nt
  generalize l[i]=x at*
  have kA:=(Keeps.refl K).alloc (.cells true false 1 [.int .i64 x] 3)
  obtain⟨w,e2,s2⟩:=(h.keeps (kH.trans kA)).pre (kd:=.i64) (i:=i) (by simpa using hi)
  have gk2:=(kk.trans kA).at_ gk
  have gx:=AHeap.get_alloc_new K (.cells true false 1 [.int .i64 x] 3)
  have s2':IL (K.alloc (.cells true false 1 [.int .i64 x] 3)) w (l.take i):=by unfold IL;rw[List.map_take];exact s2
  simp(disch:=first|assumption|omega)only[W_block,P3,seval,initFr,clsA,la,ra,na,a_load1v,e2]
  refine callK (t55 s2' (by rw[List.length_take];omega) (p:=fun y=>x==y) (fun y _=>t131 gk2 gx y)) ?_
  rintro _ _ ⟨rfl,rfl⟩
  have ec:((l.take i).any fun y=>x==y)=(l.take i).contains x:=by rw[List.contains_eq_any_beq]
  rw[ec]
  cases hc:(l.take i).contains x with
  |true=>
   simp(disch:=first|assumption|omega)only[W_block,P3,seval,initFr,clsA]
   exact hret _ _ (hq2 _ _ ⟨_,rfl,by simp[nt hc,tupV],kH.trans kA⟩)
  |false=>
   simp(disch:=first|assumption|omega)only[W_block,P3,seval,initFr,clsA,hw]
   exact hn _ _ _ ⟨i+1,_,_,_,_,rfl,kk.trans kA,by omega,nd hc,rfl⟩ (by omega)
 ·have h3:¬(i:Int)<((l.length:Nat):Int):=by omega
  simp(disch:=first|assumption|omega)only[W_block,P3,seval,initFr,clsA,la]
  refine hx 0 _ _ ?_
  simp(disch:=first|assumption|omega)only[W_block,P3,seval,initFr,clsA]
  refine hq2 _ _ ⟨_,rfl,?_,kH⟩
  rw[List.take_of_length_le (by omega)]at hp
  simp[hp,tupV]
theorem t122{H:AHeap}{v:Value}{l:List (Int×Bool)}(h:WRr H 55 2 v (l.map nRow))(hl:l.length≤1000000):
 ∃w H',ARun Tryz.prog 0 122 [v,.func (.func 123) #[] #[]] H w H'∧w=.bool (!decide (l.map (·.1)).Nodup)∧H'=H:=by
 refine gcb ?_
 refine walk2 f122_ok f122_n ?_
 intro Q hq1 hq2
 have hI:NL H v l:=h.sl
 have ia:=Sl.is hI
 have la:=hI.len
 have gk:=AHeap.get_alloc_new H (.cells true false 1 [.func (.func 123) #[] #[]] 176)
 simp(disch:=first|assumption|omega)only[f122,P3,seval,initFr,clsA,la,fnc,fna]
 rw[W_block]
 refine W_loop2 (fun k fr K=>∃i x4 x5 x9 x10,fr=[v,.func (.func 123) #[] #[],ptr H.n 0,.bool false,x4,x5,v,.int .i64 ((l.length:Nat):Int),.int .i64 ((i:Nat):Int),x9,x10]∧
  Keeps (H.alloc (.cells true false 1 [.func (.func 123) #[] #[]] 176)) K∧i≤l.length∧((l.map (·.1)).take i).Nodup∧k=l.length-i) l.length
  ⟨0,_,_,_,_,rfl,Keeps.refl _,by omega,by simp,rfl⟩ ?_
 rintro Q' k fr K ⟨i,x4,x5,x9,x10,rfl,kk,hi,hp,rfl⟩ hn hx hret
 have kH:Keeps H K:=((Keeps.refl H).alloc _).trans kk
 by_cases hlt:i<l.length
 ·obtain⟨na,ra⟩:=(hI.keeps kH).at_ hlt
  have h0:(0:Int)≤(i:Int):=by omega
  have h1:(i:Int)<((lenS v:Nat):Int):=by omega
  have h3:(i:Int)<((l.length:Nat):Int):=by omega
  have hw:IntKind.i64.wrap ((i:Int)+1)=((i+1:Nat):Int):=by rw[wrap_i64 (by omega) (by omega)];simp
  have e1:l.getD i (0,false)=l[i]:=by simp[List.getD,List.getElem?_eq_getElem hlt]
  have hlt2:i<(l.map (·.1)).length:=by simpa using hlt
  have nd:=nodup_step hlt2 hp
  have nt:=nodup_take (d:=0) hlt2
  have e3:(l.map (·.1)).getD i 0=l[i].1 :=by simp[List.getD,List.getElem?_eq_getElem hlt]
  have e4:(l.map (·.1))[i]=l[i].1 :=by simp
  rw[e1]at ra
  rw[e3]at nt
  rw[e4]at nd
  generalize l[i]=x at*
  have o1:one1 (Value.int .i64 x.1)=True:=by simp[one1,one_int]
  have o2:one1 (Value.bool x.2)=True:=by simp[one1,one_bool]
  have kA:=(Keeps.refl K).alloc (.cells true false 2 [.int .i64 x.1,.bool x.2] 55)
  obtain⟨w,e2,s2⟩:=(h.keeps (kH.trans kA)).pre (kd:=.i64) (i:=i) (by simpa using hi)
  have gk2:=(kk.trans kA).at_ gk
  have gx:=AHeap.get_alloc_new K (.cells true false 2 [.int .i64 x.1,.bool x.2] 55)
  have s2':NL (K.alloc (.cells true false 2 [.int .i64 x.1,.bool x.2] 55)) w (l.take i):=by unfold NL;rw[List.map_take];exact s2
  simp(disch:=first|assumption|omega|(simp only[LN]<;>omega)|(simp(disch:=first|assumption|omega|(simp only[LN]<;>omega))only[row_alloc,row_set];assumption))only[W_block,P3,seval,initFr,clsA,la,ra,na,a_loadnvf,o1,o2,e2]
  refine callK (t57 s2' (by rw[List.length_take];omega) (p:=fun y=>x.1==y.1) (fun y _=>t133 gk2 gx y)) ?_
  rintro _ _ ⟨rfl,rfl⟩
  have ec:((l.take i).any fun y=>x.1==y.1)=((l.map (·.1)).take i).contains x.1:=by rw[List.contains_eq_any_beq,←List.map_take,List.any_map];rfl
  rw[ec]
  cases hc:((l.map (·.1)).take i).contains x.1 with
  |true=>
   simp(disch:=first|assumption|omega)only[W_block,P3,seval,initFr,clsA]
   exact hret _ _ (hq2 _ _ ⟨_,rfl,by simp[nt hc,tupV],kH.trans kA⟩)
  |false=>
   simp(disch:=first|assumption|omega)only[W_block,P3,seval,initFr,clsA,hw]
   exact hn _ _ _ ⟨i+1,_,_,_,_,rfl,kk.trans kA,by omega,nd hc,rfl⟩ (by omega)
 ·have h3:¬(i:Int)<((l.length:Nat):Int):=by omega
  simp(disch:=first|assumption|omega)only[W_block,P3,seval,initFr,clsA,la]
  refine hx 0 _ _ ?_
  simp(disch:=first|assumption|omega)only[W_block,P3,seval,initFr,clsA]
  refine hq2 _ _ ⟨_,rfl,?_,kH⟩
  rw[List.take_of_length_le (by simp;omega)]at hp
  simp[hp,tupV]
theorem t134{H:AHeap}{b:Nat}{ob rb:Bool}{tb:Nat}{p:Int}(gb:H.get b=some (.cells ob rb 1 [.int .i64 p] tb))(x:Int×Bool):
 ∃w H',ARun Tryz.prog 0 134 [.agg (nRow x).toArray,ptr b 0] H w H'∧w=.bool (x.1==p)∧H'=H:=by
 refine gcb ?_
 refine walk2 f134_ok f134_n ?_
 intro Q hq1 hq2
 have o1:one1 (Value.int .i64 x.1)=True:=by simp[one1,one_int]
 have lb:=AHeap.get_lt gb
 simp(disch:=first|assumption|omega)only[f134,W_block,P3,seval,initFr,clsA,nRow,o1,gb]
 exact hq2 _ _ ⟨_,rfl,rfl,(Keeps.refl H).alloc _⟩
theorem t124{H:AHeap}{v:Value}{l:List (Int×Bool)}(h:NL H v l)(hl:l.length≤1000000)(p:Int):
 ∃w H',ARun Tryz.prog 0 124 [v,.int .i64 p] H w H'∧w=.bool (l.any fun x=>x.1==p)∧H'=H:=by
 refine gcb ?_
 refine walk2 f124_ok f124_n ?_
 intro Q hq1 hq2
 have kA:=(Keeps.refl H).alloc (.cells true false 1 [.int .i64 p] 3)
 have gx:=AHeap.get_alloc_new H (.cells true false 1 [.int .i64 p] 3)
 simp(disch:=first|assumption|omega)only[f124,W_block,P3,seval,initFr,clsA]
 refine callK (t57 (h.keeps kA) hl (p:=fun x=>x.1==p) (fun y _=>t134 gx y)) ?_
 rintro _ _ ⟨rfl,rfl⟩
 simp(disch:=first|assumption|omega)only[W_block,P3,seval,initFr,clsA]
 exact hq2 _ _ ⟨_,rfl,rfl,kA⟩
end Go.AM.Fd

namespace Go.AM.Fd
open Nat (reduceAdd reduceEqDiff reduceLT reduceLeDiff reduceMul reduceSub)
open Go.Proofs Go.AM.F
structure LyLim (L:Ly):Prop where
 s:L.s.length≤64
 p:L.p.length≤32
 g:L.g.length≤32
 r:L.r.length≤64
theorem full_may{L:Ly}(h:fullB L=true):mayB L=false:=by simp[mayB,h]
theorem full_not{L:Ly}(h:fullB L=false):LyLim L:=by
 simp only[fullB,Bool.or_eq_false_iff,decide_eq_false_iff_not]at h
 exact⟨by omega,by omega,by omega,by omega⟩
theorem LyIn.fit2{L:Ly}(h:LyIn 9223372036854775807 L)(k:LyLim L):LyFit L:=
 ⟨⟨by have:=k.s;omega,h.s.2⟩,⟨by have:=k.p;omega,h.p.2⟩,⟨by have:=k.g;omega,h.g.2⟩,⟨by have:=k.r;omega,h.r.2⟩⟩
set_option maxHeartbeats 1000000 in
theorem lMayA{H:AHeap}{u:V4}{xs:List RV}{L:Ly}(h:LyR H u xs L)(hf:LyIn 9223372036854775807 L):∃w H',ARun Tryz.prog 0 80 [.agg u.l.toArray] H w H'∧w=.bool (mayB L)∧H'=H:=by
 cases hfl:fullB L with
 |false=>exact t80 h (hf.fit2 (full_not hfl))
 |true=>
 refine gcb ?_
 refine walk2 f80_ok f80_n ?_
 intro Q hq1 hq2
 rw[full_may hfl]at hq1 hq2
 have os:=Sl.one h.s
 have op:=Sl.one h.p
 have og:=Sl.one h.g
 have or:=Sl.one h.r
 have is:=Sl.is h.s
 have ip:=Sl.is h.p
 have ig:=Sl.is h.g
 have ir:=Sl.is h.r
 have ls:=h.s.len
 have lp:=h.p.len
 have lg:=h.g.len
 have lr:=h.r.len
 rw[h.rlen]at lr
 obtain⟨us,up,ug,ur⟩:=u
 simp only[V4.l]at*
 have kk:Keeps H (H.alloc (.cells true false 4 [us,up,ug,ur] 27)):=(Keeps.refl H).alloc _
 simp only[fullB,Bool.or_eq_true,decide_eq_true_eq]at hfl
 by_cases h1:64<L.s.length
 ·have e1:(64:Int)<((L.s.length:Nat):Int):=by omega
  simp(disch:=first|assumption|omega)only[f80,W_block,P3,seval,initFr,clsA,os,op,og,or,ls,lp,lg,lr]
  exact hq2 _ _ ⟨_,rfl,rfl,kk⟩
 have e1:¬(64:Int)<((L.s.length:Nat):Int):=by omega
 by_cases h2:32<L.p.length
 ·have e2:(32:Int)<((L.p.length:Nat):Int):=by omega
  simp(disch:=first|assumption|omega)only[f80,W_block,P3,seval,initFr,clsA,os,op,og,or,ls,lp,lg,lr]
  exact hq2 _ _ ⟨_,rfl,rfl,kk⟩
 have e2:¬(32:Int)<((L.p.length:Nat):Int):=by omega
 by_cases h3:32<L.g.length
 ·have e3:(32:Int)<((L.g.length:Nat):Int):=by omega
  simp(disch:=first|assumption|omega)only[f80,W_block,P3,seval,initFr,clsA,os,op,og,or,ls,lp,lg,lr]
  exact hq2 _ _ ⟨_,rfl,rfl,kk⟩
 have e3:¬(32:Int)<((L.g.length:Nat):Int):=by omega
 have e4:(64:Int)<((L.r.length:Nat):Int):=by omega
 simp(disch:=first|assumption|omega)only[f80,W_block,P3,seval,initFr,clsA,os,op,og,or,ls,lp,lg,lr]
 exact hq2 _ _ ⟨_,rfl,rfl,kk⟩
theorem two_rows{H:AHeap}{a b:Value}(T:Nat)(ha:a.oneCell'=true)(hb:b.oneCell'=true):Sl (H.alloc (.cells true false 1 [a,b] T)) 1 (slc H.n 0 2 2) [[a],[b]]:=
 ⟨⟨_,_,rfl⟩,by simp,by rw[elems_new rfl rfl];rfl⟩
theorem fill2{a b:Value}(ha:isS a=true)(hb:isS b=true):fillA [.slice none 0 0,.slice none 0 0] [(0,1,a),(1,1,b)]=some [a,b]:=by
 cases a with
 |slice p n k=>cases b with
  |slice q m j=>rfl
  |_=>cases hb
 |_=>cases ha
theorem t30{H:AHeap}{x:RV}(h:x.ok H)(hl:x.r.path.length+x.r.ov.length≤1000000):
 ∃w H',ARun Tryz.prog 0 30 [.agg x.row.toArray] H w H'∧WRr H' 3 1 w ((trk x.r).map iRow)∧Keeps H H'∧Fresh H.n w:=by
 refine walk2 f30_ok f30_n ?_
 intro Q hq1 hq2
 have o1:one1 (Value.int .i64 x.r.g)=True:=by simp[one1,one_int]
 have o2:one1 (Value.string ⟨x.r.n.toArray⟩)=True:=by simp[one1,one_str]
 have o3:=one_isS (Sl.is h.p)
 have o4:=one_isS (Sl.is h.q)
 have o5:=one_isS (Sl.is h.o)
 have o6:=one_isS (Sl.is h.f)
 have op:=Sl.one h.p
 have oo:=Sl.one h.o
 have fl:=fill2 (Sl.is h.p) (Sl.is h.o)
 have al:[x.vp,x.vo].all Value.oneCell'=true:=by simp[op,oo]
 have k1:=(Keeps.refl H).alloc (.cells true false 6 x.row 49)
 have k2:=k1.alloc (.cells true false 1 [x.vp,x.vo] 46)
 have hV:=two_rows (H:=H.alloc (.cells true false 6 x.row 49)) 46 op oo
 have hp:Sl _ 1 x.vp (x.r.path.map iRow):=h.p.keeps k2
 have ho:Sl _ 1 x.vo (x.r.ov.map iRow):=h.o.keeps k2
 obtain⟨⟨xn,xg,xp,xq,xo,xf⟩,vp,vq,vo,vf⟩:=x
 simp only[RV.row]at*
 simp(disch:=first|assumption|omega)only[f30,W_block,P3,seval,initFr,clsA,o1,o2,o3,o4,o5,o6,op,oo,fl,al]
 refine callK (t67 (vs:=[(vp,xp.map iRow),(vo,xo.map iRow)]) hV (by
  intro y hy
  simp only[List.mem_cons,List.not_mem_nil,or_false]at hy
  rcases hy with rfl|rfl
  ·exact hp
  ·exact ho) (by simp) (by simpa using hl)) ?_
 rintro w K ⟨s,k,f⟩
 simp(disch:=first|assumption|omega)only[W_block,P3,seval,initFr,clsA]
 refine hq2 _ _ ⟨w,rfl,?_,k2.trans k,fun b hb=>Nat.le_trans k2.n (f b hb)⟩
 simpa[trk]using s
theorem t32{H:AHeap}{x:RV}(h:x.ok H)(hl:x.r.pts.length+x.r.fl.length≤1000000):
 ∃w H',ARun Tryz.prog 0 32 [.agg x.row.toArray] H w H'∧WRr H' 55 2 w ((nds x.r).map nRow)∧Keeps H H'∧Fresh H.n w:=by
 refine walk2 f32_ok f32_n ?_
 intro Q hq1 hq2
 have o1:one1 (Value.int .i64 x.r.g)=True:=by simp[one1,one_int]
 have o2:one1 (Value.string ⟨x.r.n.toArray⟩)=True:=by simp[one1,one_str]
 have o3:=one_isS (Sl.is h.p)
 have o4:=one_isS (Sl.is h.q)
 have o5:=one_isS (Sl.is h.o)
 have o6:=one_isS (Sl.is h.f)
 have op:=Sl.one h.q
 have oo:=Sl.one h.f
 have fl:=fill2 (Sl.is h.q) (Sl.is h.f)
 have al:[x.vq,x.vf].all Value.oneCell'=true:=by simp[op,oo]
 have k1:=(Keeps.refl H).alloc (.cells true false 6 x.row 49)
 have k2:=k1.alloc (.cells true false 1 [x.vq,x.vf] 47)
 have hV:=two_rows (H:=H.alloc (.cells true false 6 x.row 49)) 47 op oo
 have hp:Sl _ 2 x.vq (x.r.pts.map nRow):=h.q.keeps k2
 have ho:Sl _ 2 x.vf (x.r.fl.map nRow):=h.f.keeps k2
 obtain⟨⟨xn,xg,xp,xq,xo,xf⟩,vp,vq,vo,vf⟩:=x
 simp only[RV.row]at*
 simp(disch:=first|assumption|omega)only[f32,W_block,P3,seval,initFr,clsA,o1,o2,o3,o4,o5,o6,op,oo,fl,al]
 refine callK (t68 (vs:=[(vq,xq.map nRow),(vf,xf.map nRow)]) hV (by
  intro y hy
  simp only[List.mem_cons,List.not_mem_nil,or_false]at hy
  rcases hy with rfl|rfl
  ·exact hp
  ·exact ho) (by simp) (by simpa using hl)) ?_
 rintro w K ⟨s,k,f⟩
 simp(disch:=first|assumption|omega)only[W_block,P3,seval,initFr,clsA]
 refine hq2 _ _ ⟨w,rfl,?_,k2.trans k,fun b hb=>Nat.le_trans k2.n (f b hb)⟩
 simpa[nds]using s
end Go.AM.Fd

namespace Go.AM.Fd
open Nat (reduceAdd reduceEqDiff reduceLT reduceLeDiff reduceMul reduceSub)
open Go.Proofs Go.AM.F
def ptB(L:Ly)(r:Ro)(i:Nat):Bool:=
 ((trk r).contains (L.p.getD i ([],0)).2 ==r.pts.any (fun x=>x.1==(i:Int)))&& !((trk r).contains (L.p.getD i ([],0)).2 &&r.fl.any (fun x=>x.1==(i:Int)))
def badB(L:Ly)(r:Ro):Bool:=r.path.isEmpty|| !decide (trk r).Nodup||(trk r).contains (L.g.getD r.g.toNat ([],0)).2 || !decide ((nds r).map (·.1)).Nodup
def formedB(L:Ly)(r:Ro):Bool:= !badB L r&&(List.range L.p.length).all (ptB L r)
theorem formed_bad{L:Ly}{r:Ro}(h:badB L r=true):formedB L r=false:=by simp[formedB,h]
theorem formed_at{L:Ly}{r:Ro}{i:Nat}(hi:i<L.p.length)(h:ptB L r i=false):formedB L r=false:=by
 have:(List.range L.p.length).all (ptB L r)=false:=List.all_eq_false.2 ⟨i,List.mem_range.2 hi,by simp[h]⟩
 simp[formedB,this]
structure RoLim (L:Ly) (r:Ro):Prop where
 g:0≤r.g∧r.g<L.g.length
 p:r.path.length≤16
 o:r.ov.length≤16
 q:r.pts.length≤16
 f:r.fl.length≤16
theorem roB_lim{L:Ly}{r:Ro}(h:roB L r=true):RoLim L r:=by
 simp only[roB,needB,inB,Bool.and_eq_true,decide_eq_true_eq]at h
 exact⟨by omega,by omega,by omega,by omega,by omega⟩
set_option maxHeartbeats 4000000 in
theorem t83{H:AHeap}{u:V4}{xs:List RV}{L:Ly}{x:RV}(h:LyR H u xs L)(hx:x.ok H)(hr:RoLim L x.r)(hL:LyLim L):
 ∃w H',ARun Tryz.prog 0 83 [.agg u.l.toArray,.agg x.row.toArray] H w H'∧w=.bool (formedB L x.r)∧H'=H:=by
 refine gcb ?_
 refine walk2 f83_ok f83_n ?_
 intro Q hq1 hq2
 have lp':=hL.p
 have lg':=hL.g
 have lP:=hr.p
 have lO:=hr.o
 have lQ:=hr.q
 have lF:=hr.f
 have os:=Sl.one h.s
 have op:=Sl.one h.p
 have og:=Sl.one h.g
 have or:=Sl.one h.r
 have is:=Sl.is h.s
 have ip:=Sl.is h.p
 have ig:=Sl.is h.g
 have ir:=Sl.is h.r
 have lp:=h.p.len
 have lg:=h.g.len
 have q1:one1 (Value.int .i64 x.r.g)=True:=by simp[one1,one_int]
 have q2:one1 (Value.string ⟨x.r.n.toArray⟩)=True:=by simp[one1,one_str]
 have q3:=one_isS (Sl.is hx.p)
 have q4:=one_isS (Sl.is hx.q)
 have q5:=one_isS (Sl.is hx.o)
 have q6:=one_isS (Sl.is hx.f)
 have lpt:=hx.p.len
 have ipt:=Sl.is hx.p
 obtain⟨n,hn⟩:∃n:Nat,x.r.g=(n:Int):=⟨x.r.g.toNat,by have:=hr.g.1;omega⟩
 have hnl:n<L.g.length:=by have:=hr.g.2;omega
 have gt:x.r.g.toNat=n:=by omega
 -- the two boxes
 obtain⟨K0,hK0⟩:∃X,X=(H.alloc (.cells true false 4 u.l 27)).alloc (.cells true false 6 x.row 49):=⟨_,rfl⟩
 have k0:Keeps H K0:=by rw[hK0];exact((Keeps.refl H).alloc _).alloc _
 have n0:K0.n=H.n+2:=by rw[hK0];rfl
 have gl:K0.get H.n=some (.cells true false 4 u.l 27):=by rw[hK0];exact((Keeps.refl _).alloc _).at_ (AHeap.get_alloc_new H _)
 have gr:K0.get (H.n+1)=some (.cells true false 6 x.row 49):=by rw[hK0];exact AHeap.get_alloc_new (H.alloc _) _
 have x0:=hx.keeps k0
 have row:x.row=[.string ⟨x.r.n.toArray⟩,.int .i64 x.r.g,x.vp,x.vq,x.vo,x.vf]:=rfl
 have tT:=t30 x0 (by omega)
 simp only[V4.l,row]at hK0 gl gr tT ⊢
 have hbad:formedB L x.r=false→∀{K:AHeap} {fr:List Value},Keeps H K→resO f83.res fr K=some (.bool false)→Q .ret fr K:=fun e K fr k hres=>hq2 _ _ ⟨_,hres,by rw[e],k⟩
 simp(disch:=first|assumption|omega|(simp only[LN]<;>omega)|(simp(disch:=first|assumption|omega|(simp only[LN]<;>omega))only[row_alloc,row_set];assumption))only[f83,W_block,P3,seval,initFr,clsA,q1,q2,q3,q4,q5,q6,os,op,og,or,lpt]
 simp only[←hK0]
 refine callK tT ?_
 rintro t K1 ⟨ht,k1,ft⟩
 have hti:IL K1 t (trk x.r):=ht.sl
 have trl:(trk x.r).length≤32:=by simp[trk];omega
 have gl1:=k1.at_ gl
 have gr1:=k1.at_ gr
 have n1:=k1.n
 have pe:x.r.path.isEmpty=(((x.r.path.length:Nat):Int)==0):=by
  cases x.r.path with
  |nil=>rfl
  |cons a b=>simp;omega
 cases hpe:(((x.r.path.length:Nat):Int)==0)with
 |true=>
  simp(disch:=first|assumption|omega)only[W_block,P3,seval,initFr,clsA,gr1,lpt,hpe]
  exact hbad (formed_bad (by simp[badB,pe,hpe])) (k0.trans k1) rfl
 |false=>
 simp(disch:=first|assumption|omega)only[W_block,P3,seval,initFr,clsA,gr1,lpt,hpe]
 refine callQ (t119 ht (by omega)) ?_
 cases hnd:decide (trk x.r).Nodup with
 |false=>
  simp(disch:=first|assumption|omega)only[W_block,P3,seval,initFr,clsA]
  exact hbad (formed_bad (by simp only[badB,hnd];simp)) (k0.trans k1) rfl
 |true=>
 obtain⟨ng,rg⟩:=(h.g.keeps (k0.trans k1)).at_ hnl
 have t0:(Int.toNat (n:Int))=n:=by omega
 have g1:(0:Int)≤(n:Int):=by omega
 have g2:(n:Int)<((L.g.length:Nat):Int):=by omega
 simp(disch:=first|assumption|omega)only[W_block,P3,seval,initFr,clsA,gl1,gr1,hn,ng,rg,lg,a_load1v,a_loadnvf]
 refine callQ (t121 hti (by omega) _) ?_
 cases hc:(trk x.r).contains (L.g.getD n ([],0)).2 with
 |true=>
  simp(disch:=first|assumption|omega)only[W_block,P3,seval,initFr,clsA]
  exact hbad (formed_bad (by simp only[badB,gt,hc];simp)) (k0.trans k1) rfl
 |false=>
 have tN:=t32 (hx.keeps (k0.trans k1)) (by omega)
 simp only[row]at tN
 simp(disch:=first|assumption|omega|(simp only[LN]<;>omega)|(simp(disch:=first|assumption|omega|(simp only[LN]<;>omega))only[row_alloc,row_set];assumption))only[W_block,P3,seval,initFr,clsA,gr1]
 refine callK tN ?_
 rintro nv K2 ⟨hnv,k2,fnv⟩
 have ndl:(nds x.r).length≤32:=by simp[nds];omega
 simp(disch:=first|assumption|omega)only[W_block,P3,seval,initFr,clsA]
 refine callQ (t122 hnv (by omega)) ?_
 cases hnn:decide ((nds x.r).map (·.1)).Nodup with
 |false=>
  simp(disch:=first|assumption|omega)only[W_block,P3,seval,initFr,clsA]
  exact hbad (formed_bad (by simp only[badB,hnn];simp)) ((k0.trans k1).trans k2) rfl
 |true=>
 have kH:Keeps H K2:=(k0.trans k1).trans k2
 have hgood:badB L x.r=false:=by simp only[badB,pe,hpe,hnd,gt,hc,hnn];rfl
 have gl2:=k2.at_ gl1
 have gr2:=k2.at_ gr1
 have n2:=k2.n
 simp(disch:=first|assumption|omega)only[P3,seval,initFr,clsA,gl2,gr2,lp]
 rw[W_block]
 refine W_loop2 (fun k fr K=>∃A B i x6 x7 x8 x13 x14,fr=[A,B,ptr H.n 0,ptr (H.n+1) 0,.bool false,t,x6,x7,x8,.bool false,u.p,.int .i64 ((L.p.length:Nat):Int),.int .i64 ((i:Nat):Int),x13,x14]∧
  Keeps K2 K∧i≤L.p.length∧(List.range i).all (ptB L x.r)=true∧k=L.p.length-i) L.p.length
  ⟨_,_,0,_,_,_,_,_,rfl,Keeps.refl _,by omega,by simp,rfl⟩ ?_
 rintro Q' k fr K ⟨A,B,i,x6,x7,x8,x13,x14,rfl,kk,hi,hp,rfl⟩ hn' hx' hret
 by_cases hlt:i<L.p.length
 ·obtain⟨na,ra⟩:=(h.p.keeps (kH.trans kk)).at_ hlt
  have h0:(0:Int)≤(i:Int):=by omega
  have h1:(i:Int)<((L.p.length:Nat):Int):=by omega
  have hw:IntKind.i64.wrap ((i:Int)+1)=((i+1:Nat):Int):=by rw[wrap_i64 (by omega) (by omega)];simp
  have pdef:ptB L x.r i=(((trk x.r).contains (L.p.getD i ([],0)).2 ==x.r.pts.any (fun x=>x.1==(i:Int)))&& !((trk x.r).contains (L.p.getD i ([],0)).2 &&x.r.fl.any (fun x=>x.1==(i:Int)))):=rfl
  have bad:=fun e=>formed_at (L:=L) (r:=x.r) hlt e
  have good:ptB L x.r i=true→(List.range (i+1)).all (ptB L x.r)=true:=fun e=>by rw[List.range_succ,List.all_append,hp];simp[e]
  generalize L.p.getD i ([],0)=z at*
  have w1:one1 (Value.int .i64 z.2)=True:=by simp[one1,one_int]
  have w2:one1 (Value.string ⟨z.1.toArray⟩)=True:=by simp[one1,one_str]
  have kA:=(Keeps.refl K).alloc (.cells true false 2 [.string ⟨z.1.toArray⟩,.int .i64 z.2] 52)
  have gx:=AHeap.get_alloc_new K (.cells true false 2 [.string ⟨z.1.toArray⟩,.int .i64 z.2] 52)
  obtain⟨K3,hK3⟩:∃X,X=K.alloc (.cells true false 2 [.string ⟨z.1.toArray⟩,.int .i64 z.2] 52):=⟨_,rfl⟩
  have gr3:=(kk.trans kA).at_ gr2
  rw[←hK3]at gr3
  have hti3:IL K3 t (trk x.r):=by rw[hK3];exact((hti.keeps k2).keeps kk).keeps kA
  have hq3:NL K3 x.vq x.r.pts:=by rw[hK3];exact((hx.keeps kH).keeps (kk.trans kA)).q
  have hf3:NL K3 x.vf x.r.fl:=by rw[hK3];exact((hx.keeps kH).keeps (kk.trans kA)).f
  have k3:Keeps K2 K3:=by rw[hK3];exact kk.trans kA
  rw[←hK3]at gx
  simp(disch:=first|assumption|omega|(simp only[LN]<;>omega)|(simp(disch:=first|assumption|omega|(simp only[LN]<;>omega))only[row_alloc,row_set];assumption))only[W_block,P3,seval,initFr,clsA,lp,ra,na,a_loadnvf,w1,w2]
  simp only[←hK3]
  refine callQ (t121 hti3 (by omega) _) ?_
  simp(disch:=first|assumption|omega)only[W_block,P3,seval,initFr,clsA,gr3]
  refine callQ (t124 hq3 (by omega) _) ?_
  cases hin:(trk x.r).contains z.2 with
  |true=>
   cases hpt:x.r.pts.any (fun x=>x.1==(i:Int))with
   |true=>
    simp(disch:=first|assumption|omega)only[W_block,P3,seval,initFr,clsA,gr3]
    refine callQ (t124 hf3 (by omega) _) ?_
    cases hfl:x.r.fl.any (fun x=>x.1==(i:Int))with
    |true=>
     simp(disch:=first|assumption|omega)only[W_block,P3,seval,initFr,clsA]
     refine hret _ _ (hbad (bad (by rw[pdef,hin,hpt,hfl];rfl)) (kH.trans k3) rfl)
    |false=>
     simp(disch:=first|assumption|omega)only[W_block,P3,seval,initFr,clsA,hw]
     exact hn' _ _ _ ⟨_,_,i+1,_,_,_,_,_,rfl,k3,by omega,good (by rw[pdef,hin,hpt,hfl];rfl),rfl⟩ (by omega)
   |false=>
    simp(disch:=first|assumption|omega)only[W_block,P3,seval,initFr,clsA]
    refine hret _ _ (hbad (bad (by rw[pdef,hin,hpt];rfl)) (kH.trans k3) rfl)
  |false=>
   cases hpt:x.r.pts.any (fun x=>x.1==(i:Int))with
   |true=>
    simp(disch:=first|assumption|omega)only[W_block,P3,seval,initFr,clsA]
    refine hret _ _ (hbad (bad (by rw[pdef,hin,hpt];rfl)) (kH.trans k3) rfl)
   |false=>
    simp(disch:=first|assumption|omega)only[W_block,P3,seval,initFr,clsA,hw]
    exact hn' _ _ _ ⟨_,_,i+1,_,_,_,_,_,rfl,k3,by omega,good (by rw[pdef,hin,hpt];rfl),rfl⟩ (by omega)
 ·have h1:¬(i:Int)<((L.p.length:Nat):Int):=by omega
  have:i=L.p.length:=by omega
  subst this
  simp(disch:=first|assumption|omega)only[W_block,P3,seval,initFr,clsA,lp]
  refine hx' 1 _ _ ?_
  simp(disch:=first|assumption|omega)only[W_block,P3,seval,initFr,clsA]
  refine hq2 _ _ ⟨_,rfl,?_,kH.trans kk⟩
  simp[formedB,hgood,hp,tupV]
end Go.AM.Fd

namespace Go.AM.Fd
open Nat (reduceAdd reduceEqDiff reduceLT reduceLeDiff reduceMul reduceSub)
open Go.Proofs Go.AM.F
theorem may_lim{L:Ly}(h:mayB L=true):LyLim L:=by
 simp only[mayB,Bool.and_eq_true,Bool.not_eq_true']at h
 exact full_not h.1
theorem may_ro{L:Ly}(h:mayB L=true){r:Ro}(hr:r∈L.r):RoLim L r:=by
 simp only[mayB,Bool.and_eq_true]at h
 exact roB_lim (List.all_eq_true.1 h.2.2.2 r hr)
theorem t82{H:AHeap}{u:V4}{xs:List RV}{L:Ly}{x:RV}{b:Nat}{ob rb:Bool}{tb:Nat}(h:LyR H u xs L)(hx:x.ok H)(hr:RoLim L x.r)(hL:LyLim L)(gb:H.get b=some (.cells ob rb 4 u.l tb)):
 ∃w H',ARun Tryz.prog 0 82 [.agg x.row.toArray,ptr b 0] H w H'∧w=.bool (!formedB L x.r)∧H'=H:=by
 refine gcb ?_
 refine walk2 f82_ok f82_n ?_
 intro Q hq1 hq2
 have os:=Sl.one h.s
 have op:=Sl.one h.p
 have og:=Sl.one h.g
 have or:=Sl.one h.r
 have q1:one1 (Value.int .i64 x.r.g)=True:=by simp[one1,one_int]
 have q2:one1 (Value.string ⟨x.r.n.toArray⟩)=True:=by simp[one1,one_str]
 have q3:=one_isS (Sl.is hx.p)
 have q4:=one_isS (Sl.is hx.q)
 have q5:=one_isS (Sl.is hx.o)
 have q6:=one_isS (Sl.is hx.f)
 have lb:=AHeap.get_lt gb
 have kA:=(Keeps.refl H).alloc (.cells true false 6 x.row 49)
 have hf:=t83 (h.keeps kA) (hx.keeps kA) hr hL
 have row:x.row=[.string ⟨x.r.n.toArray⟩,.int .i64 x.r.g,x.vp,x.vq,x.vo,x.vf]:=rfl
 simp only[V4.l,row]at*
 simp(disch:=first|assumption|omega|(simp only[LN]<;>omega)|(simp(disch:=first|assumption|omega|(simp only[LN]<;>omega))only[row_alloc,row_set];assumption))only[f82,W_block,P3,seval,initFr,clsA,q1,q2,q3,q4,q5,q6,os,op,og,or,gb]
 refine callK hf ?_
 rintro _ _ ⟨rfl,rfl⟩
 simp(disch:=first|assumption|omega)only[W_block,P3,seval,initFr,clsA]
 exact hq2 _ _ ⟨_,rfl,rfl,kA⟩
def checkE(L:Ly):Int:=if mayB L then(if L.r.all (formedB L)then 0 else 50)else 2
theorem all_any_not{α:Type}(p:α→Bool)(l:List α):(l.any fun x=> !p x)= !l.all p:=by
 induction l with
 |nil=>rfl
 |cons a l ih=>simp[ih]
theorem t46{H:AHeap}{u:V4}{xs:List RV}{L:Ly}(h:LyR H u xs L)(hf:LyIn 9223372036854775807 L):
 ∃w H',ARun Tryz.prog 0 46 [.agg u.l.toArray] H w H'∧H'=H∧∃i,w=.tuple #[.int .i64 (checkE L),.int .i64 i]:=by
 suffices h':∃w H',ARun Tryz.prog 0 46 [.agg u.l.toArray] H w H'∧Keeps H H'∧∃i,w=.tuple #[.int .i64 (checkE L),.int .i64 i] by
  obtain⟨_,_,a,k,i,rfl⟩:=h'
  exact⟨_,_,a.gc0 k (.inr (.tuple _ _ rfl (fun i a b=>by
   match i,a with
   |0,_=>exact .int _ _
   |1,_=>exact .int _ _))),rfl,_,rfl⟩
 refine walk2 f46_ok f46_n ?_
 intro Q hq1 hq2
 have os:=Sl.one h.s
 have op:=Sl.one h.p
 have og:=Sl.one h.g
 have or:=Sl.one h.r
 have kA:=(Keeps.refl H).alloc (.cells true false 4 u.l 27)
 have gA:=AHeap.get_alloc_new H (.cells true false 4 u.l 27)
 have hm:=lMayA (h.keeps kA) hf
 have hA:=h.keeps kA
 simp only[V4.l]at*
 simp(disch:=first|assumption|omega|(simp only[LN]<;>omega)|(simp(disch:=first|assumption|omega|(simp only[LN]<;>omega))only[row_alloc,row_set];assumption))only[f46,W_block,P3,seval,initFr,clsA,os,op,og,or]
 refine callK hm ?_
 rintro _ X ⟨rfl,hX⟩
 rw[hX]
 unfold checkE at hq1 hq2
 cases hmay:mayB L with
 |false=>
  rw[hmay]at hq1 hq2
  simp(disch:=first|assumption|omega)only[W_block,P3,seval,initFr,clsA]
  exact hq2 _ _ ⟨_,rfl,kA,_,rfl⟩
 |true=>
 rw[hmay]at hq1 hq2
 have hl:=may_lim hmay
 have hrl:=h.rlen
 simp(disch:=first|assumption|omega)only[W_block,P3,seval,initFr,clsA]
 refine callK (t81 hA.r (by have:=hl.r;omega) (p:=fun y=> !formedB L y.r) (fun y hy=>t82 hA (hA.ok y hy) (may_ro hmay (by rw[←h.e];exact List.mem_map_of_mem hy)) hl (by simpa only[V4.l]using gA))) ?_
 rintro _ X ⟨hX,i,rfl,hi⟩
 rw[hX]
 have hany:decide (0≤i)= !L.r.all (formedB L):=by
  rw[hi,←h.e,List.all_map]
  exact all_any_not _ _
 by_cases h0:0≤i
 ·have e:L.r.all (formedB L)=false:=by simpa[h0]using hany
  rw[e]at hq1 hq2
  simp(disch:=first|assumption|omega)only[W_block,P3,seval,initFr,clsA]
  exact hq2 _ _ ⟨_,rfl,kA,_,rfl⟩
 ·have e:L.r.all (formedB L)=true:=by simpa[h0]using hany
  rw[e]at hq1 hq2
  simp(disch:=first|assumption|omega)only[W_block,P3,seval,initFr,clsA]
  exact hq2 _ _ ⟨_,rfl,kA,_,rfl⟩
end Go.AM.Fd

set_option maxRecDepth 8000
namespace Go.AM.Fd
open Nat (reduceAdd reduceEqDiff reduceLT reduceLeDiff reduceMul reduceSub)
open Go.Proofs Go.AM.F
def iEnc:Int→Value:=fun n=>.int .i64 n
def sidesM:List (Int×Bool)→List (Int×Value)
 |[]=>[]
 |x::l=>mput x.1 (.bool x.2) (sidesM l)
def sideO(p:Int)(l:List (Int×Bool)):Option Bool:=(l.find? fun x=>x.1==p).map (·.2)
theorem mfind_sides(p:Int):∀l,mfind p (sidesM l)=(sideO p l).map .bool
 |[]=>rfl
 |x::l=>by
  simp only[sidesM,mfind_mput,mfind_sides p l,sideO,List.find?_cons]
  by_cases h:p=x.1
  ·have e:(x.1==p)=true:=by simp[h]
   rw[if_pos h,e];rfl
  ·have e:(x.1==p)=false:=by simp;exact fun e=>h e.symm
   rw[if_neg h,e]
theorem t136{v:Value}{l:List (Int×Bool)}(J:Nat→AHeap→Prop){b p:Nat}(hl:l.length≤1000000)
 (hr:∀k H,J k H→H.get p=some (.cells true false 1 [v] 47)∧NL H v l)
 (hy:∀k H,(h:k<l.length)→J (k+1) H→∃w H',AYield Tryz.prog 0 b [.int .i64 (k:Nat),.agg (nRow l[k]).toArray] H w H'∧w=.bool true∧J k H')
 {H:AHeap} (h0:J l.length H):∃w H',ARun Tryz.prog 0 136 [.chan (some b),ptr p 0] H w H'∧J 0 H':=by
 refine walk2 f136_ok f136_n ?_
 intro Q hq1 hq2
 obtain⟨g1,s1⟩:=hr _ _ h0
 have iv:=Sl.is s1
 have lv:=s1.len
 have hw0:IntKind.i64.wrap (((l.length:Nat):Int)-1)=(l.length:Int)-1:=by rw[wrap_i64 (by omega) (by omega)]
 simp(disch:=first|assumption|omega)only[f136,P3,seval,initFr,clsA,g1,lv,hw0]
 rw[W_block]
 refine W_loop2 (fun k fr H=>∃x3 x4,fr=[.chan (some b),ptr p 0,.int .i64 ((k:Int)-1),x3,x4]∧J k H∧k≤l.length) l.length
  ⟨_,_,rfl,h0,Nat.le_refl _⟩ ?_
 rintro Q' k fr H ⟨x3,x4,rfl,hJ,hk⟩ hn hx hret
 cases k with
 |zero=>
  have e:¬(0:Int)≤((0:Nat):Int)-1:=by omega
  simp(disch:=first|assumption|omega)only[W_block,P3,seval,initFr,clsA]
  refine hx 0 _ _ ?_
  exact hq1 _ _ ⟨_,rfl,hJ⟩
 |succ k=>
  have e0:(((k+1:Nat):Int)-1)=(k:Int):=by omega
  obtain⟨g1,s1⟩:=hr _ _ hJ
  obtain⟨na,ra⟩:=s1.at_ (i:=k) (by omega)
  have h0:(0:Int)≤(k:Int):=by omega
  have h1:(k:Int)<((l.length:Nat):Int):=by omega
  have e1:l.getD k (0,false)=l[k]:=by simp[List.getD,List.getElem?_eq_getElem (show k<l.length by omega)]
  rw[e1]at ra
  have hy':=hy k H (by omega) hJ
  simp only[nRow]at hy'
  have hw:IntKind.i64.wrap ((k:Int)-1)=(k:Int)-1:=by rw[wrap_i64 (by omega) (by omega)]
  simp(disch:=first|assumption|omega)only[W_block,P3,seval,initFr,clsA,e0,g1,lv,na,ra,a_loadnvf,st_callvy]
  refine yieldK hy' ?_
  rintro _ H2 ⟨rfl,hJ2⟩
  simp(disch:=first|assumption|omega)only[W_block,P3,seval,initFr,clsA,hw]
  exact hn k _ _ ⟨_,_,rfl,hJ2,by omega⟩ (by omega)
theorem t135{H:AHeap}{v:Value}(hv:v.oneCell'=true):∃w H',ARun Tryz.prog 0 135 [v] H w H'∧w=.func (.func 136) #[] #[ptr H.n 0]∧H'=H.alloc (.cells true false 1 [v] 47):=by
 refine walk2 f135_ok f135_n ?_
 intro Q hq1 hq2
 have hc:v.cells.toList=[v]:=by rw[cells_one hv]
 simp(disch:=first|assumption|omega)only[f135,W_block,P3,seval,initFr,clsA,hc,hv]
 exact hq2 _ _ ⟨_,rfl,rfl,rfl⟩
structure SJ (B:AHeap) (L:LRec) (v:Value) (l:List (Int×Bool)) (mb vb bb rb:Nat) (k:Nat) (H:AHeap):Prop where
 keep:Keeps B H
 mvar:H.get vb=some (.cells true false 1 [.map (some mb)] 179)
 box:H.get bb=some (.cells true false 1 [v] 47)
 rec_:H.get rb=some (.loop true .ready none L)
 map:MP iEnc H mb (sidesM (l.drop k))
 sl:NL H v l
theorem SJ.round{B:AHeap}{v:Value}{l:List (Int×Bool)}{mb vb bb rb:Nat}{x0 x1 x2 x4 x5 x6 x7:Value}{k:Nat}{H:AHeap}(hk:k<l.length)(o1:B.n≤mb)(o2:mb<vb)(o3:vb<bb)(o4:bb<rb)(fr:Fresh (vb+1) v)(lo:∀b,blk v=some b→b<bb)
 (h:SJ B ⟨18,[0,1,2,3,5,9,10,11],[x0,x1,x2,ptr vb 0,x4,x5,x6,x7],#[10,11],rfA Tryz.prog 129 0,rfB Tryz.prog 129 0⟩ v l mb vb bb rb (k+1) H):
 ∃w H',AYield Tryz.prog 0 rb [.int .i64 (k:Nat),.agg (nRow l[k]).toArray] H w H'∧w=.bool true∧SJ B ⟨18,[0,1,2,3,5,9,10,11],[x0,x1,x2,ptr vb 0,x4,x5,x6,x7],#[10,11],rfA Tryz.prog 129 0,rfB Tryz.prog 129 0⟩ v l mb vb bb rb k H':=by
 obtain⟨L,hL⟩:∃L:LRec,(⟨18,[0,1,2,3,5,9,10,11],[x0,x1,x2,ptr vb 0,x4,x5,x6,x7],#[10,11],rfA Tryz.prog 129 0,rfB Tryz.prog 129 0⟩:LRec)=L:=⟨_,rfl⟩
 refine yield_of (R:=fun w H'=>w=.bool true∧SJ B _ v l mb vb bb rb k H') h.rec_ f129r0a_ok f129r0b_ok f129r0_n rfl rfl ?_
 show W Tryz.prog 0 f129r0a _ [x0,x1,x2,ptr vb 0,x4,x5,.int .i64 (k:Nat),.agg (nRow l[k]).toArray] H
 rw[hL]at h ⊢
 have hd:l.drop k=l[k]::l.drop (k+1):=List.drop_eq_getElem_cons hk
 generalize l[k]=x at*
 have q1:one1 (Value.int .i64 x.1)=True:=by simp[one1,one_int]
 have hrl:=AHeap.get_lt h.rec_
 have hml:=h.map.lt
 simp only[nRow]at*
 simp(disch:=first|assumption|omega|(simp only[LN]<;>omega)|(simp(disch:=first|assumption|omega|(simp only[LN]<;>omega))only[row_alloc,row_set];assumption))only[f129r0a,W_block,P3,seval,initFr,clsA,q1]
 refine⟨none,L,h.rec_,?_⟩
 obtain⟨H1,hH1⟩:∃X,X=H.set rb (.loop true .busy none L):=⟨_,rfl⟩
 have n1:H1.n=H.n:=by rw[hH1];rfl
 have c2:Chg [rb] H H1:=by rw[hH1];exact Chg.set H hrl _
 have gr1:H1.get rb=some (.loop true .busy none L):=by rw[hH1];exact AHeap.get_set_same h.rec_ _
 rw[←hH1,←n1]
 have kA:=(Keeps.refl H1).alloc (.cells true false 2 [.int .i64 x.1,.bool x.2] 55)
 have gx2:=AHeap.get_alloc_new H1 (.cells true false 2 [.int .i64 x.1,.bool x.2] 55)
 obtain⟨H2,hH2⟩:∃X,X=H1.alloc (.cells true false 2 [.int .i64 x.1,.bool x.2] 55):=⟨_,rfl⟩
 rw[←hH2]at kA gx2 ⊢
 have n2:H2.n=H1.n+1:=by rw[hH2];rfl
 have gm:H2.get vb=some (.cells true false 1 [.map (some mb)] 179):=kA.at_ (c2.at_ h.mvar (by simp;omega))
 have mp2:MP iEnc H2 mb (sidesM (l.drop (k+1))):=h.map.get (by rw[kA.get mb (by omega),c2.get mb (by omega) (by simp;omega)])
 obtain⟨o,s1,s2⟩:=a_mset encInt mp2 x.1 (x:=.bool x.2) rfl
 have s1':asem (.mset (.int .i64) (.map (some mb)) (.int .i64 x.1) (.bool x.2)) H2=some (undef,H2.set mb o):=s1
 simp(disch:=first|assumption|omega)only[f129r0b,W_block,P3,seval,initFr,clsA,gm,gx2,st_mset,s1']
 have c3:Chg [mb] H2 (H2.set mb o):=Chg.set H2 (by omega) _
 have gr3:(H2.set mb o).get rb=some (.loop true .busy none L):=c3.at_ (kA.at_ gr1) (by simp;omega)
 unfold roundQ
 rw[gr3]
 refine⟨rfl,?_⟩
 obtain⟨H3,hH3⟩:∃X,X=H2.set mb o:=⟨_,rfl⟩
 rw[←hH3]at c3 gr3 s2 ⊢
 have n3:H3.n=H2.n:=by rw[hH3];rfl
 have c4:Chg [rb] H3 (H3.set rb (.loop true .ready none L)):=Chg.set H3 (by omega) _
 refine⟨?_,c4.at_ (c3.at_ gm (by simp;omega)) (by simp;omega),c4.at_ (c3.at_ (kA.at_ (c2.at_ h.box (by simp;omega))) (by simp;omega)) (by simp;omega),AHeap.get_set_same gr3 _,?_,?_⟩
 ·exact(((h.keep.chg_trans c2 (by simp;omega)).trans kA).chg_trans c3 (by simp;omega)).chg_trans c4 (by simp;omega)
 ·rw[hd]
  exact MP.get s2 (c4.get mb (by omega) (by simp;omega))
 ·have hb:∀b,blk v=some b→b≠rb∧b≠mb:=fun b e=>by have:=fr b e;have:=lo b e;omega
  exact Sl.chg (Sl.chg (Sl.keeps (Sl.chg h.sl c2 (fun b e=>by have:=hb b e;simp;omega)) kA) c3 (fun b e=>by have:=hb b e;simp;omega)) c4 (fun b e=>by have:=hb b e;simp;omega)
set_option maxHeartbeats 1000000 in
theorem t129{H:AHeap}{x:RV}(hx:x.ok H)(hl:x.r.pts.length+x.r.fl.length≤1000000):
 ∃w H',ARun Tryz.prog 0 129 [.agg x.row.toArray] H w H'∧Keeps H H'∧∃mb,w=.map (some mb)∧H.n≤mb∧MP iEnc H' mb (sidesM (nds x.r)):=by
 refine walk2 f129_ok f129_n ?_
 intro Q hq1 hq2
 have q1:one1 (Value.int .i64 x.r.g)=True:=by simp[one1,one_int]
 have q2:one1 (Value.string ⟨x.r.n.toArray⟩)=True:=by simp[one1,one_str]
 have q3:=one_isS (Sl.is hx.p)
 have q4:=one_isS (Sl.is hx.q)
 have q5:=one_isS (Sl.is hx.o)
 have q6:=one_isS (Sl.is hx.f)
 have row:x.row=[.string ⟨x.r.n.toArray⟩,.int .i64 x.r.g,x.vp,x.vq,x.vo,x.vf]:=rfl
 obtain⟨K0,hK0⟩:∃X,X=((H.alloc (.cells true false 6 x.row 49)).alloc (.obj true (.map #[] 0))).alloc (.cells true false 1 [.map (some (H.n+1))] 179):=⟨_,rfl⟩
 have n0:K0.n=H.n+3:=by rw[hK0];rfl
 have k0:Keeps H K0:=by rw[hK0];exact(((Keeps.refl H).alloc _).alloc _).alloc _
 have g0:K0.get (H.n+2)=some (.cells true false 1 [.map (some (H.n+1))] 179):=by rw[hK0];exact AHeap.get_alloc_new ((H.alloc _).alloc _) _
 have m0:MP iEnc K0 (H.n+1) []:=by
  have:=MP.new (enc:=iEnc) (H.alloc (.cells true false 6 x.row 49))
  refine this.get ?_
  rw[hK0]
  exact((Keeps.refl ((H.alloc (.cells true false 6 x.row 49)).alloc (.obj true (.map #[] 0)))).alloc _).get _ (by simp[AHeap.alloc])
 have tN:=t32 (hx.keeps k0) hl
 simp only[row]at*
 simp(disch:=first|assumption|omega|(simp only[LN]<;>omega)|(simp(disch:=first|assumption|omega|(simp only[LN]<;>omega))only[row_alloc,row_set];assumption))only[f129,W_block,P3,seval,initFr,clsA,q1,q2,q3,q4,q5,q6,st_mkmap,a_mkmap]
 simp only[←hK0]
 refine callK tN ?_
 rintro v K1 ⟨hv,k1,fv⟩
 have n1:=k1.n
 have hvs:NL K1 v (nds x.r):=hv.sl
 have ndl:(nds x.r).length≤1000000:=by simp[nds];omega
 have ov:=Sl.one hvs
 simp(disch:=first|assumption|omega)only[W_block,P3,seval,initFr,clsA]
 refine callK (t135 ov) ?_
 rintro _ K2 ⟨rfl,hK2⟩
 have kB:=(Keeps.refl K1).alloc (.cells true false 1 [v] 47)
 have gB:=AHeap.get_alloc_new K1 (.cells true false 1 [v] 47)
 rw[←hK2]at kB gB
 have n2:K2.n=K1.n+1:=by rw[hK2];rfl
 simp(disch:=first|assumption|omega)only[W_block,P3,seval,initFr,clsA]
 refine W_rangeF rfl (bodied_of (by kernel_rfl)) ?_
 obtain⟨L,hL⟩:∃L:LRec,L=⟨18,[0,1,2,3,5,9,10,11],[.agg #[.string ⟨x.r.n.toArray⟩,.int .i64 x.r.g,x.vp,x.vq,x.vo,x.vf],ptr H.n 0,.map none,ptr (H.n+2) 0,undef,.func (.func 136) #[] #[ptr K1.n 0],undef,undef],#[10,11],rfA Tryz.prog 129 0,rfB Tryz.prog 129 0⟩:=⟨_,rfl⟩
 have kL:=(Keeps.refl K2).alloc (.loop true .ready none L)
 have gL:=AHeap.get_alloc_new K2 (.loop true .ready none L)
 have kH:Keeps H K2:=(k0.trans k1).trans kB
 have h0:SJ H L v (nds x.r) (H.n+1) (H.n+2) K1.n K2.n (nds x.r).length (K2.alloc (.loop true .ready none L)):=
  ⟨kH.trans kL,kL.at_ (kB.at_ (k1.at_ g0)),kL.at_ gB,gL,by
   rw[List.drop_length]
   exact m0.get (by rw[kL.get _ (by omega),kB.get _ (by omega),k1.get _ (by omega)]),(hvs.keeps kB).keeps kL⟩
 have lo:∀b,blk v=some b→b<K1.n:=fun b e=>hv.1.lt e
 have rd:∀k X,(hk:k<(nds x.r).length)→SJ H L v (nds x.r) (H.n+1) (H.n+2) K1.n K2.n (k+1) X→∃w H',AYield Tryz.prog 0 K2.n [.int .i64 (k:Nat),.agg (nRow (nds x.r)[k]).toArray] X w H'∧w=.bool true∧SJ H L v (nds x.r) (H.n+1) (H.n+2) K1.n K2.n k H':=by
  rw[hL]
  intro k X hk hJ
  exact hJ.round hk (by omega) (by omega) (by omega) (by omega) (fun b e=>by have:=fv b e;omega) lo
 obtain⟨w,K3,a3,j3⟩:=t136 (SJ H L v (nds x.r) (H.n+1) (H.n+2) K1.n K2.n) ndl (fun k X hJ=>⟨hJ.box,hJ.sl⟩) rd h0
 rw[hL]at a3 j3
 refine⟨_,_,a3,afterR_ready j3.rec_ ?_⟩
 have hrl:=AHeap.get_lt j3.rec_
 have c4:Chg [K2.n] K3 (K3.set K2.n .dead):=Chg.set K3 hrl _
 obtain⟨K4,hK4⟩:∃X,X=K3.set K2.n .dead:=⟨_,rfl⟩
 rw[←hK4]at c4 ⊢
 have g4:=c4.at_ j3.mvar (by simp;omega)
 simp(disch:=first|assumption|omega)only[W_block,P3,seval,initFr,clsA,g4]
 refine hq2 _ _ ⟨_,rfl,j3.keep.chg_trans c4 (by simp;have:=kH.n;omega),H.n+1,rfl,by omega,?_⟩
 exact MP.get (by simpa using j3.map) (c4.get _ (by have:=j3.map.lt;omega) (by simp;omega))
end Go.AM.Fd

set_option maxRecDepth 8000
namespace Go.AM.Fd
open Nat (reduceAdd reduceEqDiff reduceLT reduceLeDiff reduceMul reduceSub)
open Go.Proofs Go.AM.F
def cPt(L:Ly)(a b:Ro)(p:Nat):Bool:=
 let x:=sideO p (nds a);let y:=sideO p (nds b);let s:=(L.p.getD p ([],0)).2
 (x.isSome&&y.isSome||x.isSome&&(trk b).contains s||y.isSome&&(trk a).contains s)&& !(x==y)
def confB(L:Ly)(a b:Ro):Bool:=a.g==b.g||(trk a).any (fun s=>(trk b).contains s)||(List.range L.p.length).any (cPt L a b)
theorem mp_side{H:AHeap}{mb:Nat}{l:List (Int×Bool)}(h:MP iEnc H mb (sidesM l))(p:Nat):
 asem (.mget (.int .i64) (.bool false) true (.map (some mb)) (.int .i64 (p:Nat))) H=some (.tuple #[.bool ((sideO p l).getD false),.bool (sideO p l).isSome],H):=by
 have:=a_mget encInt h (p:Int) (.bool false) true
 rw[mfind_sides]at this
 refine this.trans ?_
 cases sideO (p:Int) l<;>rfl
set_option maxHeartbeats 8000000 in
theorem t128{u:V4}{xs:List RV}{L:Ly}{a b:RV}(J Jx:AHeap→Prop){rb pa pb pl:Nat}(la:RoLim L a.r)(lb:RoLim L b.r)(hL:LyLim L)
 (hr:∀H,J H→rb<H.n∧H.get pa=some (.cells true false 6 a.row 49)∧H.get pb=some (.cells true false 6 b.row 49)∧H.get pl=some (.cells true false 4 u.l 27)∧LyR H u xs L∧a.ok H∧b.ok H)
 (hk:∀H H',J H→Keeps H H'→J H')
 (hy:∀H v,J H→∃w H',AYield Tryz.prog 0 rb [.bool v] H w H'∧w=.bool (!v)∧(v=true→Jx H')∧(v=false→J H'∧Chg [rb] H H'))
 {H:AHeap} (h0:J H):∃w H',ARun Tryz.prog 0 128 [.chan (some rb),ptr pa 0,ptr pb 0,ptr pl 0] H w H'∧(confB L a.r b.r=true→Jx H')∧(confB L a.r b.r=false→J H'):=by
 refine walk2 f128_ok f128_n ?_
 intro Q hq1 hq2
 obtain⟨lr,ga,gb,gl,hly,oa,ob⟩:=hr _ h0
 have lP:=la.p
 have lO:=la.o
 have lQ:=la.q
 have lF:=la.f
 have mP:=lb.p
 have mO:=lb.o
 have mQ:=lb.q
 have mF:=lb.f
 have rowa:a.row=[.string ⟨a.r.n.toArray⟩,.int .i64 a.r.g,a.vp,a.vq,a.vo,a.vf]:=rfl
 have rowb:b.row=[.string ⟨b.r.n.toArray⟩,.int .i64 b.r.g,b.vp,b.vq,b.vo,b.vf]:=rfl
 have ga':=ga
 have gb':=gb
 rw[rowa]at ga'
 rw[rowb]at gb'
 have stop:confB L a.r b.r=true→∀{K:AHeap} {fr:List Value},Jx K→Q .ret fr K:=fun e K fr j=>hq2 _ _ ⟨_,rfl,fun _=>j,fun e2=>by rw[e]at e2;cases e2⟩
 simp(disch:=first|assumption|omega)only[f128,W_block,P3,seval,initFr,clsA,ga',gb',st_callvy]
 refine yieldK (hy _ _ h0) ?_
 rintro _ K ⟨rfl,y1,y2⟩
 cases hg:(a.r.g==b.r.g)with
 |true=>
  simp(disch:=first|assumption|omega)only[W_block,P3,seval,initFr,clsA]
  exact stop (by simp only[confB,hg,Bool.true_or]) (y1 hg)
 |false=>
 obtain⟨jK,cK⟩:=y2 hg
 clear y1 y2 ga gb gl hly oa ob ga' gb'
 obtain⟨lr1,ga,gb,gl,hly,oa,ob⟩:=hr _ jK
 have ga':=ga
 have gb':=gb
 rw[rowa]at ga'
 rw[rowb]at gb'
 have tT:=t30 oa (by omega)
 have tU:=fun K' (k:Keeps K K')=>t30 (ob.keeps k) (by omega)
 rw[rowa]at tT
 simp only[rowb]at tU
 simp(disch:=first|assumption|omega|(simp only[LN]<;>omega)|(simp(disch:=first|assumption|omega|(simp only[LN]<;>omega))only[row_alloc,row_set];assumption))only[W_block,P3,seval,initFr,clsA,ga',gb']
 refine callK tT ?_
 rintro t K1 ⟨ht,k1,ft⟩
 have gb1:=k1.at_ gb'
 have lb1:=AHeap.get_lt gb
 have n1:=k1.n
 simp(disch:=first|assumption|omega|(simp only[LN]<;>omega)|(simp(disch:=first|assumption|omega|(simp only[LN]<;>omega))only[row_alloc,row_set];assumption))only[W_block,P3,seval,initFr,clsA,gb1]
 refine⟨gb'.symm,callK (tU _ k1) ?_⟩
 rintro w K2 ⟨hw,k2,fw⟩
 have k12:=k1.trans k2
 have hti:IL K2 t (trk a.r):=ht.sl.keeps k2
 have hwi:IL K2 w (trk b.r):=hw.sl
 have tl:(trk a.r).length≤32:=by simp[trk];omega
 have wl:(trk b.r).length≤32:=by simp[trk];omega
 have j2:=hk _ _ jK k12
 have ftw:∀{S T:AHeap} {l:List Int} {z:Value},z=t∨z=w→Chg [rb] S T→IL S z l→IL T z l:=fun hz c h=>Sl.chg h c (fun y e=>by
  have:K.n≤y:=by
   rcases hz with rfl|rfl
   ·exact ft y e
   ·have:=fw y e;omega
  simp;omega)
 have iT:=Sl.is hti
 have lT:=hti.len
 clear tT tU gb1 lb1 ga gb gl hly oa ob ga' gb'
 simp(disch:=first|assumption|omega)only[P3,seval,initFr,clsA,lT]
 rw[W_block]
 refine W_loop2 (fun k fr M=>∃i x6 x7 x8 x9 x10 x11 x12 x13 x14 x15 x16 x21 x22 x23 x24 x25 x26 x27,fr=[.chan (some rb),ptr pa 0,ptr pb 0,ptr pl 0,t,w,x6,x7,x8,x9,x10,x11,x12,x13,x14,x15,x16,.bool false,t,.int .i64 (((trk a.r).length:Nat):Int),.int .i64 ((i:Nat):Int),x21,x22,x23,x24,x25,x26,x27]∧
  J M∧K2.n≤M.n∧IL M t (trk a.r)∧IL M w (trk b.r)∧i≤(trk a.r).length∧((trk a.r).take i).any (fun s=>(trk b.r).contains s)=false∧k=(trk a.r).length - i) (trk a.r).length
  ⟨0,_,_,_,_,_,_,_,_,_,_,_,_,_,_,_,_,_,_,rfl,j2,Nat.le_refl _,hti,hwi,by omega,by simp,rfl⟩ ?_
 rintro Q' k fr M ⟨i,x6,x7,x8,x9,x10,x11,x12,x13,x14,x15,x16,x21,x22,x23,x24,x25,x26,x27,rfl,jM,nM,hti,hwi,hi,hp,rfl⟩ hn hx hret
 by_cases hlt:i<(trk a.r).length
 ·obtain⟨na,ra⟩:=hti.at_ hlt
  have h0:(0:Int)≤(i:Int):=by omega
  have h1:(i:Int)<(((trk a.r).length:Nat):Int):=by omega
  have hw1:IntKind.i64.wrap ((i:Int)+1)=((i+1:Nat):Int):=by rw[wrap_i64 (by omega) (by omega)];simp
  have e1:(trk a.r).getD i 0=(trk a.r)[i]:=by simp[List.getD,List.getElem?_eq_getElem hlt]
  have tk:((trk a.r).take (i+1)).any (fun s=>(trk b.r).contains s)=(trk b.r).contains (trk a.r)[i]:=by rw[List.take_succ_eq_append_getElem hlt,List.any_append,hp];simp
  have an:(trk b.r).contains (trk a.r)[i]=true→confB L a.r b.r=true:=fun e=>by
   have:(trk a.r).any (fun s=>(trk b.r).contains s)=true:=List.any_eq_true.2 ⟨_,List.getElem_mem hlt,e⟩
   simp only[confB,this,Bool.or_true,Bool.true_or]
  rw[e1]at ra
  generalize(trk a.r)[i]=s at*
  simp(disch:=first|assumption|omega)only[W_block,P3,seval,initFr,clsA,lT,na,ra,a_load1v]
  refine callQ (t121 hwi (by omega) s) ?_
  simp(disch:=first|assumption|omega)only[W_block,P3,seval,initFr,clsA,st_callvy]
  refine yieldK (hy _ _ jM) ?_
  rintro _ M2 ⟨rfl,y1,y2⟩
  cases hc:(trk b.r).contains s with
  |true=>
   simp(disch:=first|assumption|omega)only[W_block,P3,seval,initFr,clsA]
   exact hret _ _ (stop (an hc) (y1 hc))
  |false=>
   obtain⟨jM2,c2⟩:=y2 hc
   simp(disch:=first|assumption|omega)only[W_block,P3,seval,initFr,clsA,hw1]
   exact hn _ _ _ ⟨i+1,_,_,_,_,_,_,_,_,_,_,_,_,_,_,_,_,_,_,rfl,jM2,Nat.le_trans nM c2.n,ftw (.inl rfl) c2 hti,ftw (.inr rfl) c2 hwi,by omega,by rw[tk,hc],rfl⟩ (by omega)
 have h1:¬(i:Int)<(((trk a.r).length:Nat):Int):=by omega
 rw[List.take_of_length_le (by omega)]at hp
 simp(disch:=first|assumption|omega)only[W_block,P3,seval,initFr,clsA,lT]
 refine hx 0 _ _ ?_
 clear hn hret
 obtain⟨lr2,ga,gb,gl,hly,oa,ob⟩:=hr _ jM
 have ga':=ga
 have gb':=gb
 rw[rowa]at ga'
 rw[rowb]at gb'
 have tT:=t129 oa (by omega)
 have tU:=fun K' (k:Keeps M K')=>t129 (ob.keeps k) (by omega)
 rw[rowa]at tT
 simp only[rowb]at tU
 simp(disch:=first|assumption|omega|(simp only[LN]<;>omega)|(simp(disch:=first|assumption|omega|(simp only[LN]<;>omega))only[row_alloc,row_set];assumption))only[W_block,P3,seval,initFr,clsA,ga',gb']
 refine callK tT ?_
 rintro _ M1 ⟨km1,ma,rfl,nma,hma⟩
 have gb1:=km1.at_ gb'
 have lb1:=AHeap.get_lt gb
 simp(disch:=first|assumption|omega|(simp only[LN]<;>omega)|(simp(disch:=first|assumption|omega|(simp only[LN]<;>omega))only[row_alloc,row_set];assumption))only[W_block,P3,seval,initFr,clsA,gb1]
 refine⟨gb'.symm,callK (tU _ km1) ?_⟩
 rintro _ M2 ⟨km2,mb,rfl,nmb,hmb⟩
 --LOOP2
 have km12:=km1.trans km2
 have jM2:=hk _ _ jM km12
 have hti2:IL M2 t (trk a.r):=hti.keeps km12
 have hwi2:IL M2 w (trk b.r):=hwi.keeps km12
 have hma2:MP iEnc M2 ma (sidesM (nds a.r)):=hma.get (km2.get _ hma.lt)
 have l1:=km1.n
 have l2:=km2.n
 have hKM:K.n≤M.n:=Nat.le_trans k12.n nM
 have gl2:=km12.at_ gl
 have lpp:=hL.p
 have ip:=Sl.is hly.p
 have lp:=hly.p.len
 clear tT tU gb1 lb1 ga gb oa ob ga' gb'
 simp only[V4.l]at gl2
 have lrb:rb<K.n:=lr1
 refine⟨trivial,?_⟩
 simp(disch:=first|assumption|omega)only[P3,seval,initFr,clsA,gl2,lp]
 rw[W_block]
 clear hti hwi jM gl hly hx hi hlt h1
 refine W_loop2 (fun k fr X=>∃j y6 y9 y10 y11 y12 y13 y14 y15 y16 y17 y20 y21 y22 y26 y27,fr=[.chan (some rb),ptr pa 0,ptr pb 0,ptr pl 0,t,w,y6,.map (some ma),.map (some mb),y9,y10,y11,y12,y13,y14,y15,y16,y17,t,.int .i64 (((trk a.r).length:Nat):Int),y20,y21,y22,u.p,.int .i64 ((L.p.length:Nat):Int),.int .i64 ((j:Nat):Int),y26,y27]∧
  J X∧M2.n≤X.n∧IL X t (trk a.r)∧IL X w (trk b.r)∧MP iEnc X ma (sidesM (nds a.r))∧MP iEnc X mb (sidesM (nds b.r))∧j≤L.p.length∧(List.range j).any (cPt L a.r b.r)=false∧k=L.p.length-j) L.p.length
  ⟨0,_,_,_,_,_,_,_,_,_,_,_,_,_,_,_,rfl,jM2,Nat.le_refl _,hti2,hwi2,hma2,hmb,by omega,by simp,rfl⟩ ?_
 rintro Q' k fr X ⟨j,y6,y9,y10,y11,y12,y13,y14,y15,y16,y17,y20,y21,y22,y26,y27,rfl,jX,nX,hti,hwi,hma,hmb,hi,hp2,rfl⟩ hn hx hret
 obtain⟨_,_,_,_,hly,_,_⟩:=hr _ jX
 by_cases hlt:j<L.p.length
 ·obtain⟨na,ra⟩:=hly.p.at_ hlt
  have h0:(0:Int)≤(j:Int):=by omega
  have h1:(j:Int)<((L.p.length:Nat):Int):=by omega
  have hw1:IntKind.i64.wrap ((j:Int)+1)=((j+1:Nat):Int):=by rw[wrap_i64 (by omega) (by omega)];simp
  have pdef:cPt L a.r b.r j=((((sideO j (nds a.r)).isSome&&(sideO j (nds b.r)).isSome||(sideO j (nds a.r)).isSome&&(trk b.r).contains (L.p.getD j ([],0)).2)||(sideO j (nds b.r)).isSome&&(trk a.r).contains (L.p.getD j ([],0)).2)&& !(sideO j (nds a.r)==sideO j (nds b.r))):=rfl
  have bad:cPt L a.r b.r j=true→confB L a.r b.r=true:=fun e=>by
   have:(List.range L.p.length).any (cPt L a.r b.r)=true:=List.any_eq_true.2 ⟨j,List.mem_range.2 hlt,e⟩
   simp only[confB,this,Bool.or_true]
  have good:cPt L a.r b.r j=false→(List.range (j+1)).any (cPt L a.r b.r)=false:=fun e=>by rw[List.range_succ,List.any_append,hp2];simp[e]
  have sa:=fun(Y:AHeap) (k:Keeps X Y)=>mp_side (hma.get (k.get _ hma.lt)) j
  have sb:=fun(Y:AHeap) (k:Keeps X Y)=>mp_side (hmb.get (k.get _ hmb.lt)) j
  generalize L.p.getD j ([],0)=z at*
  have w1:one1 (Value.int .i64 z.2)=True:=by simp[one1,one_int]
  have w2:one1 (Value.string ⟨z.1.toArray⟩)=True:=by simp[one1,one_str]
  have kA:=(Keeps.refl X).alloc (.cells true false 2 [.string ⟨z.1.toArray⟩,.int .i64 z.2] 52)
  have gx:=AHeap.get_alloc_new X (.cells true false 2 [.string ⟨z.1.toArray⟩,.int .i64 z.2] 52)
  obtain⟨X1,hX1⟩:∃Y,Y=X.alloc (.cells true false 2 [.string ⟨z.1.toArray⟩,.int .i64 z.2] 52):=⟨_,rfl⟩
  rw[←hX1]at kA gx
  have jX1:=hk _ _ jX kA
  have ht1:IL X1 t (trk a.r):=hti.keeps kA
  have hw2:IL X1 w (trk b.r):=hwi.keeps kA
  have ca:=sa _ kA
  have cb:=sb _ kA
  have nX1:X.n≤X1.n:=kA.n
  have nxt:∀X2,J X2→Chg [rb] X1 X2→cPt L a.r b.r j=false→∀z6 z9 z10 z11 z12 z13 z14 z15 z16 z17 z20 z21 z22 z26 z27,∃j' y6 y9 y10 y11 y12 y13 y14 y15 y16 y17 y20 y21 y22 y26 y27,[.chan (some rb),ptr pa 0,ptr pb 0,ptr pl 0,t,w,z6,.map (some ma),.map (some mb),z9,z10,z11,z12,z13,z14,z15,z16,z17,t,.int .i64 (((trk a.r).length:Nat):Int),z20,z21,z22,u.p,.int .i64 ((L.p.length:Nat):Int),.int .i64 ((j+1:Nat):Int),z26,z27]=[.chan (some rb),ptr pa 0,ptr pb 0,ptr pl 0,t,w,y6,.map (some ma),.map (some mb),y9,y10,y11,y12,y13,y14,y15,y16,y17,t,.int .i64 (((trk a.r).length:Nat):Int),y20,y21,y22,u.p,.int .i64 ((L.p.length:Nat):Int),.int .i64 ((j':Nat):Int),y26,y27]∧
   J X2∧M2.n≤X2.n∧IL X2 t (trk a.r)∧IL X2 w (trk b.r)∧MP iEnc X2 ma (sidesM (nds a.r))∧MP iEnc X2 mb (sidesM (nds b.r))∧j'≤L.p.length∧(List.range j').any (cPt L a.r b.r)=false∧L.p.length-(j+1)=L.p.length-j':=by
   intro X2 jX2 c2 hc
   intros
   have hma1:=hma.get (kA.get _ hma.lt)
   have hmb1:=hmb.get (kA.get _ hmb.lt)
   exact⟨j+1,_,_,_,_,_,_,_,_,_,_,_,_,_,_,_,rfl,jX2,by have:=c2.n;omega,ftw (.inl rfl) c2 ht1,ftw (.inr rfl) c2 hw2,hma1.get (c2.get _ hma1.lt (by simp;omega)),hmb1.get (c2.get _ hmb1.lt (by simp;omega)),by omega,good hc,rfl⟩
  clear sa sb
  simp(disch:=first|assumption|omega|(simp only[LN]<;>omega)|(simp(disch:=first|assumption|omega|(simp only[LN]<;>omega))only[row_alloc,row_set];assumption))only[W_block,P3,seval,initFr,clsA,lp,na,ra,a_loadnvf,w1,w2]
  simp only[←hX1]
  generalize sideO (j:Int) (nds a.r)=x at*
  generalize sideO (j:Int) (nds b.r)=y at*
  cases x with
  |none=>
   cases y with
   |none=>
    have hc:=True.intro
    simp only[Option.getD_none,Option.isSome_none]at ca cb
    simp(disch:=first|assumption|omega)only[W_block,P3,seval,initFr,clsA,st_mget,ca,cb,gx,st_callvy]
    refine yieldK (hy _ _ jX1) ?_
    rintro _ X2 ⟨rfl,y1,y2⟩
    obtain⟨jX2,c2⟩:=y2 rfl
    simp(disch:=first|assumption|omega)only[W_block,P3,seval,initFr,clsA,hw1]
    exact hn _ _ _ (nxt X2 jX2 c2 (by rw[pdef];first|rfl|(rw[hc];rfl)|(simp only[hc];simp)) _ _ _ _ _ _ _ _ _ _ _ _ _ _ _) (by omega)
   |some q=>
    simp only[Option.getD_none,Option.isSome_none,Option.getD_some,Option.isSome_some]at ca cb
    simp(disch:=first|assumption|omega)only[W_block,P3,seval,initFr,clsA,st_mget,ca,cb,gx,st_callvy]
    refine callQ (t121 ht1 (by omega) z.2) ?_
    cases hc:(trk a.r).contains z.2 with
    |true=>
     simp(disch:=first|assumption|omega)only[W_block,P3,seval,initFr,clsA,st_callvy]
     refine yieldK (hy _ _ jX1) ?_
     rintro _ X2 ⟨rfl,y1,y2⟩
     simp(disch:=first|assumption|omega)only[W_block,P3,seval,initFr,clsA]
     exact hret _ _ (stop (bad (by rw[pdef];first|rfl|(rw[hc];rfl)|(simp only[hc];simp))) (y1 rfl))
    |false=>
     simp(disch:=first|assumption|omega)only[W_block,P3,seval,initFr,clsA,st_callvy]
     refine yieldK (hy _ _ jX1) ?_
     rintro _ X2 ⟨rfl,y1,y2⟩
     obtain⟨jX2,c2⟩:=y2 rfl
     simp(disch:=first|assumption|omega)only[W_block,P3,seval,initFr,clsA,hw1]
     exact hn _ _ _ (nxt X2 jX2 c2 (by rw[pdef];first|rfl|(rw[hc];rfl)|(simp only[hc];simp)) _ _ _ _ _ _ _ _ _ _ _ _ _ _ _) (by omega)
  |some p=>
   cases y with
   |none=>
    simp only[Option.getD_none,Option.isSome_none,Option.getD_some,Option.isSome_some]at ca cb
    simp(disch:=first|assumption|omega)only[W_block,P3,seval,initFr,clsA,st_mget,ca,cb,gx,st_callvy]
    refine callQ (t121 hw2 (by omega) z.2) ?_
    cases hc:(trk b.r).contains z.2 with
    |true=>
     simp(disch:=first|assumption|omega)only[W_block,P3,seval,initFr,clsA,st_callvy]
     refine yieldK (hy _ _ jX1) ?_
     rintro _ X2 ⟨rfl,y1,y2⟩
     simp(disch:=first|assumption|omega)only[W_block,P3,seval,initFr,clsA]
     exact hret _ _ (stop (bad (by rw[pdef];first|rfl|(rw[hc];rfl)|(simp only[hc];simp))) (y1 rfl))
    |false=>
     simp(disch:=first|assumption|omega)only[W_block,P3,seval,initFr,clsA,st_callvy]
     refine yieldK (hy _ _ jX1) ?_
     rintro _ X2 ⟨rfl,y1,y2⟩
     obtain⟨jX2,c2⟩:=y2 rfl
     simp(disch:=first|assumption|omega)only[W_block,P3,seval,initFr,clsA,hw1]
     exact hn _ _ _ (nxt X2 jX2 c2 (by rw[pdef];first|rfl|(rw[hc];rfl)|(simp only[hc];simp)) _ _ _ _ _ _ _ _ _ _ _ _ _ _ _) (by omega)
   |some q=>
    simp only[Option.getD_some,Option.isSome_some]at ca cb
    have hc:=True.intro
    cases p with
    |true=>
     cases q with
     |true=>
      simp(disch:=first|assumption|omega)only[W_block,P3,seval,initFr,clsA,st_mget,ca,cb,gx,st_callvy]
      refine yieldK (hy _ _ jX1) ?_
      rintro _ X2 ⟨rfl,y1,y2⟩
      obtain⟨jX2,c2⟩:=y2 rfl
      simp(disch:=first|assumption|omega)only[W_block,P3,seval,initFr,clsA,hw1]
      exact hn _ _ _ (nxt X2 jX2 c2 (by rw[pdef];first|rfl|(rw[hc];rfl)|(simp only[hc];simp)) _ _ _ _ _ _ _ _ _ _ _ _ _ _ _) (by omega)
     |false=>
      simp(disch:=first|assumption|omega)only[W_block,P3,seval,initFr,clsA,st_mget,ca,cb,gx,st_callvy]
      refine yieldK (hy _ _ jX1) ?_
      rintro _ X2 ⟨rfl,y1,y2⟩
      simp(disch:=first|assumption|omega)only[W_block,P3,seval,initFr,clsA]
      exact hret _ _ (stop (bad (by rw[pdef];first|rfl|(rw[hc];rfl)|(simp only[hc];simp))) (y1 rfl))
    |false=>
     cases q with
     |true=>
      simp(disch:=first|assumption|omega)only[W_block,P3,seval,initFr,clsA,st_mget,ca,cb,gx,st_callvy]
      refine yieldK (hy _ _ jX1) ?_
      rintro _ X2 ⟨rfl,y1,y2⟩
      simp(disch:=first|assumption|omega)only[W_block,P3,seval,initFr,clsA]
      exact hret _ _ (stop (bad (by rw[pdef];first|rfl|(rw[hc];rfl)|(simp only[hc];simp))) (y1 rfl))
     |false=>
      simp(disch:=first|assumption|omega)only[W_block,P3,seval,initFr,clsA,st_mget,ca,cb,gx,st_callvy]
      refine yieldK (hy _ _ jX1) ?_
      rintro _ X2 ⟨rfl,y1,y2⟩
      obtain⟨jX2,c2⟩:=y2 rfl
      simp(disch:=first|assumption|omega)only[W_block,P3,seval,initFr,clsA,hw1]
      exact hn _ _ _ (nxt X2 jX2 c2 (by rw[pdef];first|rfl|(rw[hc];rfl)|(simp only[hc];simp)) _ _ _ _ _ _ _ _ _ _ _ _ _ _ _) (by omega)
 ·have h1:¬(j:Int)<((L.p.length:Nat):Int):=by omega
  have:j=L.p.length:=by omega
  subst this
  simp(disch:=first|assumption|omega)only[W_block,P3,seval,initFr,clsA,lp]
  refine hx 2 _ _ ?_
  refine hq1 _ _ ⟨_,rfl,fun e=>?_,fun _=>jX⟩
  simp only[confB,hg,hp,hp2]at e
  cases e
end Go.AM.Fd

set_option maxRecDepth 8000
namespace Go.AM.Fd
open Nat (reduceAdd reduceEqDiff reduceLT reduceLeDiff reduceMul reduceSub)
open Go.Proofs Go.AM.F
theorem resC1(i:Nat)(fr:List Value)(H:AHeap):resO [.c1 i] fr H=cell1 (fr.getD i undef) H:=by
 simp only[resO,resVs,RX.get]
 cases cell1 (fr.getD i undef) H<;>rfl
theorem cell_at{H:AHeap}{b:Nat}{own room:Bool}{T:Nat}{v:Value}(h:H.get b=some (.cells own room 1 [v] T)):cell1 (ptr b 0) H=some v:=by
 rw[cell1p];simp only[cellA,h];rfl
def box3(H:AHeap)(u:V4)(a b:RV):AHeap:=((H.alloc (.cells true false 4 u.l 27)).alloc (.cells true false 6 a.row 49)).alloc (.cells true false 6 b.row 49)
theorem box3_k(H:AHeap)(u:V4)(a b:RV):Keeps H (box3 H u a b):=(((Keeps.refl H).alloc _).alloc _).alloc _
theorem box3_n(H:AHeap)(u:V4)(a b:RV):(box3 H u a b).n=H.n+3:=rfl
theorem box3_l(H:AHeap)(u:V4)(a b:RV):(box3 H u a b).get H.n=some (.cells true false 4 u.l 27):=(((Keeps.refl (H.alloc _)).alloc _).alloc _).at_ (AHeap.get_alloc_new H _)
theorem box3_a(H:AHeap)(u:V4)(a b:RV):(box3 H u a b).get (H.n+1)=some (.cells true false 6 a.row 49):=((Keeps.refl ((H.alloc (.cells true false 4 u.l 27)).alloc _)).alloc _).at_ (AHeap.get_alloc_new (H.alloc _) _)
theorem box3_b(H:AHeap)(u:V4)(a b:RV):(box3 H u a b).get (H.n+2)=some (.cells true false 6 b.row 49):=AHeap.get_alloc_new ((H.alloc _).alloc _) _
theorem RV.ones{H:AHeap}{x:RV}(h:x.ok H):x.vp.oneCell'=true∧x.vq.oneCell'=true∧x.vo.oneCell'=true∧x.vf.oneCell'=true:=⟨Sl.one h.p,Sl.one h.q,Sl.one h.o,Sl.one h.f⟩
theorem t109{H:AHeap}{u:V4}{xs:List RV}{L:Ly}{a b:RV}(h:LyR H u xs L)(oa:a.ok H)(ob:b.ok H):
 ∃w H',ARun Tryz.prog 0 109 [.agg u.l.toArray,.agg a.row.toArray,.agg b.row.toArray] H w H'∧w=.func (.func 128) #[] #[ptr (H.n+1) 0,ptr (H.n+2) 0,ptr H.n 0]∧H'=box3 H u a b:=by
 refine walk2 f109_ok f109_n ?_
 intro Q hq1 hq2
 have os:=Sl.one h.s
 have op:=Sl.one h.p
 have og:=Sl.one h.g
 have or:=Sl.one h.r
 obtain⟨a3,a4,a5,a6⟩:=RV.ones oa
 obtain⟨b3,b4,b5,b6⟩:=RV.ones ob
 have a1:one1 (Value.int .i64 a.r.g)=True:=by simp[one1,one_int]
 have a2:one1 (Value.string ⟨a.r.n.toArray⟩)=True:=by simp[one1,one_str]
 have b1:one1 (Value.int .i64 b.r.g)=True:=by simp[one1,one_int]
 have b2:one1 (Value.string ⟨b.r.n.toArray⟩)=True:=by simp[one1,one_str]
 have rowa:a.row=[.string ⟨a.r.n.toArray⟩,.int .i64 a.r.g,a.vp,a.vq,a.vo,a.vf]:=rfl
 have rowb:b.row=[.string ⟨b.r.n.toArray⟩,.int .i64 b.r.g,b.vp,b.vq,b.vo,b.vf]:=rfl
 unfold box3 at hq1 hq2
 simp only[V4.l,rowa,rowb]at*
 simp(disch:=first|assumption|omega)only[f109,W_block,P3,seval,initFr,clsA,os,op,og,or,a1,a2,a3,a4,a5,a6,b1,b2,b3,b4,b5,b6]
 exact hq2 _ _ ⟨_,rfl,rfl,rfl⟩
structure CJ (K:AHeap) (L:LRec) (X:AHeap):Prop where
 keep:Keeps K X
 rec_:X.get K.n=some (.loop true .ready none L)
structure CX (H:AHeap) (vb rb:Nat) (L:LRec) (X:AHeap):Prop where
 keep:Keeps H X
 var:X.get vb=some (.cells true false 1 [.bool true] 4)
 rec_:X.get rb=some (.loop true .done (some .ret) L)
theorem CJ.round{H K:AHeap}{vb:Nat}{x0 x1 x2 x3 x4 x5 x7 x8 x9 x10:Value}{X:AHeap}(hvH:H.n≤vb)(hv:vb<K.n)(hHK:Keeps H K)(gv:K.get vb=some (.cells true false 1 [.bool false] 4))(v:Bool)
 (h:CJ K ⟨14,[0,1,2,3,4,5,6,7,11,12,13],[x0,x1,x2,x3,x4,x5,ptr vb 0,x7,x8,x9,x10],#[12],rfA Tryz.prog 65 0,rfB Tryz.prog 65 0⟩ X):
 ∃w H',AYield Tryz.prog 0 K.n [.bool v] X w H'∧w=.bool (!v)∧(v=true→CX H vb K.n ⟨14,[0,1,2,3,4,5,6,7,11,12,13],[x0,x1,x2,x3,x4,x5,ptr vb 0,x7,x8,x9,x10],#[12],rfA Tryz.prog 65 0,rfB Tryz.prog 65 0⟩ H')∧
  (v=false→CJ K ⟨14,[0,1,2,3,4,5,6,7,11,12,13],[x0,x1,x2,x3,x4,x5,ptr vb 0,x7,x8,x9,x10],#[12],rfA Tryz.prog 65 0,rfB Tryz.prog 65 0⟩ H'∧Chg [K.n] X H'):=by
 obtain⟨L,hL⟩:∃L:LRec,(⟨14,[0,1,2,3,4,5,6,7,11,12,13],[x0,x1,x2,x3,x4,x5,ptr vb 0,x7,x8,x9,x10],#[12],rfA Tryz.prog 65 0,rfB Tryz.prog 65 0⟩:LRec)=L:=⟨_,rfl⟩
 refine yield_of (R:=fun w H'=>w=.bool (!v)∧(v=true→CX H vb K.n _ H')∧(v=false→CJ K _ H'∧Chg [K.n] X H')) h.rec_ f65r0a_ok f65r0b_ok f65r0_n rfl rfl ?_
 show W Tryz.prog 0 f65r0a _ [x0,x1,x2,x3,x4,x5,ptr vb 0,x7,x8,.bool v,x10] X
 rw[hL]at h ⊢
 have hrl:=AHeap.get_lt h.rec_
 simp(disch:=first|assumption|omega)only[f65r0a,W_block,P3,seval,initFr,clsA]
 refine⟨none,L,h.rec_,?_⟩
 obtain⟨X1,hX1⟩:∃Y,Y=X.set K.n (.loop true .busy none L):=⟨_,rfl⟩
 have n1:X1.n=X.n:=by rw[hX1];rfl
 have c1:Chg [K.n] X X1:=by rw[hX1];exact Chg.set X hrl _
 have gr1:X1.get K.n=some (.loop true .busy none L):=by rw[hX1];exact AHeap.get_set_same h.rec_ _
 have k1:Keeps K X1:=h.keep.chg_trans c1 (by simp)
 have gv1:=k1.at_ gv
 rw[←hX1]
 cases v with
 |true=>
  simp(disch:=first|assumption|omega)only[f65r0b,W_block,P3,seval,initFr,clsA,gv1]
  have hvl:=AHeap.get_lt gv1
  have c2:Chg [vb] X1 (X1.set vb (.cells true false 1 [.bool true] 4)):=Chg.set X1 hvl _
  have gr2:=c2.at_ gr1 (by simp;omega)
  unfold roundQ
  rw[gr2]
  refine⟨rfl,fun _=>⟨?_,?_,AHeap.get_set_same gr2 _⟩,fun e=>by cases e⟩
  ·exact(((hHK.trans k1).chg_trans c2 (by simp;omega)).set (by have:=hHK.n;omega) (by show K.n<X1.n;omega) _)
  ·rw[AHeap.get_set_other _ (by omega) (by show K.n<X1.n;omega)]
   exact AHeap.get_set_same gv1 _
 |false=>
  simp(disch:=first|assumption|omega)only[f65r0b,W_block,P3,seval,initFr,clsA]
  unfold roundQ
  rw[gr1]
  have c2:Chg [K.n] X1 (X1.set K.n (.loop true .ready none L)):=Chg.set X1 (by omega) _
  refine⟨rfl,fun e=>(by cases e),fun _=>⟨⟨k1.chg_trans c2 (by simp),AHeap.get_set_same gr1 _⟩,c1.trans c2 (by simp)⟩⟩
set_option maxHeartbeats 1000000 in
theorem t65{H:AHeap}{u:V4}{xs:List RV}{L:Ly}{a b:RV}(h:LyR H u xs L)(oa:a.ok H)(ob:b.ok H)(la:RoLim L a.r)(lb:RoLim L b.r)(hL:LyLim L):
 ∃w H',ARun Tryz.prog 0 65 [.agg u.l.toArray,.agg a.row.toArray,.agg b.row.toArray] H w H'∧w=.bool (confB L a.r b.r)∧H'=H:=by
 suffices h':∃w H',ARun Tryz.prog 0 65 [.agg u.l.toArray,.agg a.row.toArray,.agg b.row.toArray] H w H'∧w=.bool (confB L a.r b.r)∧Keeps H H' by
  obtain⟨_,_,r,rfl,k⟩:=h'
  exact⟨_,_,r.gc0 k (.inr (.bool _)),rfl,rfl⟩
 refine walk2 f65_ok f65_n ?_
 intro Q hq1 hq2
 have os:=Sl.one h.s
 have op:=Sl.one h.p
 have og:=Sl.one h.g
 have or:=Sl.one h.r
 obtain⟨a3,a4,a5,a6⟩:=RV.ones oa
 obtain⟨b3,b4,b5,b6⟩:=RV.ones ob
 have a1:one1 (Value.int .i64 a.r.g)=True:=by simp[one1,one_int]
 have a2:one1 (Value.string ⟨a.r.n.toArray⟩)=True:=by simp[one1,one_str]
 have b1:one1 (Value.int .i64 b.r.g)=True:=by simp[one1,one_int]
 have b2:one1 (Value.string ⟨b.r.n.toArray⟩)=True:=by simp[one1,one_str]
 have rowa:a.row=[.string ⟨a.r.n.toArray⟩,.int .i64 a.r.g,a.vp,a.vq,a.vo,a.vf]:=rfl
 have rowb:b.row=[.string ⟨b.r.n.toArray⟩,.int .i64 b.r.g,b.vp,b.vq,b.vo,b.vf]:=rfl
 have hul:u.l=[u.s,u.p,u.g,u.r]:=rfl
 obtain⟨K0,hK0⟩:∃X,X=(box3 H u a b).alloc (.cells true false 1 [.bool false] 4):=⟨_,rfl⟩
 have k0:Keeps H K0:=by rw[hK0];exact(box3_k H u a b).alloc _
 have n0:K0.n=H.n+4:=by rw[hK0];rfl
 have gv0:K0.get (H.n+3)=some (.cells true false 1 [.bool false] 4):=by rw[hK0];exact AHeap.get_alloc_new (box3 H u a b) _
 have tR:=t109 (h.keeps k0) (oa.keeps k0) (ob.keeps k0)
 have hK0':=hK0
 unfold box3 at hK0'
 simp only[hul,rowa,rowb]at tR hK0' ⊢
 simp(disch:=first|assumption|omega|(simp only[LN]<;>omega)|(simp(disch:=first|assumption|omega|(simp only[LN]<;>omega))only[row_alloc,row_set];assumption))only[f65,W_block,P3,seval,initFr,clsA,os,op,og,or,a1,a2,a3,a4,a5,a6,b1,b2,b3,b4,b5,b6]
 simp only[←hK0']
 refine callK tR ?_
 rintro _ K ⟨rfl,hK⟩
 have k1:Keeps K0 K:=by rw[hK];exact box3_k _ _ _ _
 have n1:K.n=H.n+7:=by rw[hK,box3_n,n0]
 have kH:Keeps H K:=k0.trans k1
 have gvK:=k1.at_ gv0
 simp(disch:=first|assumption|omega)only[W_block,P3,seval,initFr,clsA]
 refine W_rangeF rfl (bodied_of (by kernel_rfl)) ?_
 obtain⟨L0,hL0⟩:∃L:LRec,L=⟨14,[0,1,2,3,4,5,6,7,11,12,13],[.agg #[u.s,u.p,u.g,u.r],.agg #[.string ⟨a.r.n.toArray⟩,.int .i64 a.r.g,a.vp,a.vq,a.vo,a.vf],.agg #[.string ⟨b.r.n.toArray⟩,.int .i64 b.r.g,b.vp,b.vq,b.vo,b.vf],
  ptr H.n 0,ptr (H.n+1) 0,ptr (H.n+2) 0,ptr (H.n+3) 0,undef,.func (.func 128) #[] #[ptr (K0.n+1) 0,ptr (K0.n+2) 0,ptr K0.n 0],undef,undef],#[12],rfA Tryz.prog 65 0,rfB Tryz.prog 65 0⟩:=⟨_,rfl⟩
 have kL:=(Keeps.refl K).alloc (.loop true .ready none L0)
 have j0:CJ K L0 (K.alloc (.loop true .ready none L0)):=⟨kL,AHeap.get_alloc_new K _⟩
 have gl1:=box3_l K0 u a b
 have ga1:=box3_a K0 u a b
 have gb1:=box3_b K0 u a b
 rw[←hK]at gl1 ga1 gb1
 have rd:∀X v,CJ K L0 X→∃w H',AYield Tryz.prog 0 K.n [.bool v] X w H'∧w=.bool (!v)∧(v=true→CX H (H.n+3) K.n L0 H')∧(v=false→CJ K L0 H'∧Chg [K.n] X H'):=by
  rw[hL0]
  intro X v hJ
  exact hJ.round (by omega) (by omega) kH gvK v
 obtain⟨w,X,r,r1,r2⟩:=t128 (u:=u) (xs:=xs) (L:=L) (a:=a) (b:=b) (CJ K L0) (CX H (H.n+3) K.n L0) (rb:=K.n) (pa:=K0.n+1) (pb:=K0.n+2) (pl:=K0.n) la lb hL
  (fun X hJ=>⟨AHeap.get_lt hJ.rec_,hJ.keep.at_ ga1,hJ.keep.at_ gb1,hJ.keep.at_ gl1,h.keeps (kH.trans hJ.keep),oa.keeps (kH.trans hJ.keep),ob.keeps (kH.trans hJ.keep)⟩)
  (fun X Y hJ k=>⟨hJ.keep.trans k,k.at_ hJ.rec_⟩) rd j0
 rw[hL0]at r r1 r2
 refine⟨w,X,r,?_⟩
 cases hc:confB L a.r b.r with
 |true=>
  obtain⟨q1,q2,q3⟩:=r1 hc
  have hrl:=AHeap.get_lt q3
  refine afterR_ret q3 ?_
  have gv:(X.set K.n .dead).get (H.n+3)=some (.cells true false 1 [.bool true] 4):=by rw[AHeap.get_set_other X (by omega) hrl];exact q2
  refine hq2 _ _ ⟨.bool true,?_,by rw[hc],q1.set (by omega) hrl _⟩
  show resO [.c1 6] _ _=_
  rw[resC1]
  exact cell_at gv
 |false=>
  obtain⟨q1,q2⟩:=r2 hc
  have hrl:=AHeap.get_lt q2
  refine afterR_ready q2 ?_
  have gv:(X.set K.n .dead).get (H.n+3)=some (.cells true false 1 [.bool false] 4):=by rw[AHeap.get_set_other X (by omega) hrl];exact q1.at_ gvK
  simp(disch:=first|assumption|omega)only[W_block,P3,seval,initFr,clsA,gv]
  have hvl:=AHeap.get_lt gv
  refine hq2 _ _ ⟨.bool false,?_,by rw[hc],((kH.trans q1).set (by omega) hrl _).set (by omega) hvl _⟩
  show resO [.c1 6] _ _=_
  rw[resC1]
  exact cell_at (AHeap.get_set_same gv _)
end Go.AM.Fd

namespace Go.AM.Fd
open Go.Proofs Go.AM.F
def bitsN(p:Nat→Bool):Nat→Nat
 |0=>0
 |n+1=>bitsN p n|||(if p n then 2 ^ n else 0)
theorem bitsN_t(p:Nat→Bool)(m:Nat):∀n,(bitsN p n).testBit m=(decide (m<n)&&p m)
 |0=>by simp[bitsN]
 |n+1=>by
  rw[bitsN,Nat.testBit_or,bitsN_t p m n]
  by_cases h:m=n
  ·subst h
   cases hp:p m<;>simp[Nat.testBit_two_pow]
  ·cases hp:p n
   ·simp only[Bool.false_eq_true,if_false,Nat.zero_testBit,Bool.or_false]
    congr 1
    by_cases h2:m<n
    ·simp[h2];omega
    ·have:¬m<n+1:=by omega
     simp[h2,this]
   ·simp only[if_true,Nat.testBit_two_pow]
    have e:decide (n=m)=false:=by simp;omega
    rw[e,Bool.or_false]
    congr 1
    by_cases h2:m<n
    ·simp[h2];omega
    ·have:¬m<n+1:=by omega
     simp[h2,this]
theorem bitsN_lt(p:Nat→Bool)(n:Nat):bitsN p n<2 ^ n:=Nat.lt_pow_two_of_testBit _ (fun i hi=>by rw[bitsN_t];simp;omega)
theorem bits_ext{p q:Nat→Bool}{n:Nat}(h:∀m,m<n→p m=q m):bitsN p n=bitsN q n:=by
 apply Nat.eq_of_testBit_eq
 intro i
 rw[bitsN_t,bitsN_t]
 by_cases hi:i<n
 ·rw[h i hi]
 ·simp[hi]
theorem bits_of{x n:Nat}(h:x<2 ^ n):bitsN (fun i=>x.testBit i) n=x:=by
 apply Nat.eq_of_testBit_eq
 intro i
 rw[bitsN_t]
 by_cases hi:i<n
 ·simp[hi]
 ·have:x.testBit i=false:=Nat.testBit_lt_two_pow (Nat.lt_of_lt_of_le h (Nat.pow_le_pow_right (by omega) (by omega)))
  simp[hi,this]
abbrev U:Nat:=18446744073709551616
theorem uU:U=2 ^ 64:=rfl
theorem bits_u(p:Nat→Bool){n:Nat}(hn:n≤64):bitsN p n<U:=Nat.lt_of_lt_of_le (bitsN_lt p n) (Nat.pow_le_pow_right (by omega) hn)
theorem or_u{a b:Nat}(ha:a<U)(hb:b<U):a|||b<U:=Nat.or_lt_two_pow (n:=64) ha hb
theorem u_shl1{n:Nat}(h:n<64):binA .shl (.int .u64 1) (.int .i64 (n:Int))=some (.int .u64 ((2 ^ n:Nat):Int)):=by
 rw[b_shl .u64 1 (n:Int) .i64 (by omega)]
 have e:min (Int.toNat (n:Int)) IntKind.u64.bits=n:=by
  show min (Int.toNat (n:Int)) 64=n
  omega
 rw[e]
 have:2 ^ n<U:=by rw[uU];exact Nat.pow_lt_pow_right (by omega) h
 have e2:(1:Int)*2 ^ n=((2 ^ n:Nat):Int):=by simp
 rw[e2,wrap_u64]
 have h3:2 ^ n<18446744073709551616:=this
 have h4:((2 ^ n:Nat):Int)<18446744073709551616:=Int.ofNat_lt.2 h3
 rw[Int.emod_eq_of_lt (Int.natCast_nonneg _) h4]
theorem pow_u{n:Nat}(h:n<64):2 ^ n<U:=by rw[uU];exact Nat.pow_lt_pow_right (by omega) h
end Go.AM.Fd

namespace Go.AM.Fd
open Go.Proofs Go.AM.F
def S64(f:Nat→Bool):Value:=.int .u64 (bitsN f 64:Nat)
def S32(f:Nat→Bool):Value:=.int .u32 (bitsN f 32:Nat)
def I1(b:Bool):Value:=.int .u64 (if b then 1 else 0)
def none64(f:Nat→Bool):Bool:=(List.range 64).all fun i=> !f i
def none32(f:Nat→Bool):Bool:=(List.range 32).all fun i=> !f i
theorem bit_and(f g:Nat→Bool)(n:Nat):bitsN f n&&& bitsN g n=bitsN (fun i=>f i&&g i) n:=by
 apply Nat.eq_of_testBit_eq;intro i
 rw[Nat.testBit_and,bitsN_t,bitsN_t,bitsN_t]
 cases decide (i<n)<;>simp
theorem bit_or(f g:Nat→Bool)(n:Nat):bitsN f n|||bitsN g n=bitsN (fun i=>f i||g i) n:=by
 apply Nat.eq_of_testBit_eq;intro i
 rw[Nat.testBit_or,bitsN_t,bitsN_t,bitsN_t]
 cases decide (i<n)<;>simp
theorem bit_xor(f g:Nat→Bool)(n:Nat):bitsN f n ^^^ bitsN g n=bitsN (fun i=>(f i ^^ g i)) n:=by
 apply Nat.eq_of_testBit_eq;intro i
 rw[Nat.testBit_xor,bitsN_t,bitsN_t,bitsN_t]
 cases decide (i<n)<;>simp
theorem bit_pow{k n:Nat}(h:k<n):2 ^ k=bitsN (fun i=>decide (i=k)) n:=by
 apply Nat.eq_of_testBit_eq;intro i
 rw[Nat.testBit_two_pow,bitsN_t]
 by_cases e:i=k
 ·subst e;simp[h]
 ·have:¬k=i:=fun x=>e x.symm
  simp[e,this]
theorem bit_0(n:Nat):bitsN (fun _=>false) n=0:=by
 apply Nat.eq_of_testBit_eq;intro i
 rw[bitsN_t];simp
theorem bit_shr(f:Nat→Bool)(n k:Nat):bitsN f n / 2 ^ k=bitsN (fun i=>decide (i+k<n)&&f (i+k)) n:=by
 apply Nat.eq_of_testBit_eq;intro i
 rw[Nat.testBit_div_two_pow,bitsN_t,bitsN_t]
 by_cases h:i+k<n
 ·have:i<n:=by omega
  simp[h,this]
 ·simp[h]
theorem bit_eq0(f:Nat→Bool)(n:Nat):(((bitsN f n:Nat):Int)==0)=(List.range n).all fun i=> !f i:=by
 rw[Bool.eq_iff_iff,List.all_eq_true,beq_iff_eq]
 constructor
 ·intro h i hi
  have h2:bitsN f n=0:=by omega
  have:=bitsN_t f i n
  rw[h2]at this
  simp[List.mem_range.1 hi]at this
  simp[this]
 ·intro h
  have:bitsN f n=0:=by
   rw[←bit_0 n]
   exact bits_ext fun m hm=>by have:=h m (List.mem_range.2 hm);simpa using this
  omega
theorem bv_u64(f:Nat→Bool):BitVec.ofInt IntKind.u64.bits ((bitsN f 64:Nat):Int)=BitVec.ofNat 64 (bitsN f 64):=by
 show BitVec.ofInt 64 _=_
 rw[BitVec.ofInt_natCast]
theorem bv_u32(f:Nat→Bool):BitVec.ofInt IntKind.u32.bits ((bitsN f 32:Nat):Int)=BitVec.ofNat 32 (bitsN f 32):=by
 show BitVec.ofInt 32 _=_
 rw[BitVec.ofInt_natCast]
theorem w64(n:Nat)(h:n<2 ^ 64):IntKind.u64.wrap (n:Int)=(n:Int):=by
 rw[wrap_u64]
 have:n<18446744073709551616:=h
 omega
theorem w32(n:Nat)(h:n<2 ^ 32):IntKind.u32.wrap (n:Int)=(n:Int):=by
 rw[wrap_u32]
 have:n<4294967296:=h
 omega
theorem m64(f:Nat→Bool):bitsN f 64 % 2 ^ 64=bitsN f 64:=Nat.mod_eq_of_lt (bitsN_lt f 64)
theorem m32(f:Nat→Bool):bitsN f 32 % 2 ^ 32=bitsN f 32:=Nat.mod_eq_of_lt (bitsN_lt f 32)
theorem s_and(f g:Nat→Bool):binA .and (S64 f) (S64 g)=some (S64 fun i=>f i&&g i):=by
 unfold S64;rw[b_and,bv_u64,bv_u64]
 show some (Value.int _ (IntKind.u64.wrap ((BitVec.ofNat 64 (bitsN f 64)&&& BitVec.ofNat 64 (bitsN g 64)).toNat:Int)))=_
 rw[BitVec.toNat_and,BitVec.toNat_ofNat,BitVec.toNat_ofNat,m64,m64,bit_and,w64 _ (bitsN_lt _ _)]
theorem s_or(f g:Nat→Bool):binA .or (S64 f) (S64 g)=some (S64 fun i=>f i||g i):=by
 unfold S64;rw[b_or,bv_u64,bv_u64]
 show some (Value.int _ (IntKind.u64.wrap ((BitVec.ofNat 64 (bitsN f 64)|||BitVec.ofNat 64 (bitsN g 64)).toNat:Int)))=_
 rw[BitVec.toNat_or,BitVec.toNat_ofNat,BitVec.toNat_ofNat,m64,m64,bit_or,w64 _ (bitsN_lt _ _)]
theorem b_andn(k:IntKind)(a b:Int):binA .andNot (.int k a) (.int k b)=some (.int k (k.wrap (BitVec.ofInt k.bits a&&& ~~~ BitVec.ofInt k.bits b).toNat)):=by simp[binA,intA]
theorem bv_andn{w:Nat}(f g:Nat→Bool):(BitVec.ofNat w (bitsN f w)&&& ~~~ BitVec.ofNat w (bitsN g w)).toNat=bitsN (fun i=>f i&& !g i) w:=by
 apply Nat.eq_of_testBit_eq;intro i
 rw[BitVec.testBit_toNat,bitsN_t]
 by_cases h:i<w
 ·simp only[BitVec.getLsbD_and,BitVec.getLsbD_not,BitVec.getLsbD_ofNat,bitsN_t,h,decide_true,Bool.true_and]
 ·simp[h,BitVec.getLsbD_of_ge,Nat.le_of_not_lt h]
theorem s_andn(f g:Nat→Bool):binA .andNot (S64 f) (S64 g)=some (S64 fun i=>f i&& !g i):=by
 unfold S64;rw[b_andn,bv_u64,bv_u64]
 have:=bv_andn (w:=64) f g
 show some (Value.int _ (IntKind.u64.wrap ((BitVec.ofNat 64 (bitsN f 64)&&& ~~~ BitVec.ofNat 64 (bitsN g 64)).toNat:Int)))=_
 rw[this,w64 _ (bitsN_lt _ _)]
theorem p_and(f g:Nat→Bool):binA .and (S32 f) (S32 g)=some (S32 fun i=>f i&&g i):=by
 unfold S32;rw[b_and,bv_u32,bv_u32]
 show some (Value.int _ (IntKind.u32.wrap ((BitVec.ofNat 32 (bitsN f 32)&&& BitVec.ofNat 32 (bitsN g 32)).toNat:Int)))=_
 rw[BitVec.toNat_and,BitVec.toNat_ofNat,BitVec.toNat_ofNat,m32,m32,bit_and,w32 _ (bitsN_lt _ _)]
theorem p_or(f g:Nat→Bool):binA .or (S32 f) (S32 g)=some (S32 fun i=>f i||g i):=by
 unfold S32;rw[b_or,bv_u32,bv_u32]
 show some (Value.int _ (IntKind.u32.wrap ((BitVec.ofNat 32 (bitsN f 32)|||BitVec.ofNat 32 (bitsN g 32)).toNat:Int)))=_
 rw[BitVec.toNat_or,BitVec.toNat_ofNat,BitVec.toNat_ofNat,m32,m32,bit_or,w32 _ (bitsN_lt _ _)]
theorem p_xor(f g:Nat→Bool):binA .xor (S32 f) (S32 g)=some (S32 fun i=>f i ^^ g i):=by
 unfold S32;rw[b_xor,bv_u32,bv_u32]
 show some (Value.int _ (IntKind.u32.wrap ((BitVec.ofNat 32 (bitsN f 32) ^^^ BitVec.ofNat 32 (bitsN g 32)).toNat:Int)))=_
 rw[BitVec.toNat_xor,BitVec.toNat_ofNat,BitVec.toNat_ofNat,m32,m32,bit_xor,w32 _ (bitsN_lt _ _)]
theorem p_andn(f g:Nat→Bool):binA .andNot (S32 f) (S32 g)=some (S32 fun i=>f i&& !g i):=by
 unfold S32;rw[b_andn,bv_u32,bv_u32]
 have:=bv_andn (w:=32) f g
 show some (Value.int _ (IntKind.u32.wrap ((BitVec.ofNat 32 (bitsN f 32)&&& ~~~ BitVec.ofNat 32 (bitsN g 32)).toNat:Int)))=_
 rw[this,w32 _ (bitsN_lt _ _)]
theorem s_zero:Value.int .u64 0=S64 (fun _=>false):=by unfold S64;rw[bit_0];rfl
theorem p_zero:Value.int .u32 0=S32 (fun _=>false):=by unfold S32;rw[bit_0];rfl
theorem s_eq0(f:Nat→Bool):binA .eql (S64 f) (.int .u64 0)=some (.bool (none64 f)):=by
 unfold S64 none64;rw[b_eql,bit_eq0]
theorem s_ne0(f:Nat→Bool):binA .neq (S64 f) (.int .u64 0)=some (.bool (!none64 f)):=by
 unfold S64 none64;rw[b_neq,bne,bit_eq0]
theorem p_eq0(f:Nat→Bool):binA .eql (S32 f) (.int .u32 0)=some (.bool (none32 f)):=by
 unfold S32 none32;rw[b_eql,bit_eq0]
theorem p_ne0(f:Nat→Bool):binA .neq (S32 f) (.int .u32 0)=some (.bool (!none32 f)):=by
 unfold S32 none32;rw[b_neq,bne,bit_eq0]
theorem s_shl1{n:Nat}(h:n<64):binA .shl (.int .u64 1) (.int .i64 (n:Int))=some (S64 fun i=>decide (i=n)):=by
 rw[u_shl1 h,bit_pow h];rfl
theorem p_shl1{n:Nat}(h:n<32):binA .shl (.int .u32 1) (.int .i64 (n:Int))=some (S32 fun i=>decide (i=n)):=by
 rw[b_shl .u32 1 (n:Int) .i64 (by omega)]
 have e:min (Int.toNat (n:Int)) IntKind.u32.bits=n:=by
  show min (Int.toNat (n:Int)) 32=n
  omega
 rw[e]
 have e2:(1:Int)*2 ^ n=((2 ^ n:Nat):Int):=by simp
 rw[e2,w32 _ (Nat.pow_lt_pow_right (by omega) h),bit_pow h];rfl
theorem s_shr(f:Nat→Bool)(n:Nat):binA .shr (S64 f) (.int .i64 (n:Int))=some (S64 fun i=>decide (i+n<64)&&f (i+n)):=by
 unfold S64
 rw[b_shr .u64 _ (n:Int) .i64 (by omega)]
 congr 2
 have e:(2:Int) ^ min (Int.toNat (n:Int)) IntKind.u64.bits=((2 ^ (min n 64):Nat):Int):=by
  have:min (Int.toNat (n:Int)) IntKind.u64.bits=min n 64:=by show min (Int.toNat (n:Int)) 64=min n 64;omega
  rw[this];simp
 rw[e,Int.fdiv_eq_ediv_of_nonneg _ (Int.natCast_nonneg _),←Int.natCast_ediv,bit_shr]
 congr 1
 apply bits_ext
 intro m hm
 by_cases h:n≤64
 ·rw[Nat.min_eq_left h]
 ·have h1:¬m+n<64:=by omega
  have h2:¬m+min n 64<64:=by omega
  simp[h1,h2]
theorem p_shr(f:Nat→Bool)(n:Nat):binA .shr (S32 f) (.int .i64 (n:Int))=some (S32 fun i=>decide (i+n<32)&&f (i+n)):=by
 unfold S32
 rw[b_shr .u32 _ (n:Int) .i64 (by omega)]
 congr 2
 have e:(2:Int) ^ min (Int.toNat (n:Int)) IntKind.u32.bits=((2 ^ (min n 32):Nat):Int):=by
  have:min (Int.toNat (n:Int)) IntKind.u32.bits=min n 32:=by show min (Int.toNat (n:Int)) 32=min n 32;omega
  rw[this];simp
 rw[e,Int.fdiv_eq_ediv_of_nonneg _ (Int.natCast_nonneg _),←Int.natCast_ediv,bit_shr]
 congr 1
 apply bits_ext
 intro m hm
 by_cases h:n≤32
 ·rw[Nat.min_eq_left h]
 ·have h1:¬m+n<32:=by omega
  have h2:¬m+min n 32<32:=by omega
  simp[h1,h2]
theorem bit_1(n:Nat)(f:Nat→Bool)(h:0<n):bitsN f n&&& 1=if f 0 then 1 else 0:=by
 apply Nat.eq_of_testBit_eq;intro i
 have e:(1:Nat).testBit i=decide (i=0):=by
  have:=Nat.testBit_two_pow (n:=0) (m:=i)
  rw[Nat.pow_zero]at this
  rw[this];simp[eq_comm]
 rw[Nat.testBit_and,bitsN_t,e]
 by_cases h2:i=0
 ·subst h2
  cases hf:f 0<;>simp[h]
 ·cases hf:f 0<;>simp[h2,e]
theorem s_and1(f:Nat→Bool):binA .and (S64 f) (.int .u64 1)=some (I1 (f 0)):=by
 unfold S64 I1
 rw[b_and,bv_u64]
 have e1:BitVec.ofInt IntKind.u64.bits 1=BitVec.ofNat 64 1:=rfl
 rw[e1]
 show some (Value.int _ (IntKind.u64.wrap ((BitVec.ofNat 64 (bitsN f 64)&&& BitVec.ofNat 64 1).toNat:Int)))=_
 rw[BitVec.toNat_and,BitVec.toNat_ofNat,BitVec.toNat_ofNat,m64]
 have e2:1 % 2 ^ 64=1:=by decide
 rw[e2,bit_1 64 f (by omega)]
 cases f 0<;>rfl
theorem i1_eq(b:Bool):binA .eql (I1 b) (.int .u64 1)=some (.bool b):=by cases b<;>rfl
def I1p(b:Bool):Value:=.int .u32 (if b then 1 else 0)
theorem p_and1(f:Nat→Bool):binA .and (S32 f) (.int .u32 1)=some (I1p (f 0)):=by
 unfold S32 I1p
 rw[b_and,bv_u32]
 have e1:BitVec.ofInt IntKind.u32.bits 1=BitVec.ofNat 32 1:=rfl
 rw[e1]
 show some (Value.int _ (IntKind.u32.wrap ((BitVec.ofNat 32 (bitsN f 32)&&& BitVec.ofNat 32 1).toNat:Int)))=_
 rw[BitVec.toNat_and,BitVec.toNat_ofNat,BitVec.toNat_ofNat,m32]
 have e2:1 % 2 ^ 32=1:=by decide
 rw[e2,bit_1 32 f (by omega)]
 cases f 0<;>rfl
theorem i1p_eq(b:Bool):binA .eql (I1p b) (.int .u32 1)=some (.bool b):=by cases b<;>rfl
theorem i1p_eq0(b:Bool):binA .eql (I1p b) (.int .u32 0)=some (.bool !b):=by cases b<;>rfl
theorem s_up(f:Nat→Bool)(H:AHeap):asem (.i2i .u64 (S32 f)) H=some (S64 (fun i=>decide (i<32)&&f i),H):=by
 unfold S32 S64
 rw[a_i2i,w64 _ (Nat.lt_of_lt_of_le (bitsN_lt f 32) (Nat.pow_le_pow_right (by omega) (by omega)))]
 congr 4
 apply Nat.eq_of_testBit_eq;intro i
 rw[bitsN_t,bitsN_t]
 by_cases h:i<32
 ·have:i<64:=by omega
  simp[h,this]
 ·simp[h]
theorem s_down(f:Nat→Bool)(H:AHeap):asem (.i2i .u32 (S64 f)) H=some (S32 f,H):=by
 unfold S32 S64
 rw[a_i2i,wrap_u32]
 congr 3
 have e:((bitsN f 64:Nat):Int) % 4294967296=((bitsN f 64 % 2 ^ 32:Nat):Int):=by omega
 rw[e]
 congr 1
 apply Nat.eq_of_testBit_eq;intro i
 rw[Nat.testBit_mod_two_pow,bitsN_t,bitsN_t]
 by_cases h:i<32
 ·have:i<64:=by omega
  simp[h,this]
 ·simp[h]
theorem o_s64(f:Nat→Bool):one1 (S64 f)=True:=by simp[S64,one1,one_int]
theorem o_s32(f:Nat→Bool):one1 (S32 f)=True:=by simp[S32,one1,one_int]
theorem o_i1(b:Bool):one1 (I1 b)=True:=by simp[I1,one1,one_int]
theorem one_s64(f:Nat→Bool):(S64 f).oneCell'=true:=rfl
theorem one_s32(f:Nat→Bool):(S32 f).oneCell'=true:=rfl
theorem s64_ext{f g:Nat→Bool}(h:∀i,i<64→f i=g i):S64 f=S64 g:=by unfold S64;rw[bits_ext h]
theorem s32_ext{f g:Nat→Bool}(h:∀i,i<32→f i=g i):S32 f=S32 g:=by unfold S32;rw[bits_ext h]
theorem gci{P:Program}{ng:Nat}{f:FuncId}{xs:List Value}{H:AHeap}{k:IntKind}{n:Int}(h:∃w H',ARun P ng f xs H w H'∧w=.int k n∧Keeps H H'):∃w H',ARun P ng f xs H w H'∧w=.int k n∧H'=H:=by
 obtain⟨_,_,a,rfl,k⟩:=h
 exact⟨_,_,a.gc0 k (.inr (.int _ _)),rfl,rfl⟩
end Go.AM.Fd

namespace Go.AM.Fd
open Go.Proofs Go.AM.F
def ro(L:Ly)(i:Nat):Ro:=L.r.getD i rv0.r
def cf(L:Ly)(i k:Nat):Bool:=confB L (ro L i) (ro L k)
def dn(i k a b:Nat):Bool:=decide (a<i)||(decide (a=i)&&decide (b<k))
def tb_(L:Ly)(i k j m:Nat):Bool:=(decide (m<j)&&dn i k j m&&cf L j m)||(decide (j<m)&&dn i k m j&&cf L m j)
def tR(L:Ly)(i k j:Nat):Nat:=bitsN (tb_ L i k j) 64
theorem tR_next(L:Ly)(i j:Nat):tR L i i j=tR L (i+1) 0 j:=by
 apply bits_ext
 intro m hm
 unfold tb_ dn
 by_cases h1:m<j
 ·have h2:¬j<m:=by omega
  simp only[h1,h2,decide_true,decide_false,Bool.true_and,Bool.false_and,Bool.or_false]
  congr 1
  by_cases h3:j<i
  ·have:j<i+1:=by omega
   simp[h3,this]
  ·by_cases h4:j=i
   ·subst h4;simp[h1]
   ·have:¬j<i+1:=by omega
    simp[h3,h4,this]
 ·by_cases h2:j<m
  ·simp only[h1,h2,decide_true,decide_false,Bool.true_and,Bool.false_and,Bool.false_or]
   congr 1
   by_cases h3:m<i
   ·have:m<i+1:=by omega
    simp[h3,this]
   ·by_cases h4:m=i
    ·subst h4;simp[h2]
    ·have:¬m<i+1:=by omega
     simp[h3,h4,this]
  ·simp[h1,h2]
theorem tb_step(L:Ly){i k j:Nat}(hk:k<i):∀m,tb_ L i (k+1) j m=(tb_ L i k j m||(decide (j=i)&&decide (m=k)&&cf L i k)||(decide (j=k)&&decide (m=i)&&cf L i k)):=by
 intro m
 unfold tb_ dn
 by_cases e1:j=i
 ·subst e1
  by_cases e2:m=k
  ·subst e2
   have a1:¬j<m:=by omega
   simp[hk,a1]
  ·have a1:decide (m<k+1)=decide (m<k):=by by_cases h:m<k<;>simp[h]<;>omega
   have a2:¬j=k:=by omega
   by_cases h:j<m
   ·have:¬m<j:=by omega
    have:¬m=j:=by omega
    simp[*]
   ·simp[*]
 ·by_cases e3:j=k
  ·subst e3
   by_cases e4:m=i
   ·subst e4
    have a1:¬m<j:=by omega
    simp[hk,a1];try omega
   ·simp[e1,e4]
  ·have a2:decide (j<k+1)=decide (j<k):=by by_cases h:j<k<;>simp[h]<;>omega
   simp[e1,e3,a2]
theorem any_comm{l k:List Int}:(l.any fun s=>k.contains s)=k.any fun s=>l.contains s:=by
 rw[Bool.eq_iff_iff]
 simp only[List.any_eq_true,List.contains_iff_mem]
 exact⟨fun⟨x,a,b⟩=>⟨x,b,a⟩,fun⟨x,a,b⟩=>⟨x,b,a⟩⟩
theorem conf_comm(L:Ly)(a b:Ro):confB L a b=confB L b a:=by
 have h1:(a.g==b.g)=(b.g==a.g):=by rw[Bool.eq_iff_iff];simp only[beq_iff_eq];exact eq_comm
 have h2:∀p,cPt L a b p=cPt L b a p:=by
  intro p
  unfold cPt
  have e:(sideO (p:Int) (nds a)==sideO (p:Int) (nds b))=(sideO (p:Int) (nds b)==sideO (p:Int) (nds a)):=by rw[Bool.eq_iff_iff];simp only[beq_iff_eq];exact eq_comm
  simp only[e]
  congr 1
  generalize(sideO (p:Int) (nds a)).isSome=x
  generalize(sideO (p:Int) (nds b)).isSome=y
  generalize(trk b).contains _=u
  generalize(trk a).contains _=v
  cases x<;>cases y<;>cases u<;>cases v<;>rfl
 unfold confB
 rw[h1,any_comm,funext h2]
def tabR(L:Ly)(j:Nat):Nat:=bitsN (fun m=>decide (m≠j)&&cf L j m) L.r.length
theorem tR_end(L:Ly){j:Nat}(hj:j<L.r.length)(hl:L.r.length≤64):tR L L.r.length 0 j=tabR L j:=by
 apply Nat.eq_of_testBit_eq
 intro m
 rw[tR,tabR,bitsN_t,bitsN_t]
 unfold tb_ dn
 by_cases h1:m<L.r.length
 ·have h2:m<64:=by omega
  by_cases h3:m<j
  ·have h5:¬j<m:=by omega
   have h6:¬m=j:=by omega
   simp[h1,h2,h3,h5,h6,hj]
  ·by_cases h4:j<m
   ·have:m≠j:=by omega
    simp only[h1,h2,h3,h4,this,decide_true,decide_false,Bool.true_and,Bool.false_and,Bool.false_or,Bool.true_or,Bool.and_true]
    simp only[cf]
    have h7:¬m=j:=by omega
    rw[conf_comm];simp[h7]
   ·have e:m=j:=by omega
    subst e
    simp
 ·simp only[h1,decide_false,Bool.false_and]
  by_cases h3:m<j
  ·omega
  ·have:¬j<m∨j<m:=by omega
   simp[h1,h3]
def tc(L:Ly)(i k n:Nat):List Value:=(List.range n).map fun j=>S64 (tb_ L i k j)
theorem tc_len(L:Ly)(i k n:Nat):(tc L i k n).length=n:=by simp[tc]
theorem tc_at(L:Ly)(i k:Nat){n j:Nat}(h:j<n):(tc L i k n)[j]? =some (S64 (tb_ L i k j)):=by simp[tc,h]
theorem tc_0(L:Ly)(n:Nat):List.replicate n (.int .u64 0)=tc L 0 0 n:=by
 apply List.ext_getElem?
 intro j
 by_cases h:j<n
 ·rw[tc_at _ _ _ h,List.getElem?_replicate,if_pos h,s_zero]
  congr 1
  exact s64_ext fun m hm=>by simp[tb_,dn]
 ·simp[tc,h]
theorem tc_next(L:Ly)(i n:Nat):tc L i i n=tc L (i+1) 0 n:=by
 unfold tc
 congr 1
 funext j
 have:=tR_next L i j
 unfold tR at this
 unfold S64
 rw[this]
theorem tc_no(L:Ly){i k n:Nat}(hk:k<i)(hc:cf L i k=false):tc L i k n=tc L i (k+1) n:=by
 unfold tc
 congr 1
 funext j
 apply s64_ext
 intro m hm
 rw[tb_step L hk,hc];simp
theorem tc_yes(L:Ly){i k n:Nat}(hk:k<i)(hi:i<n)(hc:cf L i k=true){f g:Nat→Bool}(hf:∀m,f m=(tb_ L i k i m||decide (m=k)))(hg:∀m,g m=(tb_ L i k k m||decide (m=i))):
 ((tc L i k n).set i (S64 f)).set k (S64 g)=tc L i (k+1) n:=by
 apply List.ext_getElem?
 intro j
 rw[List.getElem?_set,List.getElem?_set]
 simp only[List.length_set,tc_len]
 by_cases e1:k=j
 ·subst e1
  have h1:k<n:=by omega
  have h2:¬k=i:=by omega
  rw[if_pos rfl,if_pos h1,tc_at _ _ _ h1]
  congr 1
  apply s64_ext
  intro m hm
  rw[tb_step L hk,hc,hg]
  simp[h2]
 ·rw[if_neg e1]
  by_cases e2:i=j
  ·subst e2
   rw[if_pos rfl,if_pos hi,tc_at _ _ _ hi]
   congr 1
   apply s64_ext
   intro m hm
   have:¬i=k:=by omega
   rw[tb_step L hk,hc,hf]
   simp[this]
  ·rw[if_neg e2]
   by_cases h:j<n
   ·rw[tc_at _ _ _ h,tc_at _ _ _ h]
    congr 1
    apply s64_ext
    intro m hm
    have e3:¬j=k:=fun e=>e1 e.symm
    have e4:¬j=i:=fun e=>e2 e.symm
    rw[tb_step L hk,hc]
    simp[e3,e4]
   ·simp[tc,h]
def tabP(L:Ly)(j m:Nat):Bool:=decide (m<L.r.length)&&(decide (m≠j)&&cf L j m)
def tabC(L:Ly):List Value:=(List.range L.r.length).map fun j=>S64 (tabP L j)
theorem tc_end(L:Ly)(hl:L.r.length≤64):tc L L.r.length 0 L.r.length=tabC L:=by
 apply List.ext_getElem?
 intro j
 by_cases h:j<L.r.length
 ·rw[tc_at _ _ _ h]
  simp only[tabC,List.getElem?_map,List.getElem?_range h,Option.map_some]
  congr 1
  have:=tR_end L h hl
  unfold tR tabR at this
  apply s64_ext
  intro m hm
  have e:=bitsN_t (tb_ L L.r.length 0 j) m 64
  rw[this,bitsN_t]at e
  simp only[hm,decide_true,Bool.true_and]at e
  rw[←e];rfl
 ·simp[tc,tabC,h]
end Go.AM.Fd

set_option maxRecDepth 8000
namespace Go.AM.Fd
open Nat (reduceAdd reduceEqDiff reduceLT reduceLeDiff reduceMul reduceSub)
open Go.Proofs Go.AM.F
theorem ro_eq{L:Ly}{i:Nat}(h:i<L.r.length):ro L i=L.r[i]:=by unfold ro;rw[List.getD_eq_getElem?_getD,List.getElem?_eq_getElem h];rfl
theorem rv_ro{H:AHeap}{u:V4}{xs:List RV}{L:Ly}(h:LyR H u xs L){i:Nat}(hi:i<L.r.length):(xs.getD i rv0).r=ro L i∧(xs.getD i rv0).ok H:=by
 have hl:i<xs.length:=by have:=h.e;rw[←this]at hi;simpa using hi
 have e0:xs.getD i rv0=xs[i]:=by rw[List.getD_eq_getElem?_getD,List.getElem?_eq_getElem hl];rfl
 rw[e0]
 refine⟨?_,h.ok _ (List.getElem_mem hl)⟩
 rw[ro_eq hi]
 have e:=congrArg (fun l:List Ro=>l[i]?) h.e
 simp only[List.getElem?_map,List.getElem?_eq_getElem hl,List.getElem?_eq_getElem hi,Option.map_some]at e
 exact Option.some.inj e
set_option maxHeartbeats 2000000 in
theorem t27{H:AHeap}{u:V4}{xs:List RV}{L:Ly}(h:LyR H u xs L)(hf:LyIn 9223372036854775807 L):
 ∃w H',ARun Tryz.prog 0 27 [.agg u.l.toArray] H w H'∧Keeps H H'∧(checkE L≠0→w=.tuple #[.slice none 0 0,.int .i64 (checkE L)])∧
  (checkE L=0→∃b,w=.tuple #[slc b 0 L.r.length L.r.length,.int .i64 0]∧H.n≤b∧H'.get b=some (.cells true false 1 (tabC L) 33)):=by
 refine walk2 f27_ok f27_n ?_
 intro Q hq1 hq2
 have os:=Sl.one h.s
 have op:=Sl.one h.p
 have og:=Sl.one h.g
 have or:=Sl.one h.r
 have ir:=Sl.is h.r
 have kA:=(Keeps.refl H).alloc (.cells true false 4 u.l 27)
 have gA:=AHeap.get_alloc_new H (.cells true false 4 u.l 27)
 have hA:=h.keeps kA
 have tC:=t46 hA hf
 have hul:u.l=[u.s,u.p,u.g,u.r]:=rfl
 simp only[hul]at kA gA tC hA ⊢
 simp(disch:=first|assumption|omega|(simp only[LN]<;>omega)|(simp(disch:=first|assumption|omega|(simp only[LN]<;>omega))only[row_alloc,row_set];assumption))only[f27,W_block,P3,seval,initFr,clsA,os,op,og,or]
 refine callK tC ?_
 rintro _ X ⟨hX,ie,rfl⟩
 rw[hX]
 by_cases he:checkE L=0
 case neg=>
  have e1:(checkE L != 0)=true:=by simp[he]
  simp(disch:=first|assumption|omega)only[W_block,P3,seval,initFr,clsA,e1]
  exact hq2 _ _ ⟨_,rfl,kA,fun _=>rfl,fun e=>absurd e he⟩
 case pos=>
 have hmay:mayB L=true:=by
  unfold checkE at he
  cases hm:mayB L with
  |true=>rfl
  |false=>rw[hm]at he;cases he
 have hL:=may_lim hmay
 have hrl:=h.rlen
 have hlr:=hL.r
 have e1:(checkE L != 0)=false:=by simp[he]
 obtain⟨K0,hK0⟩:∃X,X=H.alloc (.cells true false 4 [u.s,u.p,u.g,u.r] 27):=⟨_,rfl⟩
 have n0:K0.n=H.n+1:=by rw[hK0];rfl
 rw[←hK0]at kA gA hA
 have lr:=h.r.len
 obtain⟨n,hn⟩:∃n,L.r.length=n:=⟨_,rfl⟩
 have hmk:asem (.mksl 33 1 8 [.int .u64 0] (.int .i64 ((n:Nat):Int)) (.int .i64 ((n:Nat):Int))) K0=some (slc K0.n 0 n n,K0.alloc (.cells true false 1 (tc L 0 0 n) 33)):=by
  simp only[asem]
  rw[if_pos ⟨by omega,by omega,by omega,by omega,rfl,rfl⟩,Int.toNat_natCast,List.flatten_replicate_singleton,tc_0 L]
 rw[hrl,hn]at lr
 have hmk':=hmk
 rw[hK0]at hmk'
 simp(disch:=first|assumption|omega|(simp only[LN]<;>omega)|(simp(disch:=first|assumption|omega|(simp only[LN]<;>omega))only[row_alloc,row_set];assumption))only[P3,seval,initFr,clsA,e1,gA,lr,ir,hmk']
 rw[←hK0]
 have mk0:=(Keeps.refl K0).alloc (.cells true false 1 (tc L 0 0 n) 33)
 have mg0:=AHeap.get_alloc_new K0 (.cells true false 1 (tc L 0 0 n) 33)
 rw[n0]at mg0
 rw[W_block]
 refine W_loop2 (fun q fr M=>∃i x6 x7 x8 x13 x14 x15 x16 x17,fr=[.agg #[u.s,u.p,u.g,u.r],ptr H.n 0,.slice none 0 0,.int .i64 0,.int .i64 (checkE L),slc (H.n+1) 0 n n,x6,x7,x8,.bool false,u.r,.int .i64 ((n:Nat):Int),.int .i64 ((i:Nat):Int),x13,x14,x15,x16,x17]∧
  Keeps K0 M∧M.get (H.n+1)=some (.cells true false 1 (tc L i 0 n) 33)∧i≤n∧q=n-i) n
  ⟨0,_,_,_,_,_,_,_,_,rfl,mk0,mg0,by omega,rfl⟩ ?_
 rintro Q' q fr M ⟨i,x6,x7,x8,x13,x14,x15,x16,x17,rfl,km,gm,hi,rfl⟩ hn' hx' hret
 by_cases hlt:i<n
 ·obtain⟨hyr,hyo⟩:=rv_ro h (i:=i) (by omega)
  obtain⟨na,ra⟩:=(h.r.keeps (kA.trans km)).at_ (i:=i) (by omega)
  have hlim:=may_ro hmay (List.getElem_mem (show i<L.r.length by omega))
  rw[←ro_eq (show i<L.r.length by omega),←hyr]at hlim
  generalize xs.getD i rv0=y at*
  have h0:(0:Int)≤(i:Int):=by omega
  have h1:(i:Int)<((n:Nat):Int):=by omega
  have hw:IntKind.i64.wrap ((i:Int)+1)=((i+1:Nat):Int):=by rw[wrap_i64 (by omega) (by omega)];simp
  have rowy:y.row=[.string ⟨y.r.n.toArray⟩,.int .i64 y.r.g,y.vp,y.vq,y.vo,y.vf]:=rfl
  obtain⟨a3,a4,a5,a6⟩:=RV.ones hyo
  have a1:one1 (Value.int .i64 y.r.g)=True:=by simp[one1,one_int]
  have a2:one1 (Value.string ⟨y.r.n.toArray⟩)=True:=by simp[one1,one_str]
  obtain⟨M1,hM1⟩:∃X,X=M.alloc (.cells true false 6 y.row 49):=⟨_,rfl⟩
  have m1:M1.n=M.n+1:=by rw[hM1];rfl
  have km1:Keeps K0 M1:=by rw[hM1];exact km.alloc _
  have gm1:M1.get (H.n+1)=some (.cells true false 1 (tc L i 0 n) 33):=by rw[hM1];exact((Keeps.refl M).alloc _).at_ gm
  have gy1:M1.get M.n=some (.cells true false 6 y.row 49):=by rw[hM1];exact AHeap.get_alloc_new M _
  have hMn:=AHeap.get_lt gm
  have kmn:=km.n
  simp only[rowy]at ra hM1 gy1
  simp(disch:=first|assumption|omega)only[P3,seval,initFr,clsA,h1]
  rw[W_block]
  simp(disch:=first|assumption|omega|(simp only[LN]<;>omega)|(simp(disch:=first|assumption|omega|(simp only[LN]<;>omega))only[row_alloc,row_set];assumption))only[P3,seval,initFr,clsA,lr,ra,na,a_loadnvf,a1,a2,a3,a4,a5,a6]
  rw[←hM1,W_block]
  refine W_loop2 (fun q fr K=>∃k x8 x16 x17,fr=[.agg #[u.s,u.p,u.g,u.r],ptr H.n 0,.slice none 0 0,.int .i64 0,.int .i64 (checkE L),slc (H.n+1) 0 n n,.int .i64 ((i:Nat):Int),ptr M.n 0,x8,.bool false,u.r,.int .i64 ((n:Nat):Int),.int .i64 ((i:Nat):Int),.bool true,.int .i64 ((i:Nat):Int),.int .i64 ((k:Nat):Int),x16,x17]∧
   Keeps K0 K∧M.n<K.n∧K.get M.n=M1.get M.n∧K.get (H.n+1)=some (.cells true false 1 (tc L i k n) 33)∧k≤i∧q=i-k) i
   ⟨0,_,_,_,rfl,km1,by omega,rfl,gm1,by omega,rfl⟩ ?_
  rintro Q2 q fr K ⟨k,x8,x16,x17,rfl,kk,gn,gy,go,hk,rfl⟩ hn2 hx2 hret2
  by_cases hlk:k<i
  ·obtain⟨hzr,hzo⟩:=rv_ro h (i:=k) (by omega)
   obtain⟨nb,rb⟩:=(h.r.keeps (kA.trans kk)).at_ (i:=k) (by omega)
   have zlim:=may_ro hmay (List.getElem_mem (show k<L.r.length by omega))
   rw[←ro_eq (show k<L.r.length by omega),←hzr]at zlim
   generalize xs.getD k rv0=z at*
   have rowz:z.row=[.string ⟨z.r.n.toArray⟩,.int .i64 z.r.g,z.vp,z.vq,z.vo,z.vf]:=rfl
   have h2:((k:Nat):Int)<((i:Nat):Int):=by omega
   have h3:(0:Int)≤(k:Int):=by omega
   have h4:((k:Nat):Int)<((n:Nat):Int):=by omega
   have hw2:IntKind.i64.wrap ((k:Int)+1)=((k+1:Nat):Int):=by rw[wrap_i64 (by omega) (by omega)];simp
   have gA2:=kk.at_ gA
   have gyk:=gy.trans gy1
   have cC:=t65 ((h.keeps kA).keeps kk) ((hyo.keeps kA).keeps kk) ((hzo.keeps kA).keeps kk) hlim zlim hL
   simp only[rowy,rowz,hul]at cC rb
   simp(disch:=first|assumption|omega|(simp only[LN]<;>omega)|(simp(disch:=first|assumption|omega|(simp only[LN]<;>omega))only[row_alloc,row_set];assumption))only[W_block,P3,seval,initFr,clsA,h2,gA2,gyk,lr,nb,rb,a_loadnvf]
   refine callK cC ?_
   rintro _ X ⟨rfl,hX⟩
   rw[hX]
   rw[hyr,hzr]
   show _
   have hcf:confB L (ro L i) (ro L k)=cf L i k:=rfl
   rw[hcf]
   have hgl:=AHeap.get_lt go
   cases hc:cf L i k with
   |false=>
    simp(disch:=first|assumption|omega)only[W_block,P3,seval,initFr,clsA,hw2]
    rw[tc_no L hlk hc]at go
    exact hn2 _ _ _ ⟨k+1,_,_,_,rfl,kk,gn,gy,go,by omega,rfl⟩ (by omega)
   |true=>
    have t1:=tc_at L i k (show i<n by omega)
    have t2:=tc_at L i k (show k<n by omega)
    have t3:∀v:Value,((tc L i k n).set i v)[k]? =some (S64 (tb_ L i k k)):=fun v=>by rw[List.getElem?_set_ne (by omega),t2]
    have s1:=s_shl1 (show i<64 by omega)
    have s2:=s_shl1 (show k<64 by omega)
    have i1:i<n:=hlt
    have i2:k<n:=by omega
    have g3:∀o,(K.set (H.n+1) o).get (H.n+1)=some o:=fun o=>AHeap.get_set_same go o
    simp(disch:=first|assumption|omega)only[W_block,P3,seval,initFr,clsA,hw2,go,t1,t2,t3,s1,s2,s_or,one_s64,o_s64,List.length_set,tc_len,i1,i2,g3,Int.toNat_natCast,Nat.mul_one,Nat.zero_add]
    rw[tc_yes L hlk hlt hc (fun _=>rfl) (fun _=>rfl)]
    exact hn2 _ _ _ ⟨k+1,_,_,_,rfl,kk.set (by omega) hgl _,gn,by rw[AHeap.get_set_other K (by omega) hgl];exact gy,AHeap.get_set_same go _,by omega,rfl⟩ (by omega)
  ·have h2:¬((k:Nat):Int)<((i:Nat):Int):=by omega
   have hki:k=i:=by omega
   subst hki
   simp(disch:=first|assumption|omega)only[W_block,P3,seval,initFr,clsA,h2]
   refine hx2 _ _ _ ?_
   simp(disch:=first|assumption|omega)only[W_block,P3,seval,initFr,clsA,hw]
   rw[tc_next]at go
   exact hn' _ _ _ ⟨k+1,_,_,_,_,_,_,_,_,rfl,kk,go,by omega,rfl⟩ (by omega)
 ·have h1:¬((i:Nat):Int)<((n:Nat):Int):=by omega
  have hin:i=n:=by omega
  subst hin
  simp(disch:=first|assumption|omega)only[W_block,P3,seval,initFr,clsA,h1]
  subst hn
  rw[tc_end L (by omega)]at gm
  refine hx' _ _ _ ?_
  simp(disch:=first|assumption|omega)only[W_block,P3,seval,initFr,clsA]
  exact hq2 _ _ ⟨_,rfl,kA.trans km,fun e=>absurd he e,fun _=>⟨_,rfl,by omega,gm⟩⟩
end Go.AM.Fd

set_option maxRecDepth 100000
set_option maxHeartbeats 0
namespace Go.AM.F
def Z68F:List Value:=[(.int .u64 0),(.int .u64 0),(.int .u64 0)]++List.replicate 64 (.int .u8 0)++[(.int .u32 0)]
def O68F:List Nat:=List.replicate 68 1
def zclF:TypeId→List Value
 |33=>[(.int .u64 0)]
 |59=>[(.slice none 0 0),(.slice none 0 0),(.int .u64 0),(.int .u32 0),(.int .u64 0)]
 |49=>[(.string ByteArray.empty),(.int .i64 0),(.slice none 0 0),(.slice none 0 0),(.slice none 0 0),(.slice none 0 0)]
 |88=>[(.int .u64 0),(.int .u64 0),(.int .u64 0),(.int .u32 0),(.int .u32 0),(.int .u64 0)]
 |55=>[(.int .i64 0),(.bool false)]
 |52=>[(.string ByteArray.empty),(.int .i64 0)]
 |63=>[(.slice none 0 0),(.slice none 0 0),(.int .u64 0),(.int .u32 0),(.int .u64 0)]
 |37=>Z68F
 |_=>[]
def zvlF:TypeId→Value
 |_=>undef
def zklF:TypeId→List Nat
 |37=>O68F
 |_=>[]
def zrlF:Nat→TypeId→List Value
 |1,88=>[(.int .u64 0),(.int .u64 0),(.int .u64 0),(.int .u32 0),(.int .u32 0),(.int .u64 0)]
 |1,33=>[(.int .u64 0)]
 |_,_=>[]
noncomputable def f22:AFunc:=by
 refine(fun(_:Cz zclF zvlF zklF zrlF Go.Proofs.Tryz.prog 0 [0,1,4] 22 ?a)=>?a) ?h
 case h=>
 intro zc zv zk zr hc hv hk hr
 conv=>lhs;cbv;try simp only[hc,hv,hk,hr,zclF,zvlF,zklF,zrlF]
theorem f22_ok:compF Go.Proofs.Tryz.prog 0 [0,1,4] 22=some f22:=by kernel_rfl
theorem f22_n:argsOK Go.Proofs.Tryz.prog 22 2=true:=by kernel_rfl
noncomputable def f66:AFunc:=by
 refine(fun(_:Cz zclF zvlF zklF zrlF Go.Proofs.Tryz.prog 0 [0,2,8] 66 ?a)=>?a) ?h
 case h=>
 intro zc zv zk zr hc hv hk hr
 conv=>lhs;cbv;try simp only[hc,hv,hk,hr,zclF,zvlF,zklF,zrlF]
theorem f66_ok:compF Go.Proofs.Tryz.prog 0 [0,2,8] 66=some f66:=by kernel_rfl
theorem f66_n:argsOK Go.Proofs.Tryz.prog 66 1=true:=by kernel_rfl
noncomputable def f31:AFunc:=by
 refine(fun(_:Cz zclF zvlF zklF zrlF Go.Proofs.Tryz.prog 0 [0,1,4] 31 ?a)=>?a) ?h
 case h=>
 intro zc zv zk zr hc hv hk hr
 conv=>lhs;cbv;try simp only[hc,hv,hk,hr,zclF,zvlF,zklF,zrlF]
theorem f31_ok:compF Go.Proofs.Tryz.prog 0 [0,1,4] 31=some f31:=by kernel_rfl
theorem f31_n:argsOK Go.Proofs.Tryz.prog 31 2=true:=by kernel_rfl
noncomputable def f29:AFunc:=by
 refine(fun(_:Cz zclF zvlF zklF zrlF Go.Proofs.Tryz.prog 0 [0,2,3,5,6,7,8,9] 29 ?a)=>?a) ?h
 case h=>
 intro zc zv zk zr hc hv hk hr
 conv=>lhs;cbv;try simp only[hc,hv,hk,hr,zclF,zvlF,zklF,zrlF]
theorem f29_ok:compF Go.Proofs.Tryz.prog 0 [0,2,3,5,6,7,8,9] 29=some f29:=by kernel_rfl
theorem f29_n:argsOK Go.Proofs.Tryz.prog 29 1=true:=by kernel_rfl
noncomputable def f28:AFunc:=by
 refine(fun(_:Cz zclF zvlF zklF zrlF Go.Proofs.Tryz.prog 0 [0,2,3,6] 28 ?a)=>?a) ?h
 case h=>
 intro zc zv zk zr hc hv hk hr
 conv=>lhs;cbv;try simp only[hc,hv,hk,hr,zclF,zvlF,zklF,zrlF]
theorem f28_ok:compF Go.Proofs.Tryz.prog 0 [0,2,3,6] 28=some f28:=by kernel_rfl
theorem f28_n:argsOK Go.Proofs.Tryz.prog 28 1=true:=by kernel_rfl
noncomputable def f112:AFunc:=by
 refine(fun(_:Cz zclF zvlF zklF zrlF Go.Proofs.Tryz.prog 0 [0,1,2,4,5,6,12,13] 112 ?a)=>?a) ?h
 case h=>
 intro zc zv zk zr hc hv hk hr
 have e0A:=(rfl:rfA Go.Proofs.Tryz.prog 112 0=rfA Go.Proofs.Tryz.prog 112 0);conv at e0A=>rhs;cbv
 have e0B:=(rfl:rfB Go.Proofs.Tryz.prog 112 0=rfB Go.Proofs.Tryz.prog 112 0);conv at e0B=>rhs;cbv
 conv=>lhs;cbv;try simp only[hc,hv,hk,hr,zclF,zvlF,zklF,zrlF];simp only[←e0A,←e0B]
theorem f112_ok:compF Go.Proofs.Tryz.prog 0 [0,1,2,4,5,6,12,13] 112=some f112:=by kernel_rfl
theorem f112_n:argsOK Go.Proofs.Tryz.prog 112 2=true:=by kernel_rfl
noncomputable def f112r0a:ACode:=by
 refine(fun(_:CzC zclF zvlF zklF zrlF Go.Proofs.Tryz.prog 0 21 [0,1,2,4,5,6,12,13] (rfA Go.Proofs.Tryz.prog 112 0) ?a)=>?a) ?h
 case h=>intro zc zv zk zr hc hv hk hr;conv=>lhs;cbv;try simp only[hc,hv,hk,hr,zclF,zvlF,zklF,zrlF]
theorem f112r0a_ok:compC Go.Proofs.Tryz.prog 0 21 [0,1,2,4,5,6,12,13] (rfA Go.Proofs.Tryz.prog 112 0)=some f112r0a:=by kernel_rfl
noncomputable def f112r0b:ACode:=by
 refine(fun(_:CzC zclF zvlF zklF zrlF Go.Proofs.Tryz.prog 0 21 [0,1,2,4,5,6,12,13] (rfB Go.Proofs.Tryz.prog 112 0) ?a)=>?a) ?h
 case h=>intro zc zv zk zr hc hv hk hr;conv=>lhs;cbv;try simp only[hc,hv,hk,hr,zclF,zvlF,zklF,zrlF]
theorem f112r0b_ok:compC Go.Proofs.Tryz.prog 0 21 [0,1,2,4,5,6,12,13] (rfB Go.Proofs.Tryz.prog 112 0)=some f112r0b:=by kernel_rfl
theorem f112r0_n:(noRF (rfA Go.Proofs.Tryz.prog 112 0)&&noRF (rfB Go.Proofs.Tryz.prog 112 0))=true:=by kernel_rfl
noncomputable def f71:AFunc:=by
 refine(fun(_:Cz zclF zvlF zklF zrlF Go.Proofs.Tryz.prog 0 [0,1,2] 71 ?a)=>?a) ?h
 case h=>
 intro zc zv zk zr hc hv hk hr
 conv=>lhs;cbv;try simp only[hc,hv,hk,hr,zclF,zvlF,zklF,zrlF]
theorem f71_ok:compF Go.Proofs.Tryz.prog 0 [0,1,2] 71=some f71:=by kernel_rfl
theorem f71_n:argsOK Go.Proofs.Tryz.prog 71 1=true:=by kernel_rfl
noncomputable def f114:AFunc:=by
 refine(fun(_:Cz zclF zvlF zklF zrlF Go.Proofs.Tryz.prog 0 [0,1,3,4,5,15] 114 ?a)=>?a) ?h
 case h=>
 intro zc zv zk zr hc hv hk hr
 conv=>lhs;cbv;try simp only[hc,hv,hk,hr,zclF,zvlF,zklF,zrlF]
theorem f114_ok:compF Go.Proofs.Tryz.prog 0 [0,1,3,4,5,15] 114=some f114:=by kernel_rfl
theorem f114_n:argsOK Go.Proofs.Tryz.prog 114 2=true:=by kernel_rfl
noncomputable def f39:AFunc:=by
 refine(fun(_:Cz zclF zvlF zklF zrlF Go.Proofs.Tryz.prog 0 [0,2] 39 ?a)=>?a) ?h
 case h=>
 intro zc zv zk zr hc hv hk hr
 conv=>lhs;cbv;try simp only[hc,hv,hk,hr,zclF,zvlF,zklF,zrlF]
theorem f39_ok:compF Go.Proofs.Tryz.prog 0 [0,2] 39=some f39:=by kernel_rfl
theorem f39_n:argsOK Go.Proofs.Tryz.prog 39 1=true:=by kernel_rfl
noncomputable def f12:AFunc:=by
 refine(fun(_:Cz zclF zvlF zklF zrlF Go.Proofs.Tryz.prog 0 [0,1,2,3,4,5,6,7,8,9,11,13,20,38,39,40,41,67,68,69,70,74,98,99,100,101] 12 ?a)=>?a) ?h
 case h=>
 intro zc zv zk zr hc hv hk hr
 conv=>lhs;cbv;try simp only[hc,hv,hk,hr,zclF,zvlF,zklF,zrlF]
theorem f12_ok:compF Go.Proofs.Tryz.prog 0 [0,1,2,3,4,5,6,7,8,9,11,13,20,38,39,40,41,67,68,69,70,74,98,99,100,101] 12=some f12:=by kernel_rfl
theorem f12_n:argsOK Go.Proofs.Tryz.prog 12 1=true:=by kernel_rfl
noncomputable def f90:AFunc:=by
 refine(fun(_:Cz zclF zvlF zklF zrlF Go.Proofs.Tryz.prog 0 [0,1,2,3,6,7,8,9,11,12,13,14,20] 90 ?a)=>?a) ?h
 case h=>
 intro zc zv zk zr hc hv hk hr
 conv=>lhs;cbv;try simp only[hc,hv,hk,hr,zclF,zvlF,zklF,zrlF]
theorem f90_ok:compF Go.Proofs.Tryz.prog 0 [0,1,2,3,6,7,8,9,11,12,13,14,20] 90=some f90:=by kernel_rfl
theorem f90_n:argsOK Go.Proofs.Tryz.prog 90 3=true:=by kernel_rfl
noncomputable def f91:AFunc:=by
 refine(fun(_:Cz zclF zvlF zklF zrlF Go.Proofs.Tryz.prog 0 [0,1,2] 91 ?a)=>?a) ?h
 case h=>
 intro zc zv zk zr hc hv hk hr
 conv=>lhs;cbv;try simp only[hc,hv,hk,hr,zclF,zvlF,zklF,zrlF]
theorem f91_ok:compF Go.Proofs.Tryz.prog 0 [0,1,2] 91=some f91:=by kernel_rfl
theorem f91_n:argsOK Go.Proofs.Tryz.prog 91 1=true:=by kernel_rfl
noncomputable def f92:AFunc:=by
 refine(fun(_:Cz zclF zvlF zklF zrlF Go.Proofs.Tryz.prog 0 [0,1,2] 92 ?a)=>?a) ?h
 case h=>
 intro zc zv zk zr hc hv hk hr
 conv=>lhs;cbv;try simp only[hc,hv,hk,hr,zclF,zvlF,zklF,zrlF]
theorem f92_ok:compF Go.Proofs.Tryz.prog 0 [0,1,2] 92=some f92:=by kernel_rfl
theorem f92_n:argsOK Go.Proofs.Tryz.prog 92 1=true:=by kernel_rfl
noncomputable def f93:AFunc:=by
 refine(fun(_:Cz zclF zvlF zklF zrlF Go.Proofs.Tryz.prog 0 [0,1,2,3,6,7,8,9,11,12,13,14,20] 93 ?a)=>?a) ?h
 case h=>
 intro zc zv zk zr hc hv hk hr
 conv=>lhs;cbv;try simp only[hc,hv,hk,hr,zclF,zvlF,zklF,zrlF]
theorem f93_ok:compF Go.Proofs.Tryz.prog 0 [0,1,2,3,6,7,8,9,11,12,13,14,20] 93=some f93:=by kernel_rfl
theorem f93_n:argsOK Go.Proofs.Tryz.prog 93 3=true:=by kernel_rfl
noncomputable def f94:AFunc:=by
 refine(fun(_:Cz zclF zvlF zklF zrlF Go.Proofs.Tryz.prog 0 [0,1,2] 94 ?a)=>?a) ?h
 case h=>
 intro zc zv zk zr hc hv hk hr
 conv=>lhs;cbv;try simp only[hc,hv,hk,hr,zclF,zvlF,zklF,zrlF]
theorem f94_ok:compF Go.Proofs.Tryz.prog 0 [0,1,2] 94=some f94:=by kernel_rfl
theorem f94_n:argsOK Go.Proofs.Tryz.prog 94 1=true:=by kernel_rfl
noncomputable def f53:AFunc:=by
 refine(fun(_:Cz zclF zvlF zklF zrlF Go.Proofs.Tryz.prog 0 [0,1,2,4,5] 53 ?a)=>?a) ?h
 case h=>
 intro zc zv zk zr hc hv hk hr
 conv=>lhs;cbv;try simp only[hc,hv,hk,hr,zclF,zvlF,zklF,zrlF]
theorem f53_ok:compF Go.Proofs.Tryz.prog 0 [0,1,2,4,5] 53=some f53:=by kernel_rfl
theorem f53_n:argsOK Go.Proofs.Tryz.prog 53 2=true:=by kernel_rfl
noncomputable def f54:AFunc:=by
 refine(fun(_:Cz zclF zvlF zklF zrlF Go.Proofs.Tryz.prog 0 [0,1,2,4] 54 ?a)=>?a) ?h
 case h=>
 intro zc zv zk zr hc hv hk hr
 conv=>lhs;cbv;try simp only[hc,hv,hk,hr,zclF,zvlF,zklF,zrlF]
theorem f54_ok:compF Go.Proofs.Tryz.prog 0 [0,1,2,4] 54=some f54:=by kernel_rfl
theorem f54_n:argsOK Go.Proofs.Tryz.prog 54 2=true:=by kernel_rfl
noncomputable def f5:AFunc:=by
 refine(fun(_:Cz zclF zvlF zklF zrlF Go.Proofs.Tryz.prog 0 [0,1,2,3,4,5,12] 5 ?a)=>?a) ?h
 case h=>
 intro zc zv zk zr hc hv hk hr
 conv=>lhs;cbv;try simp only[hc,hv,hk,hr,zclF,zvlF,zklF,zrlF]
theorem f5_ok:compF Go.Proofs.Tryz.prog 0 [0,1,2,3,4,5,12] 5=some f5:=by kernel_rfl
theorem f5_n:argsOK Go.Proofs.Tryz.prog 5 1=true:=by kernel_rfl
noncomputable def f14:AFunc:=by
 refine(fun(_:Cz zclF zvlF zklF zrlF Go.Proofs.Tryz.prog 0 [0,1,2,3,4,5,8] 14 ?a)=>?a) ?h
 case h=>
 intro zc zv zk zr hc hv hk hr
 conv=>lhs;cbv;try simp only[hc,hv,hk,hr,zclF,zvlF,zklF,zrlF]
theorem f14_ok:compF Go.Proofs.Tryz.prog 0 [0,1,2,3,4,5,8] 14=some f14:=by kernel_rfl
theorem f14_n:argsOK Go.Proofs.Tryz.prog 14 1=true:=by kernel_rfl
noncomputable def f8:AFunc:=by
 refine(fun(_:Cz zclF zvlF zklF zrlF Go.Proofs.Tryz.prog 0 [0,1,3,4,5,6,8,41,42,43,52] 8 ?a)=>?a) ?h
 case h=>
 intro zc zv zk zr hc hv hk hr
 conv=>lhs;cbv;try simp only[hc,hv,hk,hr,zclF,zvlF,zklF,zrlF]
theorem f8_ok:compF Go.Proofs.Tryz.prog 0 [0,1,3,4,5,6,8,41,42,43,52] 8=some f8:=by kernel_rfl
theorem f8_n:argsOK Go.Proofs.Tryz.prog 8 2=true:=by kernel_rfl
noncomputable def f20:AFunc:=by
 refine(fun(_:Cz zclF zvlF zklF zrlF Go.Proofs.Tryz.prog 0 [0,1,3,4,5,6,15] 20 ?a)=>?a) ?h
 case h=>
 intro zc zv zk zr hc hv hk hr
 conv=>lhs;cbv;try simp only[hc,hv,hk,hr,zclF,zvlF,zklF,zrlF]
theorem f20_ok:compF Go.Proofs.Tryz.prog 0 [0,1,3,4,5,6,15] 20=some f20:=by kernel_rfl
theorem f20_n:argsOK Go.Proofs.Tryz.prog 20 2=true:=by kernel_rfl
end Go.AM.F

namespace Go.AM.Fd
open Nat (reduceAdd reduceEqDiff reduceLT reduceLeDiff reduceMul reduceSub)
open Go.Proofs Go.AM.F
def hasB(f:Nat→Bool)(n:Int):Bool:=decide (0≤n)&&(decide (n<64)&&f n.toNat)
def oneP(n:Int)(i:Nat):Bool:=decide ((i:Int)=n)
theorem t22{H:AHeap}(f:Nat→Bool)(n:Int):∃w H',ARun Tryz.prog 0 22 [S64 f,.int .i64 n] H w H'∧w=.bool (hasB f n)∧H'=H:=by
 refine walk2 f22_ok f22_n ?_
 intro Q hq1 hq2
 unfold hasB at hq1 hq2
 by_cases h1:0≤n
 ·by_cases h2:n<64
  ·obtain⟨m,rfl⟩:∃m:Nat,n=(m:Int):=⟨n.toNat,by omega⟩
   have h3:m<64:=by omega
   simp(disch:=first|assumption|omega)only[f22,W_block,P3,seval,initFr,clsA,h1,h2,s_shr,s_and1,i1_eq,o_s64,o_i1]
   refine hq2 _ _ ⟨.bool _,rfl,?_,rfl⟩
   simp;intro _;omega
  ·simp(disch:=first|assumption|omega)only[f22,W_block,P3,seval,initFr,clsA,h1,h2]
   exact hq2 _ _ ⟨.bool _,rfl,by simp[h2],rfl⟩
 ·simp(disch:=first|assumption|omega)only[f22,W_block,P3,seval,initFr,clsA,h1]
  exact hq2 _ _ ⟨.bool _,rfl,by simp[h1],rfl⟩
theorem t66{H:AHeap}(n:Int):∃w H',ARun Tryz.prog 0 66 [.int .i64 n] H w H'∧w=S64 (oneP n)∧H'=H:=by
 refine walk2 f66_ok f66_n ?_
 intro Q hq1 hq2
 have hz:n<0∨64≤n→Value.int .u64 0=S64 (oneP n):=fun h=>by
  rw[s_zero];apply s64_ext;intro i hi;simp[oneP];omega
 by_cases h1:n<0
 ·simp(disch:=first|assumption|omega)only[f66,W_block,P3,seval,initFr,clsA,h1]
  exact hq2 _ _ ⟨.int .u64 0,rfl,hz (.inl h1),rfl⟩
 ·by_cases h2:64≤n
  ·simp(disch:=first|assumption|omega)only[f66,W_block,P3,seval,initFr,clsA,h1,h2]
   exact hq2 _ _ ⟨.int .u64 0,rfl,hz (.inr h2),rfl⟩
  ·obtain⟨m,rfl⟩:∃m:Nat,n=(m:Int):=⟨n.toNat,by omega⟩
   have h3:=s_shl1 (show m<64 by omega)
   simp(disch:=first|assumption|omega)only[f66,W_block,P3,seval,initFr,clsA,h1,h2,h3,o_s64]
   refine hq2 _ _ ⟨S64 _,rfl,?_,rfl⟩
   apply s64_ext;intro i hi;simp only[oneP,Int.ofNat_inj]
theorem t31{H:AHeap}(f:Nat→Bool)(n:Int):∃w H',ARun Tryz.prog 0 31 [S64 f,.int .i64 n] H w H'∧w=S64 (fun i=>f i||oneP n i)∧H'=H:=by
 refine walk2 f31_ok f31_n ?_
 intro Q hq1 hq2
 simp(disch:=first|assumption|omega)only[f31,W_block,P3,seval,initFr,clsA]
 refine callQ (t66 n) ?_
 simp(disch:=first|assumption|omega)only[W_block,P3,seval,initFr,clsA,s_or,o_s64]
 exact hq2 _ _ ⟨_,rfl,rfl,rfl⟩
theorem t31z{H:AHeap}(n:Int):∃w H',ARun Tryz.prog 0 31 [.int .u64 0,.int .i64 n] H w H'∧w=S64 (oneP n)∧H'=H:=by
 obtain⟨w,H',r,e1,e2⟩:=t31 (H:=H) (fun _=>false) n
 rw[←s_zero]at r
 exact⟨w,H',r,by rw[e1];exact s64_ext fun i _=>by simp,e2⟩
theorem t29{H:AHeap}{v:Value}{l:List Int}(h:IL H v l)(hl:l.length≤1000000):∃w H',ARun Tryz.prog 0 29 [v] H w H'∧w=S64 (fun i=>l.contains (i:Int))∧H'=H:=by
 refine walk2 f29_ok f29_n ?_
 intro Q hq1 hq2
 have len:=h.len
 have is:=Sl.is h
 simp(disch:=first|assumption|omega)only[f29,P3,seval,initFr,clsA,len,is]
 rw[W_block]
 refine W_loop2 (fun q fr M=>∃i x3 x7,fr=[v,.int .u64 0,S64 (fun j=>(l.take i).contains (j:Int)),x3,v,.int .i64 ((l.length:Nat):Int),.int .i64 ((i:Nat):Int),x7]∧M=H∧i≤l.length∧q=l.length-i) l.length
  ⟨0,_,_,by simp only[List.take_zero];rw[s_zero];rfl,rfl,by omega,rfl⟩ ?_
 rintro Q' q fr M ⟨i,x3,x7,rfl,rfl,hi,rfl⟩ hn' hx' hret
 by_cases hlt:i<l.length
 ·obtain⟨na,ra⟩:=h.at_ hlt
  have h0:(0:Int)≤(i:Int):=by omega
  have h1:(i:Int)<((l.length:Nat):Int):=by omega
  have hw:IntKind.i64.wrap ((i:Int)+1)=((i+1:Nat):Int):=by rw[wrap_i64 (by omega) (by omega)];simp
  simp(disch:=first|assumption|omega)only[W_block,P3,seval,initFr,clsA,h1,len,na,ra,a_load1v]
  refine callQ (t66 _) ?_
  simp(disch:=first|assumption|omega)only[W_block,P3,seval,initFr,clsA,s_or,o_s64,hw]
  refine hn' _ _ _ ⟨i+1,.int .i64 (l.getD i 0),.bool true,?_,rfl,by omega,rfl⟩ (by omega)
  congr 3
  apply s64_ext
  intro j hj
  rw[List.take_add_one,List.getElem?_eq_getElem hlt]
  simp only[oneP,List.getD_eq_getElem?_getD,List.getElem?_eq_getElem hlt,Option.getD_some,Option.toList_some]
  rw[List.contains_append]
  simp
 ·have h1:¬((i:Nat):Int)<((l.length:Nat):Int):=by omega
  have hin:i=l.length:=by omega
  subst hin
  simp(disch:=first|assumption|omega)only[W_block,P3,seval,initFr,clsA,h1]
  refine hx' _ _ _ ?_
  simp(disch:=first|assumption|omega)only[W_block,P3,seval,initFr,clsA]
  exact hq2 _ _ ⟨S64 _,rfl,by rw[List.take_length],rfl⟩
theorem bit_low{n:Nat}(h:n<64):2 ^ n-1=bitsN (fun i=>decide (i<n)) 64:=by
 apply Nat.eq_of_testBit_eq
 intro i
 rw[Nat.testBit_two_pow_sub_one,bitsN_t]
 by_cases hi:i<n
 ·have:i<64:=by omega
  simp[hi,this]
 ·simp[hi]
theorem s_sub1{n:Nat}(h:n<64):binA .sub (S64 fun i=>decide (i=n)) (.int .u64 1)=some (S64 fun i=>decide (i<n)):=by
 unfold S64
 rw[←bit_pow h,b_sub,←bit_low h]
 have hp:0<2 ^ n:=Nat.pow_pos (by omega)
 have hu:=pow_u h
 have e:((2 ^ n:Nat):Int)-1=((2 ^ n-1:Nat):Int):=by omega
 rw[e,w64 _ (by have:(2:Nat) ^ 64=U:=rfl;omega)]
theorem s_full:Value.int .u64 18446744073709551615=S64 (fun _=>true):=by
 unfold S64
 have:bitsN (fun _=>true) 64=2 ^ 64-1:=by
  apply Nat.eq_of_testBit_eq
  intro i
  rw[Nat.testBit_two_pow_sub_one,bitsN_t];simp
 rw[this];rfl
def lowP(n:Int)(i:Nat):Bool:=decide ((i:Int)<n)
theorem t28{H:AHeap}(n:Int):∃w H',ARun Tryz.prog 0 28 [.int .i64 n] H w H'∧w=S64 (lowP n)∧H'=H:=by
 refine walk2 f28_ok f28_n ?_
 intro Q hq1 hq2
 by_cases h1:n≤0
 ·simp(disch:=first|assumption|omega)only[f28,W_block,P3,seval,initFr,clsA,h1]
  exact hq2 _ _ ⟨.int .u64 0,rfl,by rw[s_zero];apply s64_ext;intro i hi;simp[lowP];omega,rfl⟩
 ·by_cases h2:64≤n
  ·simp(disch:=first|assumption|omega)only[f28,W_block,P3,seval,initFr,clsA,h1,h2]
   exact hq2 _ _ ⟨.int .u64 18446744073709551615,rfl,by rw[s_full];apply s64_ext;intro i hi;simp[lowP];omega,rfl⟩
  ·obtain⟨m,rfl⟩:∃m:Nat,n=(m:Int):=⟨n.toNat,by omega⟩
   have h3:=s_shl1 (show m<64 by omega)
   have h4:=s_sub1 (show m<64 by omega)
   simp(disch:=first|assumption|omega)only[f28,W_block,P3,seval,initFr,clsA,h1,h2,h3,h4,o_s64]
   refine hq2 _ _ ⟨S64 _,rfl,?_,rfl⟩
   apply s64_ext;intro i hi;simp only[lowP,Int.ofNat_lt]
end Go.AM.Fd

set_option maxRecDepth 8000
namespace Go.AM.Fd
open Go.Proofs Go.AM.F
theorem cells_s64(f:Nat→Bool):(S64 f).cells.toList=[S64 f]:=rfl
theorem cells_s32(f:Nat→Bool):(S32 f).cells.toList=[S32 f]:=rfl
def trP(r:Ro)(i:Nat):Bool:=(trk r).contains (i:Int)
def fiP(r:Ro):Nat→Bool:=oneP (r.path.getD 0 0)
def ahP(L:Ly)(r:Ro):Nat→Bool:=oneP (L.g.getD r.g.toNat ([],0)).2
def ndP(l:List (Int×Bool))(b:Bool)(p:Nat):Bool:=l.contains ((p:Int),b)
def mrow(L:Ly)(i:Nat):List Value:=[S64 (trP (ro L i)),S64 (fiP (ro L i)),S64 (ahP L (ro L i)),S32 (ndP (nds (ro L i)) false),S32 (ndP (nds (ro L i)) true),S64 (tabP L i)]
def mrows(L:Ly):List (List Value):=(List.range L.r.length).map (mrow L)
def lieP(L:Ly)(i:Nat):Nat→Bool:=oneP (L.p.getD i ([],0)).2
def mlies(L:Ly):List (List Value):=(List.range L.p.length).map fun i=>[S64 (lieP L i)]
def mcells(L:Ly)(vr vl:Value):List Value:=[vr,vl,S64 (lowP L.r.length),S32 (lowP L.p.length),S64 (lowP L.s.length)]
structure RoGood (L:Ly) (r:Ro):Prop where
 lim:RoLim L r
 ne:0<r.path.length
 tr:∀x∈trk r,0≤x∧x<L.s.length
 nd:∀x∈nds r,0≤x.1∧x.1<L.p.length
theorem check_may{L:Ly}(h:checkE L=0):mayB L=true:=by
 unfold checkE at h
 cases hm:mayB L with
 |true=>rfl
 |false=>rw[hm]at h;cases h
theorem check_form{L:Ly}(h:checkE L=0){r:Ro}(hr:r∈L.r):formedB L r=true:=by
 have hm:=check_may h
 unfold checkE at h
 rw[hm]at h
 cases hf:L.r.all (formedB L)with
 |false=>rw[hf]at h;cases h
 |true=>exact List.all_eq_true.1 hf r hr
theorem check_good{L:Ly}(h:checkE L=0){r:Ro}(hr:r∈L.r):RoGood L r:=by
 have hm:=check_may h
 have hf:=check_form h hr
 have hl:=may_ro hm hr
 have hb:roB L r=true:=by
  have:=hm
  simp only[mayB,Bool.and_eq_true,Bool.not_eq_true',List.all_eq_true]at this
  simp_all
 refine⟨hl,?_,?_,?_⟩
 ·simp only[formedB,badB,Bool.and_eq_true,Bool.not_eq_true',Bool.or_eq_false_iff]at hf
  have:=hf.1.1.1.1
  cases hp:r.path with
  |nil=>rw[hp]at this;cases this
  |cons a l=>simp
 ·simp only[roB,inB,Bool.and_eq_true,decide_eq_true_eq,List.all_eq_true]at hb
  intro x hx
  rcases List.mem_append.1 hx with hx|hx
  ·exact hb.1.2.1.2 x hx
  ·exact hb.1.2.2 x hx
 ·simp only[roB,needB,inB,Bool.and_eq_true,decide_eq_true_eq,List.all_eq_true]at hb
  intro x hx
  rcases List.mem_append.1 hx with hx|hx
  ·have:=hb.2.1.2 x hx;simpa using this
  ·have:=hb.2.2.2 x hx;simpa using this
end Go.AM.Fd
