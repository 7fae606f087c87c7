/- Part of the proof. -/
import Derived.Test.YtfjdehnnfljjfaaGreatGLK04
import Derived.RangeFuncLeaves
import Derived.WalkLawsBesides
import Derived.Defers
import Derived.Recover
set_option linter.unusedSimpArgs false
set_option linter.unusedVariables false
set_option linter.unusedSimpArgs false
set_option linter.unusedVariables false
namespace Go.AM.Fd
open Nat (reduceAdd reduceEqDiff reduceLT reduceLeDiff reduceMul reduceSub)
open Go.Proofs Go.AM.F
structure REn (A:List Th) (K X:AHeap) (b:Nat) (vb vo:Value) (inn:Int) (vl:Value) (D:Dk) (L:Lg):Prop where
 u:Upd A (rlT K.n b vl L++ekT b vb vo inn D) K X
 ok:D.ok
 i:∀n,D.ar=some n→inn=(n:Nat)
 n3:3≤D.bl.length
def ROpenR(A:List Th)(K H:AHeap)(b:Nat)(vb:Value)(res:Dk×Option Lg×Int)(w:Value):Prop:=match res.2.1 with
 |none=>w=.tuple #[.pointer none,.int .i64 res.2.2]∧∃vo' inn',EkR H b vb vo' inn' res.1∧Upd A (ekT b vb vo' inn' res.1) K H
 |some L=>∃lb vo' inn' vl,w=.tuple #[ptr lb 0,.int .i64 0]∧K.n≤lb∧RlR H lb b vb vo' inn' vl res.1 L∧Upd A (rlT lb b vl L++ekT b vb vo' inn' res.1) K H
section
variable {A:List Th} {K X:AHeap} {b:Nat} {vb vo vl:Value} {inn:Int} {D:Dk} {L:Lg}
theorem REn.g(h:REn A K X b vb vo inn vl D L):X.get K.n=some (.cells true false 5 [ptr b 0,.int .i64 (L.turn:Nat),.int .i64 (L.first:Nat),vl,.int .i64 L.br] 133):=h.u.sep.get 0 rfl
theorem REn.rl(h:REn A K X b vb vo inn vl D L)(lok:L.ok):RlR X K.n b vb vo inn vl D L:=⟨h.u.sep,h.ok,h.i,h.n3,lok⟩
theorem REn.e(h:REn A K X b vb vo inn vl D L):EkR X b vb vo inn D:=⟨h.u.sep.right,h.ok,h.i⟩
theorem REn.set(h:REn A K X b vb vo inn vl D L)(t f:Nat):REn A K (X.set K.n (.cells true false 5 (rlC b vl ⟨t,f,L.rs,L.br⟩) 133)) b vb vo inn vl D ⟨t,f,L.rs,L.br⟩:=
 ⟨Upd.next (l:=[]) (t':=thB K.n (.cells true false 5 (rlC b vl ⟨t,f,L.rs,L.br⟩) 133)) h.u (Chg.set X (AHeap.get_lt h.g) _) (AHeap.get_set_same h.g _) (by simp[thB]),h.ok,h.i,h.n3⟩
theorem REn.end_(h:REn A K X b vb vo inn vl D L):Upd A (ekT b vb vo inn D) K X:=h.u.dropL
theorem REn.err(h:REn A K X b vb vo inn vl D L)(e:Int):ROpenR A K X b vb (D,none,e) (.tuple #[.pointer none,.int .i64 e]):=⟨rfl,vo,inn,h.e,h.end_⟩
theorem e_str(l:List UInt8)(D:Dk)(i:Nat)(h:askD D (i:Nat)=0):(if askD D (i:Nat)=0 then rdB D ((i:Nat):Int).toNat else[])=rdB D i:=by rw[if_pos h];rfl
set_option maxRecDepth 20000 in
theorem rlRing{Q:AQ}{x1 x2 x3 x4 x5 x6 x7 x8 x10 x11 x12 x13 x14 x15 x16 x17 x18 x19 x20 x21 x22 x23 x24 x25 x26 x27:Value}(h:REn A K X b vb vo inn vl D L)(lok:L.ok)(ho:D.off=false)
 (hq2:∀fr H2,(∃w,resO f14.res fr H2=some w∧ROpenR A K H2 b vb (if anyW D L.next (D.bl.length-2)=true then(D,none,151)else(D,some L,0)) w)→Q .ret fr H2):
 W Go.Proofs.Tryz.prog 0 (cpost 11 f14.body) Q [ptr b 0,x1,x2,x3,x4,x5,x6,x7,x8,ptr K.n 0,x10,x11,x12,x13,x14,x15,x16,x17,x18,x19,x20,x21,x22,x23,x24,x25,x26,x27] X:=by
 have n4:=h.ok.n
 have n3:=h.n3
 have ib:=Sl.is h.e.sb
 have lb2:lenS vb=D.bl.length:=by have:=Sl.len h.e.sb;simpa using this
 have ge:=h.e.g
 have hany:∀n,anyW D L.next (n+1)=(anyW D L.next n||decide (L.next<(recW (rdB D (2+n))).1)):=fun n=>by
  unfold anyW;rw[List.range_succ,List.any_append];simp
 simp(disch:=first|assumption|omega|(simp only[LN]<;>omega)|(simp(disch:=first|assumption|omega|(simp only[LN]<;>omega))only[row_alloc,row_set];assumption))only[f14,P3,↓reduceIte,reduceAdd,reduceEqDiff,reduceCtorEq,initFr,reduceLT,clsA,reduceLeDiff,reduceMul,reduceSub,reduceIte,cpost]
 rw[W_block]
 refine W_loop2 (fun k fr Y=>Y=X∧∃i y15 y16 y26 y27,fr=[ptr b 0,x1,x2,x3,x4,x5,x6,x7,x8,ptr K.n 0,x10,x11,x12,x13,.int .i64 ((i+2:Nat):Int),y15,y16,x17,x18,x19,x20,x21,x22,x23,x24,x25,y26,y27]∧i≤D.bl.length-2∧k=D.bl.length-2-i∧anyW D L.next i=false) (D.bl.length-2) ⟨rfl,0,_,_,_,_,rfl,by omega,rfl,rfl⟩ ?_
 rintro Q2 k fr Y ⟨hY,i,y15,y16,y26,y27,rfl,hi,rfl,hno⟩ hnx hx hret2
 subst hY
 by_cases hlt:i<D.bl.length-2
 ·have d1:((i+2:Nat):Int)<((D.bl.length:Nat):Int):=by omega
  have hw:IntKind.i64.wrap (((i+2:Nat):Int)+1)=((i+1+2:Nat):Int):=by rw[wrap_i64 (by omega) (by omega)];omega
  have ha:=askD_in ho (show i+2<D.bl.length by omega)
  have es:=e_str [] D (i+2) ha
  have hr:=h.ok.rd (show i+2<D.bl.length by omega)
  have e2:2+i=i+2:=by omega
  have ha1:=hany i
  rw[e2,hno,Bool.false_or]at ha1
  simp(disch:=first|assumption|omega|(simp only[LN]<;>omega)|(simp(disch:=first|assumption|omega|(simp only[LN]<;>omega))only[row_alloc,row_set];assumption))only[W_block,P3,↓reduceIte,reduceAdd,reduceEqDiff,reduceCtorEq,initFr,reduceLT,clsA,reduceLeDiff,reduceMul,reduceSub,reduceIte,ge,lb2]
  refine callK (t73 h.e ((i+2:Nat):Int)) ?_
  rintro _ X1 ⟨rfl,hX1⟩
  rw[hX1,es,ha]
  simp(disch:=first|assumption|omega|(simp only[LN]<;>omega)|(simp(disch:=first|assumption|omega|(simp only[LN]<;>omega))only[row_alloc,row_set];assumption))only[W_block,P3,↓reduceIte,reduceAdd,reduceEqDiff,reduceCtorEq,initFr,reduceLT,clsA,reduceLeDiff,reduceMul,reduceSub,reduceIte]
  refine callK (t80 _ (rdB D (i+2)) hr) ?_
  rintro _ X1 ⟨rfl,hX1⟩
  rw[hX1]
  simp(disch:=first|assumption|omega|(simp only[LN]<;>omega)|(simp(disch:=first|assumption|omega|(simp only[LN]<;>omega))only[row_alloc,row_set];assumption))only[W_block,P3,↓reduceIte,reduceAdd,reduceEqDiff,reduceCtorEq,initFr,reduceLT,clsA,reduceLeDiff,reduceMul,reduceSub,reduceIte]
  refine callK (t79 (h.rl lok)) ?_
  rintro _ X1 ⟨rfl,hX1⟩
  rw[hX1]
  by_cases hg:L.next<(recW (rdB D (i+2))).1
  ·have d2:((L.next:Nat):Int)<(((recW (rdB D (i+2))).1 :Nat):Int):=by omega
   rw[decide_eq_true hg]at ha1
   have hall:anyW D L.next (D.bl.length-2)=true:=by
    unfold anyW;rw[List.any_eq_true]
    exact⟨i,by simpa using hlt,by rw[e2];simpa using hg⟩
   rw[if_pos hall]at hq2
   simp(disch:=first|assumption|omega|(simp only[LN]<;>omega)|(simp(disch:=first|assumption|omega|(simp only[LN]<;>omega))only[row_alloc,row_set];assumption))only[W_block,P3,↓reduceIte,reduceAdd,reduceEqDiff,reduceCtorEq,initFr,reduceLT,clsA,reduceLeDiff,reduceMul,reduceSub,reduceIte]
   exact hret2 _ _ (hq2 _ _ ⟨_,rfl,h.err 151⟩)
  ·have d2:¬((L.next:Nat):Int)<(((recW (rdB D (i+2))).1 :Nat):Int):=by omega
   rw[decide_eq_false hg]at ha1
   simp(disch:=first|assumption|omega|(simp only[LN]<;>omega)|(simp(disch:=first|assumption|omega|(simp only[LN]<;>omega))only[row_alloc,row_set];assumption))only[W_block,P3,↓reduceIte,reduceAdd,reduceEqDiff,reduceCtorEq,initFr,reduceLT,clsA,reduceLeDiff,reduceMul,reduceSub,reduceIte]
   rw[hw]
   exact hnx _ _ _ ⟨rfl,i+1,_,_,_,_,rfl,by omega,rfl,ha1⟩ (by omega)
 ·have d1:¬((i+2:Nat):Int)<((D.bl.length:Nat):Int):=by omega
  have e:i=D.bl.length-2:=by omega
  subst e
  rw[if_neg (by rw[hno];simp)]at hq2
  simp(disch:=first|assumption|omega|(simp only[LN]<;>omega)|(simp(disch:=first|assumption|omega|(simp only[LN]<;>omega))only[row_alloc,row_set];assumption))only[W_block,P3,↓reduceIte,reduceAdd,reduceEqDiff,reduceCtorEq,initFr,reduceLT,clsA,reduceLeDiff,reduceMul,reduceSub,reduceIte,ge,lb2]
  refine hx 2 _ _ (show W Go.Proofs.Tryz.prog 0 _ Q _ _ from ?_)
  simp(disch:=first|assumption|omega|(simp only[LN]<;>omega)|(simp(disch:=first|assumption|omega|(simp only[LN]<;>omega))only[row_alloc,row_set];assumption))only[W_block,P3,↓reduceIte,reduceAdd,reduceEqDiff,reduceCtorEq,initFr,reduceLT,clsA,reduceLeDiff,reduceMul,reduceSub,reduceIte]
  exact hq2 _ _ ⟨_,rfl,K.n,vo,inn,vl,rfl,Nat.le_refl _,h.rl lok,h.u⟩
set_option maxRecDepth 20000 in
theorem rlRecs{Q:AQ}{x1 x2 x3 x4 x5 x6 x7 x8 x10 x11 x12 x13 x14 x15 x16 x17 x18 x19 x20 x21 x22 x23 x24 x25 x26 x27:Value}{t f:Nat}(h:REn A K X b vb vo inn (.slice none 0 0) D ⟨t,f,[],0⟩)(ht:t≤9000000000000000000)(hf:1≤f∧f≤9000000000000000000)(ho:D.off=false)
 (hq2:∀fr H2,(∃w,resO f14.res fr H2=some w∧ROpenR A K H2 b vb (open2 D t f) w)→Q .ret fr H2):
 W Go.Proofs.Tryz.prog 0 (cpost 10 f14.body) Q [ptr b 0,x1,x2,x3,x4,x5,x6,x7,x8,ptr K.n 0,x10,x11,x12,x13,x14,x15,x16,x17,x18,x19,x20,x21,x22,x23,x24,x25,x26,x27] X:=by
 have n4:=h.ok.n
 have n3:=h.n3
 have hlok:∀rs:List (List UInt8),rs.length≤D.bl.length-2→(∀s∈rs,s.length≤232)→(⟨t,f,rs,0⟩:Lg).ok:=fun rs h1 h2=>⟨ht,hf,by show rs.length≤_;omega,h2⟩
 refine W_part 1 (fun fr Y=>∃y11 y12 y13 y24 y25 vl',fr=[ptr b 0,x1,x2,x3,x4,x5,x6,x7,x8,ptr K.n 0,x10,y11,y12,y13,x14,x15,x16,x17,x18,x19,x20,x21,x22,x23,y24,y25,x26,x27]∧REn A K Y b vb vo inn vl' D ⟨t,f,recsW D f (D.bl.length-2) [],0⟩∧(⟨t,f,recsW D f (D.bl.length-2) [],0⟩:Lg).ok) (by kernel_rfl) ?_ ?_
 ·intro Q' hk hex hret
  simp(disch:=first|assumption|omega|(simp only[LN]<;>omega)|(simp(disch:=first|assumption|omega|(simp only[LN]<;>omega))only[row_alloc,row_set];assumption))only[f14,P3,↓reduceIte,reduceAdd,reduceEqDiff,reduceCtorEq,initFr,reduceLT,clsA,reduceLeDiff,reduceMul,reduceSub,reduceIte,cpre,cpost]
  rw[W_block]
  refine W_loop2 (fun k fr Y=>∃i y11 y12 y13 y24 y25 vl' rs',fr=[ptr b 0,x1,x2,x3,x4,x5,x6,x7,x8,ptr K.n 0,x10,y11,y12,y13,x14,x15,x16,x17,x18,x19,x20,x21,x22,x23,y24,y25,x26,x27]∧REn A K Y b vb vo inn vl' D ⟨t,f,rs',0⟩∧rs'.length=i∧(∀s∈rs',s.length≤232)∧i≤D.bl.length-2∧k=D.bl.length-2-i∧recsW D f (D.bl.length-2) []=recsW D f (D.bl.length-2-i) rs') (D.bl.length-2) ⟨0,_,_,_,_,_,_,[],rfl,h,rfl,by simp,by omega,by omega,rfl⟩ ?_
  rintro Q2 k fr Y ⟨i,y11,y12,y13,y24,y25,vl',rs',rfl,hY,hlen,hle,hi,rfl,hrec⟩ hnx hx hret2
  have lok:=hlok rs' (by omega) hle
  have hL:=hY.rl lok
  have g:=hY.g
  have lr:=hL.lr
  have ir:=Sl.is hL.sl
  simp(disch:=first|assumption|omega|(simp only[LN]<;>omega)|(simp(disch:=first|assumption|omega|(simp only[LN]<;>omega))only[row_alloc,row_set];assumption))only[W_block,P3,↓reduceIte,reduceAdd,reduceEqDiff,reduceCtorEq,initFr,reduceLT,clsA,reduceLeDiff,reduceMul,reduceSub,reduceIte,g,lr]
  refine callK (t77 hL) ?_
  rintro _ X1 ⟨rfl,hX1⟩
  rw[hX1]
  by_cases hlt:i<D.bl.length-2
  ·have d1:((rs'.length:Nat):Int)<((D.bl.length-2:Nat):Int):=by omega
   obtain⟨j,hj⟩:∃j,D.bl.length-2-i=j+1:=⟨D.bl.length-2-i-1,by omega⟩
   have hnext:(⟨t,f,rs',0⟩:Lg).next=f+rs'.length:=rfl
   have hj2:j=D.bl.length-2-(i+1):=by omega
   rw[hj,recsW_s]at hrec
   have hat:atW D (f+rs'.length)<D.bl.length:=by
    have:=Nat.mod_lt (f+rs'.length-1) (show 0<D.bl.length-2 by omega)
    unfold atW;omega
   have ha:=askD_in ho hat
   have es:=e_str [] D _ ha
   have hr:=hY.ok.rd hat
   simp(disch:=first|assumption|omega|(simp only[LN]<;>omega)|(simp(disch:=first|assumption|omega|(simp only[LN]<;>omega))only[row_alloc,row_set];assumption))only[W_block,P3,↓reduceIte,reduceAdd,reduceEqDiff,reduceCtorEq,initFr,reduceLT,clsA,reduceLeDiff,reduceMul,reduceSub,reduceIte]
   refine⟨by simp,?_⟩
   refine callK (t79 hL) ?_
   rintro _ X1 ⟨rfl,hX1⟩
   rw[hX1,hnext]
   simp(disch:=first|assumption|omega|(simp only[LN]<;>omega)|(simp(disch:=first|assumption|omega|(simp only[LN]<;>omega))only[row_alloc,row_set];assumption))only[W_block,P3,↓reduceIte,reduceAdd,reduceEqDiff,reduceCtorEq,initFr,reduceLT,clsA,reduceLeDiff,reduceMul,reduceSub,reduceIte]
   refine callK (t78 hL (f+rs'.length) (by omega) (by omega)) ?_
   rintro _ X1 ⟨rfl,hX1⟩
   rw[hX1]
   simp(disch:=first|assumption|omega|(simp only[LN]<;>omega)|(simp(disch:=first|assumption|omega|(simp only[LN]<;>omega))only[row_alloc,row_set];assumption))only[W_block,P3,↓reduceIte,reduceAdd,reduceEqDiff,reduceCtorEq,initFr,reduceLT,clsA,reduceLeDiff,reduceMul,reduceSub,reduceIte]
   refine callK (t73 hY.e ((atW D (f+rs'.length):Nat):Int)) ?_
   rintro _ X1 ⟨rfl,hX1⟩
   rw[hX1,es,ha]
   simp(disch:=first|assumption|omega|(simp only[LN]<;>omega)|(simp(disch:=first|assumption|omega|(simp only[LN]<;>omega))only[row_alloc,row_set];assumption))only[W_block,P3,↓reduceIte,reduceAdd,reduceEqDiff,reduceCtorEq,initFr,reduceLT,clsA,reduceLeDiff,reduceMul,reduceSub,reduceIte]
   refine callK (t80 _ (rdB D (atW D (f+rs'.length))) hr) ?_
   rintro _ X1 ⟨rfl,hX1⟩
   rw[hX1]
   simp(disch:=first|assumption|omega|(simp only[LN]<;>omega)|(simp(disch:=first|assumption|omega|(simp only[LN]<;>omega))only[row_alloc,row_set];assumption))only[W_block,P3,↓reduceIte,reduceAdd,reduceEqDiff,reduceCtorEq,initFr,reduceLT,clsA,reduceLeDiff,reduceMul,reduceSub,reduceIte]
   refine callK (t79 hL) ?_
   rintro _ X1 ⟨rfl,hX1⟩
   rw[hX1,hnext]
   have hrl:=recW_le (rdB D (atW D (f+rs'.length)))
   by_cases hk1:(recW (rdB D (atW D (f+rs'.length)))).1 =f+rs'.length
   ·have d2:((((recW (rdB D (atW D (f+rs'.length)))).1 :Nat):Int) != ((f+rs'.length:Nat):Int))=false:=bnei_no (by rw[hk1])
    rw[if_pos hk1]at hrec
    generalize(recW (rdB D (atW D (f+rs'.length)))).2 =l at*
    have hfy:∀s:ByteArray,fillA [.string ByteArray.empty] [(0,1,.string s)]=some [.string s]:=fun s=>rfl
    simp(disch:=first|assumption|omega|(simp only[LN]<;>omega)|(simp(disch:=first|assumption|omega|(simp only[LN]<;>omega))only[row_alloc,row_set];assumption))only[W_block,P3,↓reduceIte,reduceAdd,reduceEqDiff,reduceCtorEq,initFr,reduceLT,clsA,reduceLeDiff,reduceMul,reduceSub,reduceIte,d2,g,hfy]
    have kk3:=(Keeps.refl Y).alloc (.cells true false 1 [.string ⟨l.toArray⟩] 9)
    refine appG (bytes:=16) (hL.a.keeps kk3) ⟨_,_,rfl⟩ (elems_new (n:=1) rfl rfl) rfl (by show(rs'.length+1)*16≤140737488355328∧rs'.length+1≤140737488355328;omega) ?_
    rintro vl2 K4 hap hch hbl
    generalize Y.alloc (.cells true false 1 [.string ⟨l.toArray⟩] 9)=X3 at*
    have c4:Chg (blkL vl') Y K4:=(kk3.chg _).trans hch (fun z hz=>.inl hz)
    have g4:=c4.at_ g hL.ln
    have lb4:=AHeap.get_lt g4
    obtain⟨av,hav⟩:=hap.shape
    have orv:vl2.oneCell'=true:=by rw[hav];rfl
    simp(disch:=first|assumption|omega|(simp only[LN]<;>omega)|(simp(disch:=first|assumption|omega|(simp only[LN]<;>omega))only[row_alloc,row_set];assumption))only[W_block,P3,↓reduceIte,reduceAdd,reduceEqDiff,reduceCtorEq,initFr,reduceLT,clsA,reduceLeDiff,reduceMul,reduceSub,reduceIte,g4,orv]
    have R:=RlR.recs (L':=⟨t,f,rs'++[l],0⟩) hY.u ⟨_,g4⟩ c4 (by
     simp only[List.length_append,List.length_cons,List.length_nil,List.map_append]
     exact hap) (fun z hz=>by
     rcases hbl with h5|h5
     ·exact .inl (by rw[mem_blkL,←h5];exact mem_blkL.1 hz)
     ·have:z=X3.n:=by have:=mem_blkL.1 hz;rw[h5]at this;cases this;rfl
      exact .inr (by have:=kk3.n;omega))
    exact hnx _ _ _ ⟨i+1,_,_,_,_,_,vl2,rs'++[l],rfl,⟨R,hY.ok,hY.i,hY.n3⟩,by simp[hlen],fun s hs=>by
     rcases List.mem_append.1 hs with hs|hs
     ·exact hle s hs
     ·rw[List.mem_singleton.1 hs];exact hrl.2,by omega,rfl,by rw[hrec,hj2]⟩ (by omega)
   ·have d2:((((recW (rdB D (atW D (f+rs'.length)))).1 :Nat):Int) != ((f+rs'.length:Nat):Int))=true:=bnei_yes (by omega)
    rw[if_neg hk1]at hrec
    rw[hrec]at hk
    simp(disch:=first|assumption|omega|(simp only[LN]<;>omega)|(simp(disch:=first|assumption|omega|(simp only[LN]<;>omega))only[row_alloc,row_set];assumption))only[W_block,P3,↓reduceIte,reduceAdd,reduceEqDiff,reduceCtorEq,initFr,reduceLT,clsA,reduceLeDiff,reduceMul,reduceSub,reduceIte,d2]
    refine hx 0 _ _ ?_
    exact hk _ _ ⟨_,_,_,_,_,_,rfl,hY,lok⟩
  ·have d1:¬((rs'.length:Nat):Int)<((D.bl.length-2:Nat):Int):=by omega
   have e:i=D.bl.length-2:=by omega
   subst e
   rw[Nat.sub_self,recsW_0]at hrec
   rw[hrec]at hk
   simp(disch:=first|assumption|omega|(simp only[LN]<;>omega)|(simp(disch:=first|assumption|omega|(simp only[LN]<;>omega))only[row_alloc,row_set];assumption))only[W_block,P3,↓reduceIte,reduceAdd,reduceEqDiff,reduceCtorEq,initFr,reduceLT,clsA,reduceLeDiff,reduceMul,reduceSub,reduceIte]
   refine⟨by simp,?_⟩
   refine hx 0 _ _ ?_
   exact hk _ _ ⟨_,_,_,_,_,_,rfl,hY,lok⟩
 ·rintro fr Y ⟨y11,y12,y13,y24,y25,vl',rfl,hY,lok⟩
  exact rlRing hY lok ho hq2
end
end Go.AM.Fd

set_option linter.unusedSimpArgs false
set_option linter.unusedVariables false
namespace Go.AM.Fd
open Nat (reduceAdd reduceEqDiff reduceLT reduceLeDiff reduceMul reduceSub)
open Go.Proofs Go.AM.F
section
variable {K:AHeap} {b:Nat} {vb vo:Value} {inn:Int} {D:Dk}
set_option maxRecDepth 20000 in
theorem t14(h:EkR K b vb vo inn D)(hs:D.st<999999)(hm:D.op.length<999999):∃w K',ARun Go.Proofs.Tryz.prog 0 14 [ptr b 0] K w K'∧ROpenR (ekT b vb vo inn D) K K' b vb (openW D) w:=by
 refine walk2 f14_ok f14_n ?_
 intro Q hq1 hq2
 have g:=h.g
 have ib:=Sl.is h.sb
 have lb2:lenS vb=D.bl.length:=by have:=Sl.len h.sb;simpa using this
 by_cases c1:D.bl.length<3
 ·have d1:((D.bl.length:Nat):Int)<3:=by omega
  have e:openW D=(D,none,2):=by unfold openW;rw[if_pos c1]
  rw[e]at hq2
  simp(disch:=first|assumption|omega|(simp only[LN]<;>omega)|(simp(disch:=first|assumption|omega|(simp only[LN]<;>omega))only[row_alloc,row_set];assumption))only[f14,W_block,P3,↓reduceIte,reduceAdd,reduceEqDiff,reduceCtorEq,initFr,reduceLT,clsA,reduceLeDiff,reduceMul,reduceSub,reduceIte,g,lb2]
  exact hq2 _ _ ⟨_,rfl,rfl,vo,inn,h,Upd.refl h.s⟩
 by_cases c2:D.off=true
 ·have d1:¬((D.bl.length:Nat):Int)<3:=by omega
  have e:openW D=(D,none,140):=by unfold openW;rw[if_neg c1,if_pos c2]
  rw[e]at hq2
  simp(disch:=first|assumption|omega|(simp only[LN]<;>omega)|(simp(disch:=first|assumption|omega|(simp only[LN]<;>omega))only[row_alloc,row_set];assumption))only[f14,W_block,P3,↓reduceIte,reduceAdd,reduceEqDiff,reduceCtorEq,initFr,reduceLT,clsA,reduceLeDiff,reduceMul,reduceSub,reduceIte,g,lb2,c2]
  exact hq2 _ _ ⟨_,rfl,rfl,vo,inn,h,Upd.refl h.s⟩
 have c3:D.off=false:=by simpa using c2
 have d1:¬((D.bl.length:Nat):Int)<3:=by omega
 have a0:=askD_in c3 (show 0<D.bl.length by omega)
 have a1:=askD_in c3 (show 1<D.bl.length by omega)
 have e0:=e_str [] D 0 a0
 have e1:=e_str [] D 1 a1
 have r0:=h.ok.rd (show 0<D.bl.length by omega)
 have r1:=h.ok.rd (show 1<D.bl.length by omega)
 have hop:openW D=if(headsW D).1 =0 then(if(zeroW (rdB D 0)&&zeroW (rdB D 1))=false then(D,none,151)else if(wlD D 1 (headB 1 1)).2 ≠0 then((wlD D 1 (headB 1 1)).1,none,(wlD D 1 (headB 1 1)).2)else open2 (wlD D 1 (headB 1 1)).1 1 1)else open2 D (headsW D).1 (headsW D).2 :=by
  unfold openW;rw[if_neg c1,if_neg c2]
 have hle:=hdW_le D 2
 rw[hdW_2]at hle
 refine W_part 9 (fun fr X=>∃x1 x2 x5 x6 x7 x8 x10 x11 x12 x13 x14 x15 x16 x17 x18 x19 x20 x21 x22 x23 x24 x25 x26 x27,fr=[ptr b 0,x1,x2,.string ⟨(rdB D 0).toArray⟩,.string ⟨(rdB D 1).toArray⟩,x5,x6,x7,x8,ptr K.n 0,x10,x11,x12,x13,x14,x15,x16,x17,x18,x19,x20,x21,x22,x23,x24,x25,x26,x27]∧REn (ekT b vb vo inn D) K X b vb vo inn (.slice none 0 0) D ⟨(headsW D).1,(headsW D).2,[],0⟩) (by kernel_rfl) ?_ ?_
 ·intro Q' hk hex hret
  simp(disch:=first|assumption|omega|(simp only[LN]<;>omega)|(simp(disch:=first|assumption|omega|(simp only[LN]<;>omega))only[row_alloc,row_set];assumption))only[f14,W_block,P3,↓reduceIte,reduceAdd,reduceEqDiff,reduceCtorEq,initFr,reduceLT,clsA,reduceLeDiff,reduceMul,reduceSub,reduceIte,cpre,g,lb2,c3]
  refine callK (t73 h ((0:Nat):Int)) ?_
  rintro _ X1 ⟨rfl,hX1⟩
  rw[hX1,e0,a0]
  simp(disch:=first|assumption|omega|(simp only[LN]<;>omega)|(simp(disch:=first|assumption|omega|(simp only[LN]<;>omega))only[row_alloc,row_set];assumption))only[W_block,P3,↓reduceIte,reduceAdd,reduceEqDiff,reduceCtorEq,initFr,reduceLT,clsA,reduceLeDiff,reduceMul,reduceSub,reduceIte]
  refine callK (t73 h ((1:Nat):Int)) ?_
  rintro _ X1 ⟨rfl,hX1⟩
  rw[hX1,e1,a1]
  simp(disch:=first|assumption|omega|(simp only[LN]<;>omega)|(simp(disch:=first|assumption|omega|(simp only[LN]<;>omega))only[row_alloc,row_set];assumption))only[W_block,P3,↓reduceIte,reduceAdd,reduceEqDiff,reduceCtorEq,initFr,reduceLT,clsA,reduceLeDiff,reduceMul,reduceSub,reduceIte]
  refine callK (t74 _ (rdB D 0) r0) ?_
  rintro _ X1 ⟨rfl,hX1⟩
  rw[hX1]
  simp(disch:=first|assumption|omega|(simp only[LN]<;>omega)|(simp(disch:=first|assumption|omega|(simp only[LN]<;>omega))only[row_alloc,row_set];assumption))only[W_block,P3,↓reduceIte,reduceAdd,reduceEqDiff,reduceCtorEq,initFr,reduceLT,clsA,reduceLeDiff,reduceMul,reduceSub,reduceIte]
  refine callK (t74 _ (rdB D 1) r1) ?_
  rintro _ X1 ⟨rfl,hX1⟩
  rw[hX1]
  have hfb:∀p q:Int,fillA [.pointer none,.int .i64 0,.int .i64 0,.slice none 0 0,.int .i64 0] [(0,1,ptr b 0),(1,1,.int .i64 p),(2,1,.int .i64 q)]=some [ptr b 0,.int .i64 p,.int .i64 q,.slice none 0 0,.int .i64 0]:=fun p q=>rfl
  have hhs:headsW D=if(headW (rdB D 0)).1 <(headW (rdB D 1)).1 then headW (rdB D 1)else headW (rdB D 0):=rfl
  generalize headW (rdB D 0)=p0 at*
  generalize headW (rdB D 1)=p1 at*
  obtain⟨K1,hK1⟩:∃Y,Y=K.alloc (.cells true false 5 [ptr b 0,.int .i64 (p0.1:Nat),.int .i64 (p0.2:Nat),.slice none 0 0,.int .i64 0] 133):=⟨_,rfl⟩
  have k1:Keeps K K1:=by rw[hK1];exact(Keeps.refl K).alloc _
  have g1:K1.get K.n=some (.cells true false 5 [ptr b 0,.int .i64 (p0.1:Nat),.int .i64 (p0.2:Nat),.slice none 0 0,.int .i64 0] 133):=by rw[hK1];exact AHeap.get_alloc_new K _
  have s0:=Upd.add (t:=thA 9 1 (.slice none 0 0) 0 []) (Upd.refl h.s) (Keeps.refl K) (.inl ⟨rfl,rfl,rfl⟩) (fun z hz=>by cases hz)
  have s1:=Upd.add (t:=thB K.n (.cells true false 5 (rlC b (.slice none 0 0) ⟨p0.1,p0.2,[],0⟩) 133)) s0 k1 g1 (by simp[thB])
  have hE:REn (ekT b vb vo inn D) K K1 b vb vo inn (.slice none 0 0) D ⟨p0.1,p0.2,[],0⟩:=⟨s1,h.ok,h.i,by omega⟩
  simp(disch:=first|assumption|omega|(simp only[LN]<;>omega)|(simp(disch:=first|assumption|omega|(simp only[LN]<;>omega))only[row_alloc,row_set];assumption))only[W_block,P3,↓reduceIte,reduceAdd,reduceEqDiff,reduceCtorEq,initFr,reduceLT,clsA,reduceLeDiff,reduceMul,reduceSub,reduceIte,hfb]
  rw[←hK1]
  by_cases hgt:p0.1<p1.1
  ·rw[if_pos hgt]at hhs
   have d2:((p0.1:Nat):Int)<((p1.1:Nat):Int):=by omega
   have hE2:=hE.set p1.1 p1.2
   rw[hhs]at hk
   simp(disch:=first|assumption|omega|(simp only[LN]<;>omega)|(simp(disch:=first|assumption|omega|(simp only[LN]<;>omega))only[row_alloc,row_set];assumption))only[W_block,P3,↓reduceIte,reduceAdd,reduceEqDiff,reduceCtorEq,initFr,reduceLT,clsA,reduceLeDiff,reduceMul,reduceSub,reduceIte,g1]
   exact hk _ _ ⟨_,_,_,_,_,_,_,_,_,_,_,_,_,_,_,_,_,_,_,_,_,_,_,_,rfl,hE2⟩
  ·rw[if_neg hgt]at hhs
   have d2:¬((p0.1:Nat):Int)<((p1.1:Nat):Int):=by omega
   rw[hhs]at hk
   simp(disch:=first|assumption|omega|(simp only[LN]<;>omega)|(simp(disch:=first|assumption|omega|(simp only[LN]<;>omega))only[row_alloc,row_set];assumption))only[W_block,P3,↓reduceIte,reduceAdd,reduceEqDiff,reduceCtorEq,initFr,reduceLT,clsA,reduceLeDiff,reduceMul,reduceSub,reduceIte,g1]
   exact hk _ _ ⟨_,_,_,_,_,_,_,_,_,_,_,_,_,_,_,_,_,_,_,_,_,_,_,_,rfl,hE⟩
 ·rintro fr X ⟨x1,x2,x5,x6,x7,x8,x10,x11,x12,x13,x14,x15,x16,x17,x18,x19,x20,x21,x22,x23,x24,x25,x26,x27,rfl,hX⟩
  rw[hop]at hq2
  generalize headsW D=hd at*
  have gX:=hX.g
  refine W_part 1 (fun fr Z=>∃y1 y2 y10 y11 y12 y13 y20 y21 y22 y23 vo' inn' D' t f,fr=[ptr b 0,y1,y2,.string ⟨(rdB D 0).toArray⟩,.string ⟨(rdB D 1).toArray⟩,x5,x6,x7,x8,ptr K.n 0,y10,y11,y12,y13,x14,x15,x16,x17,x18,x19,y20,y21,y22,y23,x24,x25,x26,x27]∧REn (ekT b vb vo inn D) K Z b vb vo' inn' (.slice none 0 0) D' ⟨t,f,[],0⟩∧t≤9000000000000000000∧(1≤f∧f≤9000000000000000000)∧D'.off=false∧(if hd.1=0 then(if(zeroW (rdB D 0)&&zeroW (rdB D 1))=false then(D,none,151)else if(wlD D 1 (headB 1 1)).2 ≠0 then((wlD D 1 (headB 1 1)).1,none,(wlD D 1 (headB 1 1)).2)else open2 (wlD D 1 (headB 1 1)).1 1 1)else open2 D hd.1 hd.2)=open2 D' t f) (by kernel_rfl) ?_ ?_
  ·intro Q' hk hex hret
   have hr2:=fun fr H2 h=>hret fr H2 (hq2 fr H2 h)
   by_cases ht:hd.1=0
   ·have d1:(((hd.1:Nat):Int)==0)=true:=by rw[ht];rfl
    rw[if_pos ht]at hk hr2
    simp(disch:=first|assumption|omega|(simp only[LN]<;>omega)|(simp(disch:=first|assumption|omega|(simp only[LN]<;>omega))only[row_alloc,row_set];assumption))only[f14,W_block,P3,↓reduceIte,reduceAdd,reduceEqDiff,reduceCtorEq,initFr,reduceLT,clsA,reduceLeDiff,reduceMul,reduceSub,reduceIte,cpre,cpost,gX,d1]
    refine callK (t75 _ (rdB D 0) (by omega)) ?_
    rintro _ X1 ⟨rfl,hX1⟩
    rw[hX1]
    have z0:((rdB D 0).all fun x=>x==0)=zeroW (rdB D 0):=rfl
    have z1:((rdB D 1).all fun x=>x==0)=zeroW (rdB D 1):=rfl
    rw[z0]
    have fail:∀(Q2:Prop),zeroW (rdB D 0)=false∨zeroW (rdB D 1)=false→(zeroW (rdB D 0)&&zeroW (rdB D 1))=false:=fun _ h=>by rcases h with h|h<;>simp[h]
    cases q0:zeroW (rdB D 0)with
    |false=>
     rw[q0,Bool.false_and,if_pos rfl]at hr2
     simp(disch:=first|assumption|omega|(simp only[LN]<;>omega)|(simp(disch:=first|assumption|omega|(simp only[LN]<;>omega))only[row_alloc,row_set];assumption))only[W_block,P3,↓reduceIte,reduceAdd,reduceEqDiff,reduceCtorEq,initFr,reduceLT,clsA,reduceLeDiff,reduceMul,reduceSub,reduceIte]
     exact hr2 _ _ ⟨_,rfl,hX.err 151⟩
    |true=>
     simp(disch:=first|assumption|omega|(simp only[LN]<;>omega)|(simp(disch:=first|assumption|omega|(simp only[LN]<;>omega))only[row_alloc,row_set];assumption))only[W_block,P3,↓reduceIte,reduceAdd,reduceEqDiff,reduceCtorEq,initFr,reduceLT,clsA,reduceLeDiff,reduceMul,reduceSub,reduceIte]
     refine callK (t75 _ (rdB D 1) (by omega)) ?_
     rintro _ X1 ⟨rfl,hX1⟩
     rw[hX1,z1]
     cases q1:zeroW (rdB D 1)with
     |false=>
      rw[q0,q1,Bool.and_false,if_pos rfl]at hr2
      simp(disch:=first|assumption|omega|(simp only[LN]<;>omega)|(simp(disch:=first|assumption|omega|(simp only[LN]<;>omega))only[row_alloc,row_set];assumption))only[W_block,P3,↓reduceIte,reduceAdd,reduceEqDiff,reduceCtorEq,initFr,reduceLT,clsA,reduceLeDiff,reduceMul,reduceSub,reduceIte]
      exact hr2 _ _ ⟨_,rfl,hX.err 151⟩
     |true=>
      rw[q0,q1,Bool.and_true,if_neg (by simp)]at hr2 hk
      simp(disch:=first|assumption|omega|(simp only[LN]<;>omega)|(simp(disch:=first|assumption|omega|(simp only[LN]<;>omega))only[row_alloc,row_set];assumption))only[W_block,P3,↓reduceIte,reduceAdd,reduceEqDiff,reduceCtorEq,initFr,reduceLT,clsA,reduceLeDiff,reduceMul,reduceSub,reduceIte]
      refine callK (t33 _ 1 1 (by omega) (by omega)) ?_
      rintro _ X1 ⟨rfl,hX1⟩
      rw[hX1]
      simp(disch:=first|assumption|omega|(simp only[LN]<;>omega)|(simp(disch:=first|assumption|omega|(simp only[LN]<;>omega))only[row_alloc,row_set];assumption))only[W_block,P3,↓reduceIte,reduceAdd,reduceEqDiff,reduceCtorEq,initFr,reduceLT,clsA,reduceLeDiff,reduceMul,reduceSub,reduceIte]
      refine callK (t24 hX.e (by omega) (by omega) ((1:Nat):Int) (headB 1 1)) ?_
      rintro _ X2 ⟨rfl,vo2,in2,e2,u2⟩
      obtain⟨o1,o2,o3,o4⟩:=wlD_ok h.ok hs hm 1 (headB 1 1)
      have U2:=hX.u.trans (u2.extR hX.u.sep)
      have h2:REn (ekT b vb vo inn D) K X2 b vb vo2 in2 (.slice none 0 0) (wrD D 1 (headB 1 1)).1 ⟨hd.1,hd.2,[],0⟩:=⟨U2,e2.ok,e2.i,by rw[wrD_bl];exact hX.n3⟩
      have g2:=h2.g
      by_cases he:(wrD D 1 (headB 1 1)).2 =0
      ·have ew:wlD D 1 (headB 1 1)=syD (wrD D 1 (headB 1 1)).1 :=by unfold wlD;exact if_pos he
       have d2:((wrD D 1 (headB 1 1)).2 ==0)=true:=beqi_yes he
       have hoff:=wlD_off (D:=D) (i:=1) (l:=headB 1 1)
       rw[ew]at hk hr2 o1 o2 hoff
       simp(disch:=first|assumption|omega|(simp only[LN]<;>omega)|(simp(disch:=first|assumption|omega|(simp only[LN]<;>omega))only[row_alloc,row_set];assumption))only[W_block,P3,↓reduceIte,reduceAdd,reduceEqDiff,reduceCtorEq,initFr,reduceLT,clsA,reduceLeDiff,reduceMul,reduceSub,reduceIte,d2]
       refine callK (t76 h2.e o4) ?_
       rintro _ X4 ⟨rfl,vo4,in4,e4,u4⟩
       have U4:=h2.u.trans (u4.extR h2.u.sep)
       have h4:REn (ekT b vb vo inn D) K X4 b vb vo4 in4 (.slice none 0 0) (syD (wrD D 1 (headB 1 1)).1).1 ⟨hd.1,hd.2,[],0⟩:=⟨U4,o1,e4.i,by rw[o2];exact hX.n3⟩
       have g4:=h4.g
       by_cases he2:(syD (wrD D 1 (headB 1 1)).1).2 =0
       ·have d3:((syD (wrD D 1 (headB 1 1)).1).2 != 0)=false:=bnei_no he2
        rw[if_neg (by simp[he2])]at hk
        have h5:=h4.set 1 1
        simp(disch:=first|assumption|omega|(simp only[LN]<;>omega)|(simp(disch:=first|assumption|omega|(simp only[LN]<;>omega))only[row_alloc,row_set];assumption))only[W_block,P3,↓reduceIte,reduceAdd,reduceEqDiff,reduceCtorEq,initFr,reduceLT,clsA,reduceLeDiff,reduceMul,reduceSub,reduceIte,d3,g4]
        exact hk _ _ ⟨_,_,_,_,_,_,_,_,_,_,_,_,_,_,_,rfl,h5,by omega,by omega,hoff he2,rfl⟩
       ·have d3:((syD (wrD D 1 (headB 1 1)).1).2 != 0)=true:=bnei_yes he2
        rw[if_pos he2]at hr2
        simp(disch:=first|assumption|omega|(simp only[LN]<;>omega)|(simp(disch:=first|assumption|omega|(simp only[LN]<;>omega))only[row_alloc,row_set];assumption))only[W_block,P3,↓reduceIte,reduceAdd,reduceEqDiff,reduceCtorEq,initFr,reduceLT,clsA,reduceLeDiff,reduceMul,reduceSub,reduceIte,d3]
        exact hr2 _ _ ⟨_,rfl,h4.err _⟩
      ·have ew:wlD D 1 (headB 1 1)=wrD D 1 (headB 1 1):=by unfold wlD;exact if_neg he
       have d2:((wrD D 1 (headB 1 1)).2 ==0)=false:=beqi_no he
       have d3:((wrD D 1 (headB 1 1)).2 != 0)=true:=bnei_yes he
       rw[ew,if_pos he]at hr2
       simp(disch:=first|assumption|omega|(simp only[LN]<;>omega)|(simp(disch:=first|assumption|omega|(simp only[LN]<;>omega))only[row_alloc,row_set];assumption))only[W_block,P3,↓reduceIte,reduceAdd,reduceEqDiff,reduceCtorEq,initFr,reduceLT,clsA,reduceLeDiff,reduceMul,reduceSub,reduceIte,d2,d3]
       exact hr2 _ _ ⟨_,rfl,h2.err _⟩
   ·have d1:(((hd.1:Nat):Int)==0)=false:=beqi_no (by omega)
    rw[if_neg ht]at hk hr2
    simp(disch:=first|assumption|omega|(simp only[LN]<;>omega)|(simp(disch:=first|assumption|omega|(simp only[LN]<;>omega))only[row_alloc,row_set];assumption))only[f14,W_block,P3,↓reduceIte,reduceAdd,reduceEqDiff,reduceCtorEq,initFr,reduceLT,clsA,reduceLeDiff,reduceMul,reduceSub,reduceIte,cpre,cpost,gX,d1]
    exact hk _ _ ⟨_,_,_,_,_,_,_,_,_,_,_,_,_,_,_,rfl,hX,by omega,⟨hle.2.2 ht,by omega⟩,c3,rfl⟩
  ·rintro fr Z ⟨y1,y2,y10,y11,y12,y13,y20,y21,y22,y23,vo',inn',D',t,f,rfl,hZ,b1,b2,b3,b4⟩
   rw[b4]at hq2
   exact rlRecs hZ b1 b2 b3 hq2
end
end Go.AM.Fd

set_option linter.unusedSimpArgs false
set_option linter.unusedVariables false
namespace Go.AM
open Nat (reduceAdd reduceEqDiff reduceLT reduceLeDiff reduceMul reduceSub)
theorem Upd.new{A A':List Th}{K K1:AHeap}(u:Upd A A' K K1){y:Nat}(h1:y∉fp A)(h2:y<K.n):y∉fp A':=fun h=>by
 rcases u.fr y h with h|h
 ·exact h1 h
 ·omega
end Go.AM
namespace Go.AM.Fd
open Nat (reduceAdd reduceEqDiff reduceLT reduceLeDiff reduceMul reduceSub)
open Go.Proofs Go.AM.F
section
variable {A:List Th} {H K:AHeap} {lb b sb le e:Nat} {v rv vb vo vl:Value} {ab:Option Nat} {items:List (Value×List UInt8)} {inn:Int} {D:Dk} {L:Lg}
end
end Go.AM.Fd

set_option linter.unusedSimpArgs false
set_option linter.unusedVariables false
namespace Go.AM.Fd
open Go.Proofs Go.AM.F
structure D2 (H K:AHeap) (b sb:Nat) (v:Value) (ab:Option Nat) (e:Nat) (vb vo:Value) (inn:Int) (D:Dk):Prop where
 u:Upd [] (dkT b sb v ab D++ekT e vb vo inn D) H K
 ok:D.ok
 i:∀n,D.ar=some n→inn=(n:Nat)
theorem perm22{α:Type}(a b c d:List α):((a++b)++(c++d)).Perm ((a++c)++(b++d)):=by
 classical exact List.perm_iff_count.2 fun x=>by simp only[List.count_append];omega
section
variable {H K:AHeap} {lb b sb le e:Nat} {v rv vb vo vl:Value} {ab:Option Nat} {items:List (Value×List UInt8)} {inn:Int} {D:Dk} {L:Lg}
theorem D2.dk(h:D2 H K b sb v ab e vb vo inn D):DkR K b sb v ab D:=⟨h.u.sep.left,h.ok⟩
theorem D2.ek(h:D2 H K b sb v ab e vb vo inn D):EkR K e vb vo inn D:=⟨h.u.sep.right,h.ok,h.i⟩
theorem D2.keeps{K':AHeap}(h:D2 H K b sb v ab e vb vo inn D)(k:Keeps K K'):D2 H K' b sb v ab e vb vo inn D:=⟨h.u.keeps' k,h.ok,h.i⟩
theorem D2.kp(h:D2 H K b sb v ab e vb vo inn D):Keeps H K:=⟨h.u.chg.n,fun y hy=>h.u.chg.get y hy (by simp[fp])⟩
theorem D2.far(h:D2 H K b sb v ab e vb vo inn D){z:Nat}(hz:z∈fp (dkT b sb v ab D++ekT e vb vo inn D)):H.n≤z:=by
 rcases h.u.fr z hz with h1|h1
 ·cases h1
 ·exact h1
def ErOk(r:Dk×Option Lg×Int):Prop:=match r.2.1 with|none=>r.2.2≠0|some _=>r.2.2=0
theorem open2_er(D:Dk)(t f:Nat):ErOk (open2 D t f):=by
 unfold open2
 split
 ·exact(by decide:(151:Int)≠0)
 ·exact rfl
theorem openW_er(D:Dk):ErOk (openW D):=by
 unfold openW
 split
 ·exact(by decide:(2:Int)≠0)
 ·split
  ·exact(by decide:(140:Int)≠0)
  ·split
   ·split
    ·exact(by decide:(151:Int)≠0)
    ·split
     ·rename_i h;exact h
     ·exact open2_er _ _ _
   ·exact open2_er _ _ _
end
end Go.AM.Fd

set_option linter.unusedSimpArgs false
set_option linter.unusedVariables false
namespace Go.AM.Fd
open Go.Proofs Go.AM.F
structure Bnd (D:Dk) (lo:Option Lg) (m:Nat):Prop where
 s:D.st≤3*m
 o:D.op.length≤3*m
 l:∀L,lo=some L→L.turn≤4611686018427387904+m∧L.next≤4611686018427392000+m
theorem wrD_b(D:Dk)(i:Int)(b:List UInt8):(wrD D i b).1.st≤D.st+1∧(wrD D i b).1.op.length≤D.op.length+1:=by
 unfold wrD
 split
 ·exact⟨by simp,by simp⟩
 ·split
  ·exact⟨by simp,by simp⟩
  ·obtain⟨_,b2,b3⟩:=stepD_bl ⟨D.bl,D.op++[(i.toNat,padB b)],D.st,D.ar,D.off⟩
   refine⟨by simp only[b3];exact Nat.le_refl _,by simp only[b2];simp⟩
theorem syD_b(D:Dk):(syD D).1.st≤D.st+1∧(syD D).1.op.length≤D.op.length:=by
 obtain⟨_,b2,b3⟩:=stepD_bl D
 unfold syD
 split
 ·exact⟨by simp,by simp⟩
 ·split
  ·exact⟨by simp only[b3];omega,by simp only[b2];omega⟩
  ·exact⟨by simp only[settD,b3];omega,by simp[settD]⟩
theorem wlD_b(D:Dk)(i:Nat)(b:List UInt8):(wlD D i b).1.st≤D.st+2∧(wlD D i b).1.op.length≤D.op.length+1:=by
 have h1:=wrD_b D (i:Nat) b
 have h2:=syD_b (wrD D (i:Nat) b).1
 unfold wlD
 split
 ·exact⟨by omega,by omega⟩
 ·exact⟨by omega,by omega⟩
theorem open2_b{D:Dk}(h:D.ok){t f m:Nat}(ht:t≤4611686018427387904)(hf:f≤4611686018427387904)(hs:D.st≤3*m)(ho:D.op.length≤3*m):Bnd (open2 D t f).1 (open2 D t f).2.1 m:=by
 have h1:=recsW_len D f (D.bl.length-2) []
 have h2:=h.n
 unfold open2
 split
 ·exact⟨hs,ho,fun L hL=>by cases hL⟩
 ·refine⟨hs,ho,fun L hL=>?_⟩
  cases hL
  simp only[Lg.next]
  simp at h1
  omega
theorem openW_b{D:Dk}(h:D.ok){m:Nat}(hs:D.st≤3*m+1)(ho:D.op.length≤3*m+1)(hs2:D.st<999999)(ho2:D.op.length<999999):Bnd (openW D).1 (openW D).2.1 (m+1):=by
 have hw:=wlD_b D 1 (headB 1 1)
 have hok:=(wlD_ok h hs2 ho2 1 (headB 1 1)).1
 have hh:=hdW_le D 2
 rw[hdW_2]at hh
 unfold openW
 split
 ·exact⟨by simp only;omega,by simp only;omega,fun L hL=>by cases hL⟩
 ·split
  ·exact⟨by simp only;omega,by simp only;omega,fun L hL=>by cases hL⟩
  ·split
   ·split
    ·exact⟨by simp only;omega,by simp only;omega,fun L hL=>by cases hL⟩
    ·split
     ·exact⟨by simp only;omega,by simp only;omega,fun L hL=>by cases hL⟩
     ·exact open2_b hok (by omega) (by omega) (by omega) (by omega)
   ·exact open2_b h hh.1 hh.2.1 (by omega) (by omega)
theorem onD_b(D:Dk)(fs:List UInt8):(onD (crashD D) fs).st=D.st∧(onD (crashD D) fs).op.length≤D.op.length:=by
 have:onD (crashD D) fs=⟨onB D.bl fs D.op 0,[],D.st,none,false⟩:=by unfold onD;exact if_pos rfl
 rw[this]
 exact⟨rfl,by simp⟩
end Go.AM.Fd

set_option linter.unusedSimpArgs false
set_option linter.unusedVariables false
namespace Go.AM
inductive CKd
 |int (k:IntKind)
 |bool
 |str
 |sl (t:TypeId)
def ckFs(P:Program)(f:TypeId→Option (List CKd)):List Field→Nat→Option (List CKd)
 |[],_=>some []
 |fd::r,off=>if fd.offset=off then match f fd.type with
  |some l=>if P.cellsOf fd.type=l.length then(ckFs P f r (off+l.length)).map (l++ ·)else none
  |none=>none
  else none
def ckT(P:Program):Nat→TypeId→Option (List CKd)
 |0,_=>none
 |d+1,t=>match P.underlying t with
  |some .bool=>some [.bool]
  |some (.int k)=>some [.int k]
  |some .string=>some [.str]
  |some (.slice _)=>some [.sl t]
  |some (.struct fs)=>match ckFs P (ckT P d) fs.toList 0 with
   |some l=>if P.cellsOf t=l.length then some l else none
   |none=>none
  |some (.array n e)=>match ckT P d e with
   |some l=>if P.cellsOf e=l.length∧P.cellsOf t=n*l.length then some (List.replicate n l).flatten else none
   |none=>none
  |_=>none
def fits(P:Program)(G:Gf):CKd→Value→Prop
 | .int k,v=>∃n,v=.int k n∧(Lit.int k n).wf=true
 | .bool,v=>∃b,v=.bool b
 | .str,v=>∃s,v=.string s∧s.size≤maxLen∧s.size≤reachBytes
 | .sl t,v=>AR P G t [v]
def fitsL(P:Program)(G:Gf):List CKd→List Value→Prop
 |[],[]=>True
 |k::ks,v::vs=>fits P G k v∧fitsL P G ks vs
 |_,_=>False
section
variable {P:Program} {G:Gf}
theorem fitsL.inv{k:CKd}{ks:List CKd}{cs:List Value}(h:fitsL P G (k::ks) cs):∃v vs,cs=v::vs∧fits P G k v∧fitsL P G ks vs:=by
 cases cs with
 |nil=>exact h.elim
 |cons v vs=>exact⟨v,vs,rfl,h.1,h.2⟩
theorem fitsL.end_{cs:List Value}(h:fitsL P G [] cs):cs=[]:=by
 cases cs with
 |nil=>rfl
 |cons v vs=>exact h.elim
theorem fitsL.app:∀{a b:List CKd} {c d:List Value},fitsL P G a c→fitsL P G b d→fitsL P G (a++b) (c++d)
 |[],_,[],_,_,h=>h
 |_::_,_,_::_,_,h,k=>⟨h.1,fitsL.app h.2 k⟩
theorem fitsL.split:∀{a b:List CKd} {cs:List Value},fitsL P G (a++b) cs→fitsL P G a (cs.take a.length)∧fitsL P G b (cs.drop a.length)
 |[],b,cs,h=>⟨by simp[fitsL],by simpa using h⟩
 |k::a,b,v::cs,h=>by
  have:=fitsL.split (a:=a) (b:=b) (cs:=cs) h.2
  exact⟨⟨h.1,this.1⟩,this.2⟩
theorem fitsL.u8:∀{n:Nat} {cs:List Value},fitsL P G (List.replicate n (.int .u8)) cs→∃l:List UInt8,l.length=n∧cs=cellsOf l
 |0,[],_=>⟨[],rfl,rfl⟩
 |n+1,v::cs,h=>by
  obtain⟨⟨m,rfl,hw⟩,h2⟩:=h
  obtain⟨l,h3,rfl⟩:=fitsL.u8 h2
  simp only[Lit.wf,Bool.and_eq_true,decide_eq_true_eq,IntKind.min,IntKind.max,IntKind.signed,IntKind.bits]at hw
  obtain⟨m,rfl⟩:∃k:Nat,m=k:=⟨m.toNat,by simp at hw;omega⟩
  have hm:m % 256=m:=by simp at hw;omega
  exact⟨UInt8.ofNat m::l,by simp[h3],by simp[cellsOf,hm]⟩
theorem fits_u{k:IntKind}(hk:k.signed=false){v:Value}(h:fits P G (.int k) v):∃n:Nat,v=.int k n∧n<2 ^ k.bits:=by
 obtain⟨n,rfl,hw⟩:=h
 simp only[Lit.wf,Bool.and_eq_true,decide_eq_true_eq,IntKind.min,IntKind.max,hk,Bool.false_eq_true,if_false]at hw
 refine⟨n.toNat,by rw[Int.toNat_of_nonneg hw.1],?_⟩
 have h1:=hw.1
 have h2:=hw.2
 have:(n.toNat:Int)<((2 ^ k.bits:Nat):Int):=by
  rw[Int.toNat_of_nonneg h1]
  push_cast
  omega
 exact Int.ofNat_lt.1 this
theorem fits_u8{v:Value}(h:fits P G (.int .u8) v):∃n:Nat,v=.int .u8 n∧n<256:=fits_u rfl h
theorem fits_u32{v:Value}(h:fits P G (.int .u32) v):∃n:Nat,v=.int .u32 n∧n<4294967296:=fits_u rfl h
theorem fits_u64{v:Value}(h:fits P G (.int .u64) v):∃n:Nat,v=.int .u64 n∧n<18446744073709551616:=fits_u rfl h
theorem fits_i64{v:Value}(h:fits P G (.int .i64) v):∃n:Int,v=.int .i64 n∧ -9223372036854775808≤n∧n≤9223372036854775807:=by
 obtain⟨n,rfl,hw⟩:=h
 simp only[Lit.wf,Bool.and_eq_true,decide_eq_true_eq,IntKind.min,IntKind.max,IntKind.signed,IntKind.bits]at hw
 exact⟨n,rfl,by simpa using hw.1,by have:=hw.2;simp at this;omega⟩
theorem fitsL_fields{f:TypeId→Option (List CKd)}{cs:List Value}:∀(fs:List Field) (off:Nat) (ks:List CKd),ckFs P f fs off=some ks→cs.length=off+ks.length→
 (∀fd∈fs,∀l,f fd.type=some l→P.cellsOf fd.type=l.length→fitsL P G l ((cs.drop fd.offset).take (P.cellsOf fd.type)))→fitsL P G ks (cs.drop off)
 |[],off,ks,h,hl,_=>by
  simp only[ckFs,Option.some.injEq]at h;subst h
  rw[List.drop_of_length_le (by simp at hl;omega)];trivial
 |fd::fs,off,ks,h,hl,hf=>by
  simp only[ckFs]at h
  split at h
  ·rename_i h1
   split at h
   ·rename_i l h2
    split at h
    ·rename_i h3
     simp only[Option.map_eq_some_iff]at h
     obtain⟨r,h4,rfl⟩:=h
     have h5:=hf fd (by simp) l h2 h3
     have h6:=fitsL_fields fs (off+l.length) r h4 (by rw[hl,List.length_append];omega) (fun x hx=>hf x (by simp[hx]))
     rw[h1,h3]at h5
     have:=h5.app h6
     rwa [←List.drop_drop,List.take_append_drop]at this
    ·cases h
   ·cases h
  ·cases h
theorem fitsL_rep{l:List CKd}{cs:List Value}:∀(n:Nat),(∀i,i<n→fitsL P G l ((cs.drop (i*l.length)).take l.length))→fitsL P G (List.replicate n l).flatten (cs.take (n*l.length))
 |0,_=>by simp[fitsL]
 |n+1,h=>by
  have h1:=fitsL_rep n (fun i hi=>h i (by omega))
  rw[List.replicate_succ',List.flatten_append,Nat.add_mul,Nat.one_mul,List.take_add]
  simpa using h1.app (h n (by omega))
theorem AR.flat:∀{d:Nat} {t:TypeId} {ks:List CKd} {cs:List Value},ckT P d t=some ks→AR P G t cs→fitsL P G ks cs
 |0,t,ks,cs,h,_=>by simp[ckT]at h
 |d+1,t,ks,cs,h,ha=>by
  have ha0:=ha
  cases ha with
  |bool hu=>simp only[ckT,hu,Option.some.injEq]at h;subst h;exact⟨⟨_,rfl⟩,trivial⟩
  |int hu hw=>simp only[ckT,hu,Option.some.injEq]at h;subst h;exact⟨⟨_,rfl,hw⟩,trivial⟩
  |str hu hs=>simp only[ckT,hu,Option.some.injEq]at h;subst h;exact⟨⟨_,rfl,hs⟩,trivial⟩
  |nil hu=>simp only[ckT,hu,Option.some.injEq]at h;subst h;exact⟨ha0,trivial⟩
  |zero hu _=>simp only[ckT,hu,Option.some.injEq]at h;subst h;exact⟨ha0,trivial⟩
  |sl hu=>simp only[ckT,hu,Option.some.injEq]at h;subst h;exact⟨ha0,trivial⟩
  |struct hu hl hf=>
   rename_i fs
   simp only[ckT,hu]at h
   split at h
   ·rename_i l h1
    split at h
    ·rename_i h2
     simp only[Option.some.injEq]at h;subst h
     have:=fitsL_fields (cs:=cs) (G:=G) fs.toList 0 _ h1 (by rw[hl,h2];omega) (fun fd hfd l hl' hz=>by
      obtain⟨i,hi,hfi⟩:=List.mem_iff_getElem.1 hfd
      have hi':i<fs.size:=by simpa using hi
      exact(hf i fd (by rw[Array.getElem?_eq_getElem hi',←hfi];simp)).flat hl')
     simpa using this
    ·cases h
   ·cases h
  |array hu hl hi=>
   rename_i e n
   simp only[ckT,hu]at h
   split at h
   ·rename_i l h1
    split at h
    ·rename_i h2
     simp only[Option.some.injEq]at h;subst h
     have:=fitsL_rep (P:=P) (G:=G) (l:=l) (cs:=cs) n (fun i hin=>by
      have:=hi i hin
      rw[h2.1]at this
      exact this.flat h1)
     rwa [List.take_of_length_le (by rw[hl,h2.2];omega)]at this
    ·cases h
   ·cases h
end
end Go.AM

set_option linter.unusedSimpArgs false
set_option linter.unusedVariables false
namespace Go.AM.Fd
open Nat (reduceAdd reduceEqDiff reduceLT reduceLeDiff reduceMul reduceSub)
open Go.Proofs Go.AM.F
structure CW where
 k:Nat
 b:Value
 l:List UInt8
 n:Int
 f:Value
 fs:List UInt8
theorem bs_lt{H:AHeap}{x:Value}{l:List UInt8}(h:BS H x l):∀z∈tb x,z<H.n:=by
 intro z hz
 have h1:=h.el
 obtain⟨a,k,rfl⟩:=h.sh
 match a,h1,hz with
 |none,h1,hz=>cases hz
 |some ⟨b,o,some sp⟩,h1,hz=>cases hz
 |some ⟨b,o,none⟩,h1,hz=>
  have:z=b:=by simpa[tb]using hz
  subst this
  simp only[elemsA]at h1
  cases hg:H.get z with
  |none=>rw[hg]at h1;cases h1
  |some o=>exact AHeap.get_lt hg
end Go.AM.Fd

set_option maxRecDepth 100000
set_option maxHeartbeats 0
namespace Go.AM.F
def Z76L:List Value:=[(.int .u8 0),(.slice none 0 0),(.int .i64 0),(.slice none 0 0),(.int .u8 0),(.slice none 0 0),(.int .i64 0),(.slice none 0 0),(.int .u8 0),(.slice none 0 0),(.int .i64 0),(.slice none 0 0),(.int .u8 0),(.slice none 0 0),(.int .i64 0),(.slice none 0 0),(.int .u8 0),(.slice none 0 0),(.int .i64 0),(.slice none 0 0),(.int .u8 0),(.slice none 0 0),(.int .i64 0),(.slice none 0 0),(.int .u8 0),(.slice none 0 0),(.int .i64 0),(.slice none 0 0),(.int .u8 0),(.slice none 0 0),(.int .i64 0),(.slice none 0 0),(.int .u8 0),(.slice none 0 0),(.int .i64 0),(.slice none 0 0),(.int .u8 0),(.slice none 0 0),(.int .i64 0),(.slice none 0 0),(.int .u8 0),(.slice none 0 0),(.int .i64 0),(.slice none 0 0),(.int .u8 0),(.slice none 0 0),(.int .i64 0),(.slice none 0 0),(.int .u8 0),(.slice none 0 0),(.int .i64 0),(.slice none 0 0),(.int .u8 0),(.slice none 0 0),(.int .i64 0),(.slice none 0 0),(.int .u8 0),(.slice none 0 0),(.int .i64 0),(.slice none 0 0),(.int .u8 0),(.slice none 0 0),(.int .i64 0),(.slice none 0 0),(.int .u8 0),(.slice none 0 0),(.int .i64 0),(.slice none 0 0),(.int .u8 0),(.slice none 0 0),(.int .i64 0),(.slice none 0 0),(.int .u8 0),(.slice none 0 0),(.int .i64 0),(.slice none 0 0)]
def zclL:TypeId→List Value
 |70=>[(.int .u8 0),(.slice none 0 0),(.int .i64 0),(.slice none 0 0)]
 |5=>[(.int .u8 0)]
 |152=>[(.pointer none)]
 |154=>[(.pointer none)]
 |_=>[]
def zvlL:TypeId→Value
 |_=>undef
def zklL:TypeId→List Nat
 |_=>[]
def zrlL:Nat→TypeId→List Value
 |1,5=>[(.int .u8 0)]
 |19,70=>Z76L
 |4,3=>[(.int .i64 0),(.int .i64 0),(.int .i64 0),(.int .i64 0)]
 |_,_=>[]
noncomputable def f39:AFunc:=by
 refine(fun(_:Cz zclL zvlL zklL zrlL Go.Proofs.Tryz.prog 0 [0,2,3,4,5,12] 39 ?a)=>?a) ?h
 case h=>
 intro zc zv zk zr hc hv hk hr
 conv=>lhs;cbv;try simp only[hc,hv,hk,hr,zclL,zvlL,zklL,zrlL]
theorem f39_ok:compF Go.Proofs.Tryz.prog 0 [0,2,3,4,5,12] 39=some f39:=by kernel_rfl
theorem f39_n:argsOK Go.Proofs.Tryz.prog 39 1=true:=by kernel_rfl
noncomputable def f40:AFunc:=by
 refine(fun(_:Cz zclL zvlL zklL zrlL Go.Proofs.Tryz.prog 0 [0,2,3,4,5,12] 40 ?a)=>?a) ?h
 case h=>
 intro zc zv zk zr hc hv hk hr
 conv=>lhs;cbv;try simp only[hc,hv,hk,hr,zclL,zvlL,zklL,zrlL]
theorem f40_ok:compF Go.Proofs.Tryz.prog 0 [0,2,3,4,5,12] 40=some f40:=by kernel_rfl
theorem f40_n:argsOK Go.Proofs.Tryz.prog 40 1=true:=by kernel_rfl
end Go.AM.F

set_option maxRecDepth 100000
set_option maxHeartbeats 0
namespace Go.AM.F
def zclM:TypeId→List Value
 |70=>[(.int .u8 0),(.slice none 0 0),(.int .i64 0),(.slice none 0 0)]
 |_=>[]
def zvlM:TypeId→Value
 |_=>undef
def zklM:TypeId→List Nat
 |_=>[]
def zrlM:Nat→TypeId→List Value
 |_,_=>[]
noncomputable def f43:AFunc:=by
 refine(fun(_:Cz zclM zvlM zklM zrlM Go.Proofs.Tryz.prog 0 [0,1,2] 43 ?a)=>?a) ?h
 case h=>
 intro zc zv zk zr hc hv hk hr
 conv=>lhs;cbv;try simp only[hc,hv,hk,hr,zclM,zvlM,zklM,zrlM]
theorem f43_ok:compF Go.Proofs.Tryz.prog 0 [0,1,2] 43=some f43:=by kernel_rfl
theorem f43_n:argsOK Go.Proofs.Tryz.prog 43 1=true:=by kernel_rfl
noncomputable def f44:AFunc:=by
 refine(fun(_:Cz zclM zvlM zklM zrlM Go.Proofs.Tryz.prog 0 [0,2,11] 44 ?a)=>?a) ?h
 case h=>
 intro zc zv zk zr hc hv hk hr
 conv=>lhs;cbv;try simp only[hc,hv,hk,hr,zclM,zvlM,zklM,zrlM]
theorem f44_ok:compF Go.Proofs.Tryz.prog 0 [0,2,11] 44=some f44:=by kernel_rfl
theorem f44_n:argsOK Go.Proofs.Tryz.prog 44 1=true:=by kernel_rfl
noncomputable def f45:AFunc:=by
 refine(fun(_:Cz zclM zvlM zklM zrlM Go.Proofs.Tryz.prog 0 [0,1,2,3,4] 45 ?a)=>?a) ?h
 case h=>
 intro zc zv zk zr hc hv hk hr
 conv=>lhs;cbv;try simp only[hc,hv,hk,hr,zclM,zvlM,zklM,zrlM]
theorem f45_ok:compF Go.Proofs.Tryz.prog 0 [0,1,2,3,4] 45=some f45:=by kernel_rfl
theorem f45_n:argsOK Go.Proofs.Tryz.prog 45 2=true:=by kernel_rfl
noncomputable def f46:AFunc:=by
 refine(fun(_:Cz zclM zvlM zklM zrlM Go.Proofs.Tryz.prog 0 [0,1,4,5,13,23,34,47] 46 ?a)=>?a) ?h
 case h=>
 intro zc zv zk zr hc hv hk hr
 conv=>lhs;cbv;try simp only[hc,hv,hk,hr,zclM,zvlM,zklM,zrlM]
theorem f46_ok:compF Go.Proofs.Tryz.prog 0 [0,1,4,5,13,23,34,47] 46=some f46:=by kernel_rfl
theorem f46_n:argsOK Go.Proofs.Tryz.prog 46 2=true:=by kernel_rfl
noncomputable def f47:AFunc:=by
 refine(fun(_:Cz zclM zvlM zklM zrlM Go.Proofs.Tryz.prog 0 [0,2,3,4,5,6,13] 47 ?a)=>?a) ?h
 case h=>
 intro zc zv zk zr hc hv hk hr
 conv=>lhs;cbv;try simp only[hc,hv,hk,hr,zclM,zvlM,zklM,zrlM]
theorem f47_ok:compF Go.Proofs.Tryz.prog 0 [0,2,3,4,5,6,13] 47=some f47:=by kernel_rfl
theorem f47_n:argsOK Go.Proofs.Tryz.prog 47 1=true:=by kernel_rfl
noncomputable def f48:AFunc:=by
 refine(fun(_:Cz zclM zvlM zklM zrlM Go.Proofs.Tryz.prog 0 [0,1,4,5,26] 48 ?a)=>?a) ?h
 case h=>
 intro zc zv zk zr hc hv hk hr
 conv=>lhs;cbv;try simp only[hc,hv,hk,hr,zclM,zvlM,zklM,zrlM]
theorem f48_ok:compF Go.Proofs.Tryz.prog 0 [0,1,4,5,26] 48=some f48:=by kernel_rfl
theorem f48_n:argsOK Go.Proofs.Tryz.prog 48 2=true:=by kernel_rfl
noncomputable def f49:AFunc:=by
 refine(fun(_:Cz zclM zvlM zklM zrlM Go.Proofs.Tryz.prog 0 [0,2,4] 49 ?a)=>?a) ?h
 case h=>
 intro zc zv zk zr hc hv hk hr
 conv=>lhs;cbv;try simp only[hc,hv,hk,hr,zclM,zvlM,zklM,zrlM]
theorem f49_ok:compF Go.Proofs.Tryz.prog 0 [0,2,4] 49=some f49:=by kernel_rfl
theorem f49_n:argsOK Go.Proofs.Tryz.prog 49 1=true:=by kernel_rfl
noncomputable def f97:AFunc:=by
 refine(fun(_:Cz zclM zvlM zklM zrlM Go.Proofs.Tryz.prog 0 [0,1,4,5,19] 97 ?a)=>?a) ?h
 case h=>
 intro zc zv zk zr hc hv hk hr
 conv=>lhs;cbv;try simp only[hc,hv,hk,hr,zclM,zvlM,zklM,zrlM]
theorem f97_ok:compF Go.Proofs.Tryz.prog 0 [0,1,4,5,19] 97=some f97:=by kernel_rfl
theorem f97_n:argsOK Go.Proofs.Tryz.prog 97 2=true:=by kernel_rfl
noncomputable def f98:AFunc:=by
 refine(fun(_:Cz zclM zvlM zklM zrlM Go.Proofs.Tryz.prog 0 [0,2] 98 ?a)=>?a) ?h
 case h=>
 intro zc zv zk zr hc hv hk hr
 conv=>lhs;cbv;try simp only[hc,hv,hk,hr,zclM,zvlM,zklM,zrlM]
theorem f98_ok:compF Go.Proofs.Tryz.prog 0 [0,2] 98=some f98:=by kernel_rfl
theorem f98_n:argsOK Go.Proofs.Tryz.prog 98 1=true:=by kernel_rfl
noncomputable def f103:AFunc:=by
 refine(fun(_:Cz zclM zvlM zklM zrlM Go.Proofs.Tryz.prog 0 [0,2] 103 ?a)=>?a) ?h
 case h=>
 intro zc zv zk zr hc hv hk hr
 conv=>lhs;cbv;try simp only[hc,hv,hk,hr,zclM,zvlM,zklM,zrlM]
theorem f103_ok:compF Go.Proofs.Tryz.prog 0 [0,2] 103=some f103:=by kernel_rfl
theorem f103_n:argsOK Go.Proofs.Tryz.prog 103 1=true:=by kernel_rfl
end Go.AM.F

set_option linter.unusedSimpArgs false
set_option linter.unusedVariables false
namespace Go.AM.Fd
open Nat (reduceAdd reduceEqDiff reduceLT reduceLeDiff reduceMul reduceSub)
open Go.Proofs Go.AM.F
def pastW(L:Lg)(i:Int):Option (List UInt8):=if i<0∨(L.rs.length:Int)≤i then none else some (L.rs.getD (L.rs.length-1-i.toNat) [])
section
variable {K:AHeap} {c lb b sb le e:Nat} {v rv vb vo vl:Value} {ab:Option Nat} {items:List (Value×List UInt8)} {inn:Int} {D:Dk} {L:Lg}
def ckC(lb:Nat):AO:=.cells true false 1 [ptr lb 0] 152
def rkC(le:Nat):AO:=.cells true false 1 [ptr le 0] 154
theorem t98(h:RlR K le e vb vo inn vl D L)(hc:K.get c=some (rkC le)):∃w K',ARun Go.Proofs.Tryz.prog 0 98 [ptr c 0] K w K'∧w=.int .i64 (((D.bl.length-2:Nat):Int)-(L.rs.length:Nat))∧K'=K:=by
 refine walk2 f98_ok f98_n ?_
 intro Q hq1 hq2
 unfold rkC at hc
 have g:=h.g
 have n3:=h.n3
 have n4:=h.ok.n
 have lr:=h.lr
 have ir:=Sl.is h.sl
 have lok:=h.lok.r
 have hlt:=h.lt
 have hclt:=AHeap.get_lt hc
 have hw:IntKind.i64.wrap (((D.bl.length-2:Nat):Int)-((L.rs.length:Nat):Int))=((D.bl.length-2:Nat):Int)-(L.rs.length:Nat):=wrap_i64 (by omega) (by omega)
 simp(disch:=first|assumption|omega|(simp only[LN]<;>omega)|(simp(disch:=first|assumption|omega|(simp only[LN]<;>omega))only[row_alloc,row_set];assumption))only[f98,W_block,P3,↓reduceIte,reduceAdd,reduceEqDiff,reduceCtorEq,initFr,reduceLT,clsA,reduceLeDiff,reduceMul,reduceSub,reduceIte,hc]
 refine callK (t77 h) ?_
 rintro _ X ⟨rfl,hX⟩
 rw[hX]
 simp(disch:=first|assumption|omega|(simp only[LN]<;>omega)|(simp(disch:=first|assumption|omega|(simp only[LN]<;>omega))only[row_alloc,row_set];assumption))only[W_block,P3,↓reduceIte,reduceAdd,reduceEqDiff,reduceCtorEq,initFr,reduceLT,clsA,reduceLeDiff,reduceMul,reduceSub,reduceIte,hc,g,lr,hw]
 exact hq2 _ _ ⟨_,rfl,rfl,rfl⟩
theorem t49(h:LgR K lb b sb v ab rv items D L)(hc:K.get c=some (ckC lb)):∃w K',ARun Go.Proofs.Tryz.prog 0 49 [ptr c 0] K w K'∧w=.int .i64 (((D.bl.length-2:Nat):Int)-(L.rs.length:Nat))∧K'=K:=by
 refine walk2 f49_ok f49_n ?_
 intro Q hq1 hq2
 unfold ckC at hc
 have n3:=h.n3
 have n4:=h.ok.n
 have lok:=h.lok
 have l1:=lok.f
 have l2:=lok.r.1
 have hnx:L.next=L.first+L.rs.length:=rfl
 have hclt:=AHeap.get_lt hc
 have hw1:IntKind.i64.wrap (((L.next:Nat):Int)-((L.first:Nat):Int))=((L.rs.length:Nat):Int):=by rw[wrap_i64 (by omega) (by omega)];omega
 have hw:IntKind.i64.wrap (((D.bl.length-2:Nat):Int)-((L.rs.length:Nat):Int))=((D.bl.length-2:Nat):Int)-(L.rs.length:Nat):=wrap_i64 (by omega) (by omega)
 simp(disch:=first|assumption|omega|(simp only[LN]<;>omega)|(simp(disch:=first|assumption|omega|(simp only[LN]<;>omega))only[row_alloc,row_set];assumption))only[f49,W_block,P3,↓reduceIte,reduceAdd,reduceEqDiff,reduceCtorEq,initFr,reduceLT,clsA,reduceLeDiff,reduceMul,reduceSub,reduceIte,hc]
 refine callK (t29 h) ?_
 rintro _ X ⟨rfl,hX⟩
 rw[hX]
 simp(disch:=first|assumption|omega|(simp only[LN]<;>omega)|(simp(disch:=first|assumption|omega|(simp only[LN]<;>omega))only[row_alloc,row_set];assumption))only[W_block,P3,↓reduceIte,reduceAdd,reduceEqDiff,reduceCtorEq,initFr,reduceLT,clsA,reduceLeDiff,reduceMul,reduceSub,reduceIte,hc]
 refine callK (t28 h) ?_
 rintro _ X ⟨rfl,hX⟩
 rw[hX]
 simp(disch:=first|assumption|omega|(simp only[LN]<;>omega)|(simp(disch:=first|assumption|omega|(simp only[LN]<;>omega))only[row_alloc,row_set];assumption))only[W_block,P3,↓reduceIte,reduceAdd,reduceEqDiff,reduceCtorEq,initFr,reduceLT,clsA,reduceLeDiff,reduceMul,reduceSub,reduceIte,hc]
 refine callK (t27 h) ?_
 rintro _ X ⟨rfl,hX⟩
 rw[hX]
 simp(disch:=first|assumption|omega|(simp only[LN]<;>omega)|(simp(disch:=first|assumption|omega|(simp only[LN]<;>omega))only[row_alloc,row_set];assumption))only[W_block,P3,↓reduceIte,reduceAdd,reduceEqDiff,reduceCtorEq,initFr,reduceLT,clsA,reduceLeDiff,reduceMul,reduceSub,reduceIte,hw1,hw]
 exact hq2 _ _ ⟨_,rfl,rfl,rfl⟩
end
end Go.AM.Fd

set_option linter.unusedSimpArgs false
set_option linter.unusedVariables false
namespace Go.AM.Fd
open Nat (reduceAdd reduceEqDiff reduceLT reduceLeDiff reduceMul reduceSub)
open Go.Proofs Go.AM.F
section
variable {K:AHeap} {c lb b sb le e:Nat} {v rv vb vo vl:Value} {ab:Option Nat} {items:List (Value×List UInt8)} {inn:Int} {D:Dk} {L:Lg}
theorem t97(h:RlR K le e vb vo inn vl D L)(hc:K.get c=some (rkC le))(i:Int)(hi:i≤9223372036854775807):∃w K',ARun Go.Proofs.Tryz.prog 0 97 [ptr c 0,.int .i64 i] K w K'∧w=.tuple #[.string ⟨((pastW L i).getD []).toArray⟩,.bool (pastW L i).isSome]∧K'=K:=by
 refine walk2 f97_ok f97_n ?_
 intro Q hq1 hq2
 unfold rkC at hc
 have g:=h.g
 have lr:=h.lr
 have ir:=Sl.is h.sl
 have lok:=h.lok.r.1
 by_cases c1:i<0
 ·have e1:pastW L i=none:=by unfold pastW;rw[if_pos (.inl c1)]
  rw[e1]at hq2
  simp(disch:=first|assumption|omega|(simp only[LN]<;>omega)|(simp(disch:=first|assumption|omega|(simp only[LN]<;>omega))only[row_alloc,row_set];assumption))only[f97,W_block,P3,↓reduceIte,reduceAdd,reduceEqDiff,reduceCtorEq,initFr,reduceLT,clsA,reduceLeDiff,reduceMul,reduceSub,reduceIte,hc]
  exact hq2 _ _ ⟨_,rfl,rfl,rfl⟩
 ·by_cases c2:((L.rs.length:Nat):Int)≤i
  ·have e1:pastW L i=none:=by unfold pastW;rw[if_pos (.inr c2)]
   rw[e1]at hq2
   simp(disch:=first|assumption|omega|(simp only[LN]<;>omega)|(simp(disch:=first|assumption|omega|(simp only[LN]<;>omega))only[row_alloc,row_set];assumption))only[f97,W_block,P3,↓reduceIte,reduceAdd,reduceEqDiff,reduceCtorEq,initFr,reduceLT,clsA,reduceLeDiff,reduceMul,reduceSub,reduceIte,hc,g,lr]
   exact hq2 _ _ ⟨_,rfl,rfl,rfl⟩
  ·have e1:pastW L i=some (L.rs.getD (L.rs.length-1-i.toNat) []):=by unfold pastW;rw[if_neg (by omega)]
   rw[e1]at hq2
   have hlt:L.rs.length-1-i.toNat<L.rs.length:=by omega
   obtain⟨na,ra⟩:=Sl.at_ h.sl (by omega) (i:=L.rs.length-1-i.toNat) (by simpa using hlt)
   simp only[List.getElem_map]at ra
   have hgd:L.rs.getD (L.rs.length-1-i.toNat) []=L.rs[L.rs.length-1-i.toNat]:=by simp[List.getD,List.getElem?_eq_getElem hlt]
   rw[hgd]at hq2
   have hw1:IntKind.i64.wrap (((L.rs.length:Nat):Int)-1)=((L.rs.length:Nat):Int)-1:=wrap_i64 (by omega) (by omega)
   have hw2:IntKind.i64.wrap (((L.rs.length:Nat):Int)-1-i)=((L.rs.length-1-i.toNat:Nat):Int):=by rw[wrap_i64 (by omega) (by omega)];omega
   have h0:(0:Int)≤((L.rs.length-1-i.toNat:Nat):Int):=by omega
   have hl2:((L.rs.length-1-i.toNat:Nat):Int)<((lenS vl:Nat):Int):=by rw[lr];omega
   simp(disch:=first|assumption|omega|(simp only[LN]<;>omega)|(simp(disch:=first|assumption|omega|(simp only[LN]<;>omega))only[row_alloc,row_set];assumption))only[f97,W_block,P3,↓reduceIte,reduceAdd,reduceEqDiff,reduceCtorEq,initFr,reduceLT,clsA,reduceLeDiff,reduceMul,reduceSub,reduceIte,hc,g,lr,hw1,hw2,na,ra]
   exact hq2 _ _ ⟨_,rfl,rfl,rfl⟩
theorem t48(h:LgR K lb b sb v ab rv items D L)(hc:K.get c=some (ckC lb))(i:Int)(hi:i≤9223372036854775807):∃w K',ARun Go.Proofs.Tryz.prog 0 48 [ptr c 0,.int .i64 i] K w K'∧Keeps K K'∧∃y,w=.tuple #[y,.bool (pastW L i).isSome]∧AP K' 5 1 y ((pastW L i).getD []).length (cellsOf ((pastW L i).getD []))∧Fresh K.n y:=by
 refine walk2 f48_ok f48_n ?_
 intro Q hq1 hq2
 unfold ckC at hc
 have lok:=h.lok
 have l1:=lok.f
 have l2:=lok.r.1
 have hnx:L.next=L.first+L.rs.length:=rfl
 have hclt:=AHeap.get_lt hc
 have hw1:IntKind.i64.wrap (((L.next:Nat):Int)-((L.first:Nat):Int))=((L.rs.length:Nat):Int):=by rw[wrap_i64 (by omega) (by omega)];omega
 by_cases c1:i<0
 ·have e1:pastW L i=none:=by unfold pastW;rw[if_pos (.inl c1)]
  rw[e1]at hq2
  simp(disch:=first|assumption|omega|(simp only[LN]<;>omega)|(simp(disch:=first|assumption|omega|(simp only[LN]<;>omega))only[row_alloc,row_set];assumption))only[f48,W_block,P3,↓reduceIte,reduceAdd,reduceEqDiff,reduceCtorEq,initFr,reduceLT,clsA,reduceLeDiff,reduceMul,reduceSub,reduceIte,hc]
  exact hq2 _ _ ⟨_,rfl,Keeps.refl _,_,rfl,.inl ⟨rfl,rfl,rfl⟩,fun z hz=>by cases hz⟩
 ·simp(disch:=first|assumption|omega|(simp only[LN]<;>omega)|(simp(disch:=first|assumption|omega|(simp only[LN]<;>omega))only[row_alloc,row_set];assumption))only[f48,W_block,P3,↓reduceIte,reduceAdd,reduceEqDiff,reduceCtorEq,initFr,reduceLT,clsA,reduceLeDiff,reduceMul,reduceSub,reduceIte,hc]
  refine callK (t28 h) ?_
  rintro _ X ⟨rfl,hX⟩
  rw[hX]
  simp(disch:=first|assumption|omega|(simp only[LN]<;>omega)|(simp(disch:=first|assumption|omega|(simp only[LN]<;>omega))only[row_alloc,row_set];assumption))only[W_block,P3,↓reduceIte,reduceAdd,reduceEqDiff,reduceCtorEq,initFr,reduceLT,clsA,reduceLeDiff,reduceMul,reduceSub,reduceIte,hc]
  refine callK (t27 h) ?_
  rintro _ X ⟨rfl,hX⟩
  rw[hX]
  by_cases c2:((L.rs.length:Nat):Int)≤i
  ·have e1:pastW L i=none:=by unfold pastW;rw[if_pos (.inr c2)]
   rw[e1]at hq2
   simp(disch:=first|assumption|omega|(simp only[LN]<;>omega)|(simp(disch:=first|assumption|omega|(simp only[LN]<;>omega))only[row_alloc,row_set];assumption))only[W_block,P3,↓reduceIte,reduceAdd,reduceEqDiff,reduceCtorEq,initFr,reduceLT,clsA,reduceLeDiff,reduceMul,reduceSub,reduceIte,hw1]
   exact hq2 _ _ ⟨_,rfl,Keeps.refl _,_,rfl,.inl ⟨rfl,rfl,rfl⟩,fun z hz=>by cases hz⟩
  ·have e1:pastW L i=some (L.rs.getD (L.rs.length-1-i.toNat) []):=by unfold pastW;rw[if_neg (by omega)]
   rw[e1]at hq2
   have hw2:IntKind.i64.wrap (((L.next:Nat):Int)-1)=((L.next:Nat):Int)-1:=wrap_i64 (by omega) (by omega)
   have hw3:IntKind.i64.wrap (((L.next:Nat):Int)-1-i)=((L.next:Nat):Int)-1-i:=wrap_i64 (by omega) (by omega)
   simp(disch:=first|assumption|omega|(simp only[LN]<;>omega)|(simp(disch:=first|assumption|omega|(simp only[LN]<;>omega))only[row_alloc,row_set];assumption))only[W_block,P3,↓reduceIte,reduceAdd,reduceEqDiff,reduceCtorEq,initFr,reduceLT,clsA,reduceLeDiff,reduceMul,reduceSub,reduceIte,hw1,hc]
   refine callK (t28 h) ?_
   rintro _ X ⟨rfl,hX⟩
   rw[hX]
   simp(disch:=first|assumption|omega|(simp only[LN]<;>omega)|(simp(disch:=first|assumption|omega|(simp only[LN]<;>omega))only[row_alloc,row_set];assumption))only[W_block,P3,↓reduceIte,reduceAdd,reduceEqDiff,reduceCtorEq,initFr,reduceLT,clsA,reduceLeDiff,reduceMul,reduceSub,reduceIte,hw2,hw3]
   refine⟨by simp,?_⟩
   refine callK (t26 h (((L.next:Nat):Int)-1-i) (by omega) (by omega)) ?_
   rintro _ K2 ⟨k2,y,rfl,ap,fy⟩
   have hin:((L.first:Nat):Int)≤((L.next:Nat):Int)-1-i∧((L.next:Nat):Int)-1-i<((L.next:Nat):Int):=by omega
   rw[if_pos hin]at ap
   rw[decide_eq_true hin]
   have hk:(((L.next:Nat):Int)-1-i).toNat - L.first=L.rs.length-1-i.toNat:=by omega
   rw[hk]at ap
   simp(disch:=first|assumption|omega|(simp only[LN]<;>omega)|(simp(disch:=first|assumption|omega|(simp only[LN]<;>omega))only[row_alloc,row_set];assumption))only[W_block,P3,↓reduceIte,reduceAdd,reduceEqDiff,reduceCtorEq,initFr,reduceLT,clsA,reduceLeDiff,reduceMul,reduceSub,reduceIte]
   exact hq2 _ _ ⟨_,rfl,k2,_,rfl,ap,fy⟩
theorem t47(h:LgR K lb b sb v ab rv items D L)(hc:K.get c=some (ckC lb)):∃w K',ARun Go.Proofs.Tryz.prog 0 47 [ptr c 0] K w K'∧Keeps K K'∧∃y,w=.tuple #[y,.int .i64 (if(pastW L 0).isSome=true then((L.next:Nat):Int)-1 else 0),.bool (pastW L 0).isSome]∧AP K' 5 1 y ((pastW L 0).getD []).length (cellsOf ((pastW L 0).getD []))∧Fresh K.n y:=by
 refine walk2 f47_ok f47_n ?_
 intro Q hq1 hq2
 have hc0:=hc
 unfold ckC at hc
 have lok:=h.lok
 have l1:=lok.f
 have l2:=lok.r.1
 have hnx:L.next=L.first+L.rs.length:=rfl
 have hw2:IntKind.i64.wrap (((L.next:Nat):Int)-1)=((L.next:Nat):Int)-1:=wrap_i64 (by omega) (by omega)
 simp(disch:=first|assumption|omega|(simp only[LN]<;>omega)|(simp(disch:=first|assumption|omega|(simp only[LN]<;>omega))only[row_alloc,row_set];assumption))only[f47,W_block,P3,↓reduceIte,reduceAdd,reduceEqDiff,reduceCtorEq,initFr,reduceLT,clsA,reduceLeDiff,reduceMul,reduceSub,reduceIte]
 refine callK (t48 h hc0 0 (by omega)) ?_
 rintro _ K2 ⟨k2,y,rfl,ap,fy⟩
 have hc2:=k2.at_ hc
 cases hp:pastW L 0 with
 |none=>
  rw[hp]at ap hq2
  have s0:(if(none:Option (List UInt8)).isSome=true then((L.next:Nat):Int)-1 else 0)=0:=rfl
  have so:(none:Option (List UInt8)).isSome=false:=rfl
  rw[s0,so]at hq2
  rw[so]
  simp(disch:=first|assumption|omega|(simp only[LN]<;>omega)|(simp(disch:=first|assumption|omega|(simp only[LN]<;>omega))only[row_alloc,row_set];assumption))only[W_block,P3,↓reduceIte,reduceAdd,reduceEqDiff,reduceCtorEq,initFr,reduceLT,clsA,reduceLeDiff,reduceMul,reduceSub,reduceIte]
  exact hq2 _ _ ⟨_,rfl,k2,_,rfl,.inl ⟨rfl,rfl,rfl⟩,fun z hz=>by cases hz⟩
 |some l=>
  rw[hp]at ap hq2
  have s0:(if(some l).isSome=true then((L.next:Nat):Int)-1 else 0)=((L.next:Nat):Int)-1:=rfl
  have so:(some l).isSome=true:=rfl
  rw[s0,so]at hq2
  rw[so]
  simp(disch:=first|assumption|omega|(simp only[LN]<;>omega)|(simp(disch:=first|assumption|omega|(simp only[LN]<;>omega))only[row_alloc,row_set];assumption))only[W_block,P3,↓reduceIte,reduceAdd,reduceEqDiff,reduceCtorEq,initFr,reduceLT,clsA,reduceLeDiff,reduceMul,reduceSub,reduceIte,hc2]
  refine callK (t28 (h.keeps k2)) ?_
  rintro _ X ⟨rfl,hX⟩
  rw[hX]
  simp(disch:=first|assumption|omega|(simp only[LN]<;>omega)|(simp(disch:=first|assumption|omega|(simp only[LN]<;>omega))only[row_alloc,row_set];assumption))only[W_block,P3,↓reduceIte,reduceAdd,reduceEqDiff,reduceCtorEq,initFr,reduceLT,clsA,reduceLeDiff,reduceMul,reduceSub,reduceIte,hw2]
  exact hq2 _ _ ⟨_,rfl,k2,_,rfl,ap,fy⟩
end
end Go.AM.Fd

set_option linter.unusedSimpArgs false
set_option linter.unusedVariables false
namespace Go.AM.Fd
open Nat (reduceAdd reduceEqDiff reduceLT reduceLeDiff reduceMul reduceSub)
open Go.Proofs Go.AM.F
def checkW(D:Dk)(L:Lg):Dk×Lg×Int:=if 1<L.rs.length then truncW D L (((L.next:Nat):Int)-1)else(D,L,L.br)
def saveW(D:Dk)(L:Lg)(l:List UInt8):Dk×Lg×Int:=if L.br≠0 then(D,L,L.br)else if 232<l.length then(D,L,3)else
 if((D.bl.length-2:Nat):Int)-(L.rs.length:Nat)=0∧2≤D.bl.length-2 then
  (if(truncW D L (((L.next:Nat):Int)-1)).2.2 ≠0 then truncW D L (((L.next:Nat):Int)-1)else appW (truncW D L (((L.next:Nat):Int)-1)).1 (truncW D L (((L.next:Nat):Int)-1)).2.1 l)
 else appW D L l
theorem truncW_b(D:Dk)(L:Lg)(k:Int):(truncW D L k).1.st≤D.st+2∧(truncW D L k).1.op.length≤D.op.length+1:=by
 unfold truncW
 split
 ·exact⟨by simp,by simp⟩
 ·split
  ·exact⟨by simp,by simp⟩
  ·exact wlD_b _ _ _
section
variable {K:AHeap} {c lb b sb le e:Nat} {v rv vb vo vl:Value} {ab:Option Nat} {items:List (Value×List UInt8)} {inn:Int} {D:Dk} {L:Lg}
theorem t44(h:RlR K le e vb vo inn vl D L)(hc:K.get c=some (rkC le))(hs:D.st<999999)(hm:D.op.length<999999)(hT:L.turn<8999999999999999999)(hF:L.next≤9000000000000000000):∃w K',ARun Go.Proofs.Tryz.prog 0 44 [ptr c 0] K w K'∧w=.int .i64 (checkW D L).2.2 ∧
 ∃vo' inn' vl',RlR K' le e vb vo' inn' vl' (checkW D L).1 (checkW D L).2.1 ∧Upd (rlT le e vl L++ekT e vb vo inn D) (rlT le e vl' (checkW D L).2.1 ++ekT e vb vo' inn' (checkW D L).1) K K':=by
 refine walk2 f44_ok f44_n ?_
 intro Q hq1 hq2
 unfold rkC at hc
 have g:=h.g
 have lr:=h.lr
 have ir:=Sl.is h.sl
 have lok:=h.lok.r.1
 have lf:=h.lok.f
 have hnx:L.next=L.first+L.rs.length:=rfl
 have hclt:=AHeap.get_lt hc
 by_cases c1:1<L.rs.length
 ·have d1:(1:Int)<((L.rs.length:Nat):Int):=by omega
  have e1:checkW D L=truncW D L (((L.next:Nat):Int)-1):=by unfold checkW;rw[if_pos c1]
  rw[e1]at hq2
  have hw:IntKind.i64.wrap (((L.next:Nat):Int)-1)=((L.next:Nat):Int)-1:=wrap_i64 (by omega) (by omega)
  simp(disch:=first|assumption|omega|(simp only[LN]<;>omega)|(simp(disch:=first|assumption|omega|(simp only[LN]<;>omega))only[row_alloc,row_set];assumption))only[f44,W_block,P3,↓reduceIte,reduceAdd,reduceEqDiff,reduceCtorEq,initFr,reduceLT,clsA,reduceLeDiff,reduceMul,reduceSub,reduceIte,hc,g,lr]
  refine callK (t79 h) ?_
  rintro _ X ⟨rfl,hX⟩
  rw[hX]
  simp(disch:=first|assumption|omega|(simp only[LN]<;>omega)|(simp(disch:=first|assumption|omega|(simp only[LN]<;>omega))only[row_alloc,row_set];assumption))only[W_block,P3,↓reduceIte,reduceAdd,reduceEqDiff,reduceCtorEq,initFr,reduceLT,clsA,reduceLeDiff,reduceMul,reduceSub,reduceIte,hw]
  refine⟨by simp,?_⟩
  refine callK (t89 h hs hm hT hF (((L.next:Nat):Int)-1)) ?_
  rintro _ K2 ⟨rfl,vo',inn',vl',h2,u2⟩
  simp(disch:=first|assumption|omega|(simp only[LN]<;>omega)|(simp(disch:=first|assumption|omega|(simp only[LN]<;>omega))only[row_alloc,row_set];assumption))only[W_block,P3,↓reduceIte,reduceAdd,reduceEqDiff,reduceCtorEq,initFr,reduceLT,clsA,reduceLeDiff,reduceMul,reduceSub,reduceIte]
  exact hq2 _ _ ⟨_,rfl,rfl,vo',inn',vl',h2,u2⟩
 ·have d1:¬(1:Int)<((L.rs.length:Nat):Int):=by omega
  have e1:checkW D L=(D,L,L.br):=by unfold checkW;rw[if_neg c1]
  rw[e1]at hq2
  simp(disch:=first|assumption|omega|(simp only[LN]<;>omega)|(simp(disch:=first|assumption|omega|(simp only[LN]<;>omega))only[row_alloc,row_set];assumption))only[f44,W_block,P3,↓reduceIte,reduceAdd,reduceEqDiff,reduceCtorEq,initFr,reduceLT,clsA,reduceLeDiff,reduceMul,reduceSub,reduceIte,hc,g,lr]
  exact hq2 _ _ ⟨_,rfl,rfl,vo,inn,vl,h,Upd.refl h.s⟩
theorem t46(h:RlR K le e vb vo inn vl D L)(hc:K.get c=some (rkC le))(hs:D.st<999990)(hm:D.op.length<999990)(hT:L.turn<8999999999999999999)(hF:L.next≤9000000000000000000){l:List UInt8}(hl:l.length≤1000000)(hcf:c∉fp (rlT le e vl L++ekT e vb vo inn D)):∃w K',ARun Go.Proofs.Tryz.prog 0 46 [ptr c 0,.string ⟨l.toArray⟩] K w K'∧w=.int .i64 (saveW D L l).2.2 ∧
 ∃vo' inn' vl',RlR K' le e vb vo' inn' vl' (saveW D L l).1 (saveW D L l).2.1 ∧Upd (rlT le e vl L++ekT e vb vo inn D) (rlT le e vl' (saveW D L l).2.1 ++ekT e vb vo' inn' (saveW D L l).1) K K':=by
 refine walk2 f46_ok f46_n ?_
 intro Q hq1 hq2
 have hc0:=hc
 unfold rkC at hc
 have g:=h.g
 have lok:=h.lok.r.1
 have lf:=h.lok.f
 have hnx:L.next=L.first+L.rs.length:=rfl
 have hclt:=AHeap.get_lt hc
 by_cases hb:L.br=0
 ·have d1:(L.br != 0)=false:=bnei_no hb
  by_cases c2:232<l.length
  ·have d2:(232:Int)<((l.length:Nat):Int):=by omega
   have e1:saveW D L l=(D,L,3):=by unfold saveW;rw[if_neg (by simp[hb]),if_pos c2]
   rw[e1]at hq2
   simp(disch:=first|assumption|omega|(simp only[LN]<;>omega)|(simp(disch:=first|assumption|omega|(simp only[LN]<;>omega))only[row_alloc,row_set];assumption))only[f46,W_block,P3,↓reduceIte,reduceAdd,reduceEqDiff,reduceCtorEq,initFr,reduceLT,clsA,reduceLeDiff,reduceMul,reduceSub,reduceIte,hc,g,d1,a_lens]
   exact hq2 _ _ ⟨_,rfl,rfl,vo,inn,vl,h,Upd.refl h.s⟩
  ·have d2:¬(232:Int)<((l.length:Nat):Int):=by omega
   simp(disch:=first|assumption|omega|(simp only[LN]<;>omega)|(simp(disch:=first|assumption|omega|(simp only[LN]<;>omega))only[row_alloc,row_set];assumption))only[f46,W_block,P3,↓reduceIte,reduceAdd,reduceEqDiff,reduceCtorEq,initFr,reduceLT,clsA,reduceLeDiff,reduceMul,reduceSub,reduceIte,hc,g,d1,a_lens]
   refine callK (t98 h hc0) ?_
   rintro _ X ⟨rfl,hX⟩
   rw[hX]
   by_cases c3:((D.bl.length-2:Nat):Int)-(L.rs.length:Nat)=0
   ·have d3:((((D.bl.length-2:Nat):Int)-(L.rs.length:Nat))==0)=true:=beqi_yes c3
    simp(disch:=first|assumption|omega|(simp only[LN]<;>omega)|(simp(disch:=first|assumption|omega|(simp only[LN]<;>omega))only[row_alloc,row_set];assumption))only[W_block,P3,↓reduceIte,reduceAdd,reduceEqDiff,reduceCtorEq,initFr,reduceLT,clsA,reduceLeDiff,reduceMul,reduceSub,reduceIte,hc,d3]
    refine callK (t77 h) ?_
    rintro _ X ⟨rfl,hX⟩
    rw[hX]
    by_cases c4:2≤D.bl.length-2
    ·have d4:(2:Int)≤((D.bl.length-2:Nat):Int):=by omega
     have hw:IntKind.i64.wrap (((L.next:Nat):Int)-1)=((L.next:Nat):Int)-1:=wrap_i64 (by omega) (by omega)
     simp(disch:=first|assumption|omega|(simp only[LN]<;>omega)|(simp(disch:=first|assumption|omega|(simp only[LN]<;>omega))only[row_alloc,row_set];assumption))only[W_block,P3,↓reduceIte,reduceAdd,reduceEqDiff,reduceCtorEq,initFr,reduceLT,clsA,reduceLeDiff,reduceMul,reduceSub,reduceIte,hc,d4]
     refine callK (t79 h) ?_
     rintro _ X ⟨rfl,hX⟩
     rw[hX]
     have hsv:saveW D L l=if(truncW D L (((L.next:Nat):Int)-1)).2.2 ≠0 then truncW D L (((L.next:Nat):Int)-1)else appW (truncW D L (((L.next:Nat):Int)-1)).1 (truncW D L (((L.next:Nat):Int)-1)).2.1 l:=by
      unfold saveW;rw[if_neg (by simp[hb]),if_neg c2,if_pos ⟨c3,c4⟩]
     have htb:=truncW_b D L (((L.next:Nat):Int)-1)
     simp(disch:=first|assumption|omega|(simp only[LN]<;>omega)|(simp(disch:=first|assumption|omega|(simp only[LN]<;>omega))only[row_alloc,row_set];assumption))only[W_block,P3,↓reduceIte,reduceAdd,reduceEqDiff,reduceCtorEq,initFr,reduceLT,clsA,reduceLeDiff,reduceMul,reduceSub,reduceIte,hw]
     refine⟨by simp,?_⟩
     refine callK (t89 h (by omega) (by omega) hT hF (((L.next:Nat):Int)-1)) ?_
     rintro _ K2 ⟨rfl,vo',inn',vl',h2,u2⟩
     have hc2:=u2.chg.at_ hc hcf
     generalize truncW D L (((L.next:Nat):Int)-1)=r at*
     by_cases he:r.2.2=0
     ·have d5:(r.2.2 != 0)=false:=bnei_no he
      rw[hsv,if_neg (by simp[he])]at hq2
      simp(disch:=first|assumption|omega|(simp only[LN]<;>omega)|(simp(disch:=first|assumption|omega|(simp only[LN]<;>omega))only[row_alloc,row_set];assumption))only[W_block,P3,↓reduceIte,reduceAdd,reduceEqDiff,reduceCtorEq,initFr,reduceLT,clsA,reduceLeDiff,reduceMul,reduceSub,reduceIte,d5,hc2]
      refine callK (t90 h2 (by omega) (by omega) l hl) ?_
      rintro _ K3 ⟨rfl,vo3,inn3,vl3,h3,u3⟩
      simp(disch:=first|assumption|omega|(simp only[LN]<;>omega)|(simp(disch:=first|assumption|omega|(simp only[LN]<;>omega))only[row_alloc,row_set];assumption))only[W_block,P3,↓reduceIte,reduceAdd,reduceEqDiff,reduceCtorEq,initFr,reduceLT,clsA,reduceLeDiff,reduceMul,reduceSub,reduceIte]
      exact hq2 _ _ ⟨_,rfl,rfl,vo3,inn3,vl3,h3,u2.trans u3⟩
     ·have d5:(r.2.2 != 0)=true:=bnei_yes he
      rw[hsv,if_pos he]at hq2
      simp(disch:=first|assumption|omega|(simp only[LN]<;>omega)|(simp(disch:=first|assumption|omega|(simp only[LN]<;>omega))only[row_alloc,row_set];assumption))only[W_block,P3,↓reduceIte,reduceAdd,reduceEqDiff,reduceCtorEq,initFr,reduceLT,clsA,reduceLeDiff,reduceMul,reduceSub,reduceIte,d5]
      exact hq2 _ _ ⟨_,rfl,rfl,vo',inn',vl',h2,u2⟩
    ·have d4:¬(2:Int)≤((D.bl.length-2:Nat):Int):=by omega
     have e1:saveW D L l=appW D L l:=by unfold saveW;rw[if_neg (by simp[hb]),if_neg c2,if_neg (by omega)]
     rw[e1]at hq2
     simp(disch:=first|assumption|omega|(simp only[LN]<;>omega)|(simp(disch:=first|assumption|omega|(simp only[LN]<;>omega))only[row_alloc,row_set];assumption))only[W_block,P3,↓reduceIte,reduceAdd,reduceEqDiff,reduceCtorEq,initFr,reduceLT,clsA,reduceLeDiff,reduceMul,reduceSub,reduceIte,hc,d4]
     refine callK (t90 h (by omega) (by omega) l hl) ?_
     rintro _ K2 ⟨rfl,vo',inn',vl',h2,u2⟩
     simp(disch:=first|assumption|omega|(simp only[LN]<;>omega)|(simp(disch:=first|assumption|omega|(simp only[LN]<;>omega))only[row_alloc,row_set];assumption))only[W_block,P3,↓reduceIte,reduceAdd,reduceEqDiff,reduceCtorEq,initFr,reduceLT,clsA,reduceLeDiff,reduceMul,reduceSub,reduceIte]
     exact hq2 _ _ ⟨_,rfl,rfl,vo',inn',vl',h2,u2⟩
   ·have d3:((((D.bl.length-2:Nat):Int)-(L.rs.length:Nat))==0)=false:=beqi_no c3
    have e1:saveW D L l=appW D L l:=by unfold saveW;rw[if_neg (by simp[hb]),if_neg c2,if_neg (by omega)]
    rw[e1]at hq2
    simp(disch:=first|assumption|omega|(simp only[LN]<;>omega)|(simp(disch:=first|assumption|omega|(simp only[LN]<;>omega))only[row_alloc,row_set];assumption))only[W_block,P3,↓reduceIte,reduceAdd,reduceEqDiff,reduceCtorEq,initFr,reduceLT,clsA,reduceLeDiff,reduceMul,reduceSub,reduceIte,hc,d3]
    refine callK (t90 h (by omega) (by omega) l hl) ?_
    rintro _ K2 ⟨rfl,vo',inn',vl',h2,u2⟩
    simp(disch:=first|assumption|omega|(simp only[LN]<;>omega)|(simp(disch:=first|assumption|omega|(simp only[LN]<;>omega))only[row_alloc,row_set];assumption))only[W_block,P3,↓reduceIte,reduceAdd,reduceEqDiff,reduceCtorEq,initFr,reduceLT,clsA,reduceLeDiff,reduceMul,reduceSub,reduceIte]
    exact hq2 _ _ ⟨_,rfl,rfl,vo',inn',vl',h2,u2⟩
 ·have d1:(L.br != 0)=true:=bnei_yes hb
  have e1:saveW D L l=(D,L,L.br):=by unfold saveW;rw[if_pos hb]
  rw[e1]at hq2
  simp(disch:=first|assumption|omega|(simp only[LN]<;>omega)|(simp(disch:=first|assumption|omega|(simp only[LN]<;>omega))only[row_alloc,row_set];assumption))only[f46,W_block,P3,↓reduceIte,reduceAdd,reduceEqDiff,reduceCtorEq,initFr,reduceLT,clsA,reduceLeDiff,reduceMul,reduceSub,reduceIte,hc,g,d1]
  exact hq2 _ _ ⟨_,rfl,rfl,vo,inn,vl,h,Upd.refl h.s⟩
end
end Go.AM.Fd

set_option linter.unusedSimpArgs false
set_option linter.unusedVariables false
namespace Go.AM
def QL(R:Act→World→Prop)(Q:Exit→Act→World→Prop):Exit→Act→World→Prop
 | .normal,a,w=>R a w
 | .exit id,a,w=>Q (.exit id) a w
 | .goto l,a,w=>Q (.goto l) a w
 | .ret,a,w=>Q .ret a w
 | .panic ch,a,w=>Q (.panic ch) a w
 | .outgrown,a,w=>Q .outgrown a w
section
variable {F:Fence} {m:Nat} {P:Program} {R:Act→World→Prop} {Q:Exit→Act→World→Prop}
theorem wpIn_QL{o:Oper}{a:Act}{w:World}{K K2:Act→World→Prop}(hh:o.wpIn F m P a w K (QL R Q))(h:∀a w,K a w→K2 a w):o.wpIn F m P a w K2 Q:=by
 unfold Oper.wpIn at*
 refine⟨hh.1,?_⟩
 have hh:=hh.2
 generalize(o.semAt F.round a.eval).run P w=r at*
 cases r with
 |ok x w'=>
  cases x<;>simp only[Oper.uponIn]at hh ⊢ <;>
   first
    |exact h _ _ hh
    |exact⟨hh.1,CallsIn.mono hh.2 (fun e w'' he=>by cases e<;>first|exact h _ _ he|exact he)⟩
    |exact⟨hh.1,RowsIn.mono hh.2 (fun _ _ he=>h _ _ he)⟩
    |exact⟨hh.1,RoundIn.mono hh.2 (fun e w'' he=>by cases e<;>first|exact h _ _ he|exact he)⟩
 |halt x w'=>cases x<;>simp only[Oper.uponIn]at hh ⊢ <;>exact hh
structure Like (ops ops':Array Oper) (j:Nat) (o:Oper) (v0:Value):Prop where
 size:ops'.size=ops.size
 same:∀i,i≠j→ops'[i]? =ops[i]?
 at_:ops[j]? =some o
 at':ops'[j]? =some {o with op:=.move (.const v0)}
 guard:o.guard=none
variable {ops ops':Array Oper} {j:Nat} {o:Oper} {v0:Value}
theorem Like.map{α:Type}(L:Like ops ops' j o v0)(f:Oper→α)(hf:∀o op,f {o with op:=op}=f o)(i:Nat):(ops'[i]?).map f=(ops[i]?).map f:=by
 by_cases h:i=j
 ·subst h;rw[L.at_,L.at'];simp only[Option.map_some,hf]
 ·rw[L.same i h]
theorem Like.yielded(L:Like ops ops' j o v0)(t:Array Value):Go.yielded ops' t=Go.yielded ops t:=by
 funext k
 unfold Go.yielded
 have h:(ops'[k]?).bind (·.dst)=(ops[k]?).bind (·.dst):=by
  by_cases h:k=j
  ·subst h;rw[L.at_,L.at'];rfl
  ·rw[L.same k h]
 rw[h]
theorem Like.ready(L:Like ops ops' j o v0)(l:Array Bool):Region.ready .any ops' l=Region.ready .any ops l:=by
 unfold Region.ready
 rw[L.size]
 congr 1
 funext i
 rw[L.map (fun o=>o.after.all fun e=> !Region.binds .any e||l.getD e.on false) (fun _ _=>rfl) i]
theorem Like.wanted(L:Like ops ops' j o v0)(y:Nat→Option Bool):Region.wanted o y=true:=by
 unfold Region.wanted;rw[L.guard]
theorem Like.wanted'(L:Like ops ops' j o v0)(op:Op)(y:Nat→Option Bool):Region.wanted {o with op:=op} y=true:=by
 unfold Region.wanted;simp only[L.guard]
theorem move_wp(hF:IsW F){a:Act}{w:World}{K:Act→World→Prop}{Q:Exit→Act→World→Prop}(h:({o with op:=.move (.const v0)}:Oper).wpIn F m P a w K Q):K (a.put o.dst v0) w:=by
 have h:=h.2
 rw[Oper.semAt_eq _ _ _ (by intro c;simp)]at h
 simpa[execOp,Oper.uponIn,Act.eval]using h
theorem list_last(hF:IsW F)(L:Like ops ops' j o v0)(hP:∀a w,R (a.put o.dst v0) w→o.wpIn F m P a w (fun a' w'=>Q .normal a' w') Q):∀(l:List Oper) (a:Act) (w:World),
 wpListIn F m P ops' (QL R Q) (l++[{o with op:=.move (.const v0)}]) a w→wpListIn F m P ops Q (l++[o]) a w
 |[],a,w,h=>by
  simp only[List.nil_append,wpListIn,L.wanted,L.wanted',if_true]at h ⊢
  exact hP a w (move_wp hF h)
 |p::l,a,w,h=>by
  simp only[List.cons_append,wpListIn,L.yielded]at h ⊢
  split
  ·rename_i hw
   rw[if_pos hw]at h
   exact wpIn_QL h (fun a w=>list_last hF L hP l a w)
  ·rename_i hw
   rw[if_neg hw]at h
   exact⟨h.1,list_last hF L hP l _ w h.2⟩
theorem mem_ready'{l:Array Bool}{i:Nat}:i∈Region.ready .any ops l↔i<ops.size∧l.getD i true=false∧∃o,ops[i]? =some o∧∀e∈o.after,Region.binds .any e=true→l.getD e.on false=true:=by
 unfold Region.ready
 rw[List.mem_filter,List.mem_range]
 constructor
 ·rintro⟨h1,h2⟩
  simp only[Bool.and_eq_true,Bool.not_eq_true']at h2
  refine⟨h1,h2.1,?_⟩
  cases ho:ops[i]? with
  |none=>rw[ho]at h2;simp at h2
  |some o=>
   rw[ho]at h2
   refine⟨o,rfl,fun e he hb=>?_⟩
   have:=h2.2
   simp only[Option.map_some,Option.getD_some]at this
   rw[Array.all_eq_true']at this
   have:=this e he
   simpa[hb]using this
 ·rintro⟨h1,h2,o,h3,h4⟩
  refine⟨h1,?_⟩
  simp only[Bool.and_eq_true,Bool.not_eq_true']
  refine⟨h2,?_⟩
  rw[h3]
  simp only[Option.map_some,Option.getD_some]
  rw[Array.all_eq_true']
  intro e he
  by_cases hb:Region.binds .any e=true
  ·rw[h4 e he hb];simp
  ·simp[hb]
theorem any_last(hF:IsW F)(L:Like ops ops' j o v0)(hjs:j<ops.size)(hlast:∀i,i<ops.size→i≠j→ordB (anc ops) i j=true)(hedge:∀i o e,ops[i]? =some o→e∈o.after→Region.binds .any e=true→e.on<i)
 (hP:∀a w,R (a.put o.dst v0) w→o.wpIn F m P a w (fun a' w'=>Q .normal a' w') Q):
 ∀(fuel:Nat) (S:Nat→Bool) (l:Array Bool) (a:Act) (w:World),l.size=ops.size→(∀i,i<ops.size→l[i]? =some (S i))→cntU ops.size S=fuel→Closed ops S→S j=false→
  wpAnyIn F m P .any ops' (QL R Q) fuel l a w→wpAnyIn F m P .any ops Q fuel l a w
 |0,S,l,a,w,hsz,hl,hc,hS,hj,h=>by
  rw[cntU_zero hc j hjs]at hj;cases hj
 |fuel+1,S,l,a,w,hsz,hl,hc,hS,hj,h=>by
  have rd:∀i,i∈Region.ready .any ops l→i<ops.size∧Ready ops S i:=by
   intro i hi
   obtain⟨h1,h2,o1,h3,h4⟩:=mem_ready'.1 hi
   refine⟨h1,?_,fun o2 ho e he hb=>?_⟩
   ·rw[Array.getD_eq_getD_getElem?,hl i h1]at h2;simpa using h2
   ·rw[h3]at ho;cases ho
    have h5:=h4 e he hb
    have:=hedge i o1 e h3 he hb
    rw[Array.getD_eq_getD_getElem?,hl e.on (by omega)]at h5
    simpa using h5
  refine⟨fun hnil=>?_,fun i hi=>?_⟩
  ·exfalso
   have all:∀k i,i<k→i<ops.size→S i=true:=by
    intro k
    induction k with
    |zero=>intro i h;omega
    |succ k ih=>
     intro i hik his
     cases hs:S i with
     |true=>rfl
     |false=>
      exfalso
      have:i∈Region.ready .any ops l:=mem_ready'.2 ⟨his,by rw[Array.getD_eq_getD_getElem?,hl i his,hs];rfl,ops[i],Array.getElem?_eq_getElem his,fun e he hb=>by
       have:=hedge i _ e (Array.getElem?_eq_getElem his) he hb
       rw[Array.getD_eq_getD_getElem?,hl e.on (by omega),ih e.on (by omega) (by omega)];rfl⟩
      rw[hnil]at this
      simp at this
   rw[all (j+1) j (by omega) hjs]at hj;cases hj
  ·obtain⟨his,hr⟩:=rd i hi
   have h2:=h.2 i (by rw[L.ready];exact hi)
   by_cases e:i=j
   ·subst e
    have hoth:∀k,k<ops.size→k≠i→S k=true:=by
     intro k hk hne
     have:=anc_spec (hS.add hr) (hlast k hk hne) (addS_same ..)
     rwa [addS_ne hne]at this
    have hnil:Region.ready .any ops (l.setIfInBounds i true)=[]:=by
     rw[List.eq_nil_iff_forall_not_mem]
     intro k hk
     obtain⟨h1,h2,_⟩:=mem_ready'.1 hk
     by_cases e:k=i
     ·subst e
      rw[Array.getD_eq_getD_getElem?,Array.getElem?_setIfInBounds_self_of_lt (by omega)]at h2
      cases h2
     ·rw[Array.getD_eq_getD_getElem?,Array.getElem?_setIfInBounds_ne (Ne.symm e),hl k h1,hoth k h1 e]at h2
      cases h2
    unfold wpOpIn at h2 ⊢
    rw[L.at']at h2
    rw[L.at_]
    simp only[L.wanted,L.wanted',if_true]at h2 ⊢
    have h3:=move_wp hF h2
    have h4:R (a.put o.dst v0) w:=by
     cases fuel with
     |zero=>exact h3.2
     |succ f=>exact h3.1 (by rw[L.ready];exact hnil)
    refine Oper.wpIn_mono ?_ (hP a w h4)
    intro a' w' hq
    cases fuel with
    |zero=>exact⟨hnil,hq⟩
    |succ f=>exact⟨fun _=>hq,fun k hk=>by rw[hnil]at hk;simp at hk⟩
   ·have next:∀a w,wpAnyIn F m P .any ops' (QL R Q) fuel (l.setIfInBounds i true) a w→wpAnyIn F m P .any ops Q fuel (l.setIfInBounds i true) a w:=by
     intro a w hh
     refine any_last hF L hjs hlast hedge hP fuel (addS S i) _ a w (by simpa using hsz) ?_ ?_ (hS.add hr) (by rw[addS_ne (Ne.symm e)];exact hj) hh
     ·intro k hk
      by_cases e:i=k
      ·subst e
       rw[addS_same]
       simp[hsz,hk]
      ·rw[Array.getElem?_setIfInBounds_ne e,addS_ne (Ne.symm e)]
       exact hl k hk
     ·have:=(cntU_add (S:=S) hr.1 (n:=ops.size)).1 his
      omega
    unfold wpOpIn at h2 ⊢
    rw[L.same i e]at h2
    split
    ·rename_i hn;rw[hn]at h2;exact next _ _ h2
    ·rename_i o1 ho
     rw[ho]at h2
     simp only[L.yielded]at h2
     split
     ·rename_i hw;rw[if_pos hw]at h2;exact wpIn_QL h2 next
     ·rename_i hw;rw[if_neg hw]at h2;exact⟨h2.1,next _ _ h2.2⟩
end
end Go.AM

set_option linter.unusedSimpArgs false
set_option linter.unusedVariables false
namespace Go.AM
inductive PC
 |plain (c:ACode)
 |seq (a b:PC)
 |cond (c:AX) (a b:PC)
 |lastR (al:List AOper) (e:AX)
 |lastD (al:List (AOper×List Nat)) (e:AX)
abbrev KPan:=Int→AHeap→Prop
def lastK(e:AX)(Q:AQ)(KP:KPan)(fr:List Value)(H:AHeap):Prop:=∃k:Int,e.ev fr []=.int .i64 k∧if k=0 then Q .normal fr H else KP k H
def WX(P:Program)(ng:Nat):PC→AQ→KPan→List Value→AHeap→Prop
 | .plain c,Q,_,fr,H=>W P ng c Q fr H
 | .seq a b,Q,KP,fr,H=>WX P ng a (Q.andThen (WX P ng b Q KP)) KP fr H
 | .cond c x y,Q,KP,fr,H=>match c.ev fr []with
   | .bool b=>if b then WX P ng x Q KP fr H else WX P ng y Q KP fr H
   |_=>False
 | .lastR al e,Q,KP,fr,H=>RW P ng al fr [] H (lastK e Q KP)
 | .lastD al e,Q,KP,fr,H=>RD P ng al fr [] H [] (lastK e Q KP)
def mustOp(mf:FuncId)(o:Oper):Option Operand:=match o.op with
 | .call c=>match c.callee,c.args.toList with
   | .value (.func f),[x]=>if f=mf∧o.guard=none then some x else none
   |_,_=>none
 |_=>none
theorem mustOp_spec{mf:FuncId}{o:Oper}{x:Operand}(h:mustOp mf o=some x):o.guard=none∧∃tys,o.op=.call {callee:=.value (.func mf),args:= #[x],argTypes:=tys}:=by
 unfold mustOp at h
 split at h
 ·rename_i c hc
  split at h
  ·rename_i f y h1 h2
   split at h
   ·rename_i h3
    cases h
    refine⟨h3.2,c.argTypes,?_⟩
    obtain⟨callee,args,tys⟩:=c
    simp only at h1 h2
    rw[hc,h1,h3.1]
    congr 2
    rw[←Array.toArray_toList (xs:=args),h2]
   ·cases h
  ·cases h
 ·cases h
def lastO(mf:FuncId)(ops:Array Oper):Option (Oper×Operand):=match ops[ops.size-1]? with
 |some o=>(mustOp mf o).map fun x=>(o,x)
 |none=>none
def opsL(ops:Array Oper)(o:Oper):Array Oper:=ops.setIfInBounds (ops.size-1) {o with op:=.move (.const (.tuple #[]))}
def freeOf(x:Operand)(o:Oper):Bool:=match x with
 | .tmp t=>match o.dst with
   |some u=> !(t==u)
   |none=>true
 | .const _=>true
 |_=>false
def lastOK(P:Program)(ops:Array Oper)(o:Oper)(d:Bool):Bool:= !d||(drawOK P (opsL ops o) (drawUns P (opsL ops o))&&(List.range ops.size).all fun i=>i==ops.size-1||ordB (anc ops) i (ops.size-1))
def compP(P:Program)(ng N:Nat)(sl:List Nat)(mf:FuncId):Code→Option PC
 | .seq a b=>match compP P ng N sl mf a,compP P ng N sl mf b with
   |some x,some y=>some (.seq x y)
   |_,_=>none
 | .cond c t e=>match compX ng sl [] c,compP P ng N sl mf t,compP P ng N sl mf e with
   |some x,some y,some z=>some (.cond x y z)
   |_,_,_=>none
 | .region id ops d=>match lastO mf ops with
   |some (o,x)=>if freeOf x o&&lastOK P ops o d then
     match compX ng sl [] x,compR P ng N sl (opsL ops o) (opsL ops o).toList []with
     |some e,some al=>some (if d then .lastD (al.zip (drawUns P (opsL ops o))) e else .lastR al e)
     |_,_=>none
    else none
   |none=>(compC P ng N sl (.region id ops d)).map .plain
 |c=>(compC P ng N sl c).map .plain
def MustOK(P:Program)(mf:FuncId)(T:TypeId):Prop:=Bodied P mf∧∀(k:Int) (w:World),Calls P mf #[.int .i64 k] w fun e w'=>w'=w∧e=if k=0 then .returned (.tuple #[])else .panicked [{v:=.iface T (.int .i64 k),recovered:=false}]
def LQX(ng N:Nat)(sl:List Nat)(σ0:Sg)(H0:AHeap)(w0:World)(T:TypeId)(Q:AQ)(KP:KPan):Exit→Act→World→Prop
 | .normal,a,w=>LQ ng N sl σ0 H0 w0 Q .normal a w
 | .exit id,a,w=>LQ ng N sl σ0 H0 w0 Q (.exit id) a w
 | .ret,a,w=>LQ ng N sl σ0 H0 w0 Q .ret a w
 | .panic ch,a,w=>∃k H σ ds,ch=[{v:=.iface T (.int .i64 k),recovered:=false}]∧a.defers=ds∧HR ng σ H.get w∧Ext H0.n σ0 H0.get w0 H.n σ H.get w∧DM w0.heap.size σ w ds∧KP k H
 | .goto _,_,_=>False
 | .outgrown,_,_=>False
theorem wpListIn_mono{F:Fence}{m:Nat}{P:Program}{ops:Array Oper}{Q Q':Exit→Act→World→Prop}(h:∀e a w,Q e a w→Q' e a w):∀(l:List Oper) (a:Act) (w:World),wpListIn F m P ops Q l a w→wpListIn F m P ops Q' l a w
 |[],a,w,hh=>h _ _ _ hh
 |o::l,a,w,hh=>by
  simp only[wpListIn]at hh ⊢
  split
  ·rename_i hw
   rw[if_pos hw]at hh
   unfold Oper.wpIn at*
   refine⟨hh.1,?_⟩
   have hh:=hh.2
   generalize(o.semAt F.round a.eval).run P w=r at*
   cases r with
   |ok x w'=>
    cases x<;>simp only[Oper.uponIn]at hh ⊢ <;>
     first
      |exact wpListIn_mono h l _ _ hh
      |exact⟨hh.1,CallsIn.mono hh.2 (fun e w'' he=>by
       cases e with
       |returned v=>exact wpListIn_mono h l _ _ he
       |panicked ch=>exact h _ _ _ he
       |outgrown=>obtain⟨a,w,q⟩:=he;exact⟨a,w,h _ _ _ q⟩)⟩
      |exact⟨hh.1,RowsIn.mono hh.2 (fun _ _ he=>wpListIn_mono h l _ _ he)⟩
      |exact⟨hh.1,RoundIn.mono hh.2 (fun e w'' he=>by
       cases e with
       |returned v=>exact wpListIn_mono h l _ _ he
       |panicked ch=>exact h _ _ _ he
       |outgrown=>obtain⟨a,w,q⟩:=he;exact⟨a,w,h _ _ _ q⟩)⟩
   |halt x w'=>cases x<;>simp only[Oper.uponIn]at hh ⊢ <;>first|exact h _ _ _ hh|exact hh
  ·rename_i hw
   rw[if_neg hw]at hh
   exact⟨hh.1,wpListIn_mono h l _ _ hh.2⟩
section
variable {P:Program} {ng N:Nat} {sl:List Nat} {mf:FuncId} {T:TypeId}
theorem lastO_spec{ops:Array Oper}{o:Oper}{x:Operand}(h:lastO mf ops=some (o,x)):ops[ops.size-1]? =some o∧mustOp mf o=some x∧0<ops.size:=by
 unfold lastO at h
 split at h
 ·rename_i p hp
  simp only[Option.map_eq_some_iff]at h
  obtain⟨y,h1,h2⟩:=h
  cases h2
  have:=(Array.getElem?_eq_some_iff.1 hp).1
  exact⟨hp,h1,by omega⟩
 ·cases h
theorem like_of{ops:Array Oper}{o:Oper}{x:Operand}(h:lastO mf ops=some (o,x)):Like ops (opsL ops o) (ops.size-1) o (.tuple #[]):=by
 obtain⟨h1,h2,h3⟩:=lastO_spec h
 refine⟨by simp[opsL],fun i hi=>?_,h1,?_,(mustOp_spec h2).1⟩
 ·unfold opsL;rw[Array.getElem?_setIfInBounds_ne (Ne.symm hi)]
 ·unfold opsL;rw[Array.getElem?_setIfInBounds_self_of_lt (by omega)]
theorem list_split{ops:Array Oper}{o:Oper}(h:ops[ops.size-1]? =some o)(h0:0<ops.size):∃l,ops.toList=l++[o]∧(opsL ops o).toList=l++[{o with op:=.move (.const (.tuple #[]))}]:=by
 have e:ops.toList=ops.toList.take (ops.size-1)++[o]:=by
  have h1:ops.toList[ops.size-1]? =some o:=by simpa using h
  have h2:ops.size-1<ops.toList.length:=by simp;omega
  rw[List.getElem?_eq_getElem h2]at h1
  simp only[Option.some.injEq]at h1
  have h3:=List.take_concat_get (l:=ops.toList) (i:=ops.size-1) h2
  rw[h1]at h3
  rw[List.concat_eq_append]at h3
  rw[h3]
  exact(List.take_of_length_le (by simp;omega)).symm
 refine⟨_,e,?_⟩
 unfold opsL
 rw[Array.toList_setIfInBounds]
 have hl:(ops.toList.take (ops.size-1)).length=ops.size-1:=by simp
 conv=>lhs;rw[e]
 rw[List.set_append_right _ _ (by omega),hl,Nat.sub_self]
 rfl
theorem must_wp(hM:MustOK P mf T){o:Oper}{x:Operand}{e:AX}(ho:mustOp mf o=some x)(hx:compX ng sl [] x=some e)(hfree:freeOf x o=true){F:Fence}(hF:IsW F){m:Nat}{σ0:Sg}{H0:AHeap}{w0:World}{Q:AQ}{KP:KPan}{a:Act}{w:World}
 (h:∃fr H σ ds,ER σ N sl [] ds fr [] (a.put o.dst (.tuple #[]))∧HR ng σ H.get w∧Ext H0.n σ0 H0.get w0 H.n σ H.get w∧DM w0.heap.size σ w ds∧lastK e Q KP fr H):
 o.wpIn F m P a w (fun a' w'=>LQX ng N sl σ0 H0 w0 T Q KP .normal a' w') (LQX ng N sl σ0 H0 w0 T Q KP):=by
 obtain⟨fr,H,σ,ds,k1,k2,k3,k4,k,k5,k6⟩:=h
 obtain⟨hg,tys,hop⟩:=mustOp_spec ho
 have hv:=compX_sound k1 k2 hx
 rw[k5]at hv
 have hev:(a.put o.dst (.tuple #[])).eval x=.int .i64 k:=by
  generalize(a.put o.dst (.tuple #[])).eval x=u at hv
  cases hv;rfl
 have hev2:a.eval x=.int .i64 k:=by
  rw[←hev]
  unfold freeOf at hfree
  split at hfree
  ·rename_i t
   split at hfree
   ·rename_i u hu
    have hne:t≠u:=fun hh=>by subst hh;simp at hfree
    rw[hu]
    simp only[Act.eval,Act.put,Array.getD_eq_getD_getElem?]
    rw[Array.getElem?_setIfInBounds_ne (Ne.symm hne)]
   ·rename_i hu;rw[hu];rfl
  ·rfl
  ·cases hfree
 have hd:∀c,o.op≠.defer c:=fun c=>by rw[hop];simp
 have hrun:(execOp a.eval o).run P w=.ok (.enter mf #[.int .i64 k]) w:=by
  have:(execOp a.eval o).run P w=(callFunc mf #[.int .i64 k]).run P w:=by
   obtain⟨dst,op,type,pos,after,guard⟩:=o
   simp only at hop
   subst hop
   have e1:a.eval (.func mf)=.func (.func mf) #[] #[]:=rfl
   simp[execOp,resolve,Deferred.ofValue,e1,hev2,invoke]
  rw[this,hM.1.run]
 refine wpIn_exec hF hd hrun ⟨hF.deep,?_⟩
 refine CallsIn.mono (hF.calls (hM.2 k w)) ?_
 rintro e' w' ⟨rfl,rfl⟩
 by_cases hk:k=0
 ·rw[if_pos hk]at k6 ⊢
  exact⟨fr,H,σ,ds,k1,k2,k3,k4,k6⟩
 ·rw[if_neg hk]at k6 ⊢
  refine⟨k,H,σ,ds,rfl,?_,k2,k3,k4,k6⟩
  rw[←k1.dfr]
  cases o.dst<;>rfl
theorem LQ_X{σ0:Sg}{H0:AHeap}{w0:World}{Q:AQ}{KP:KPan}{e:Exit}{a:Act}{w:World}(h:LQ ng N sl σ0 H0 w0 Q e a w):LQX ng N sl σ0 H0 w0 T Q KP e a w:=by
 cases e with
 |normal=>exact h
 |exit id=>exact h
 |ret=>exact h
 |goto l=>exact h
 |panic ch=>exact h.elim
 |outgrown=>exact h
theorem WX_sound(hM:MustOK P mf T){F:Fence}(hF:IsW F)(hFw:F=Fence.wide){m:Nat}(hnd:sl.Nodup):∀(c:Code) (pc:PC),compP P ng N sl mf c=some pc→∀(Q:AQ) (KP:KPan) (fr:List Value) (H:AHeap),WX P ng pc Q KP fr H→
 ∀(σ0:Sg) (H0:AHeap) (w0:World) (σ:Sg) (a:Act) (w:World) (ds:List Deferred),ER σ N sl [] ds fr [] a→HR ng σ H.get w→Ext H0.n σ0 H0.get w0 H.n σ H.get w→DM w0.heap.size σ w ds→c.wpIn F m P (LQX ng N sl σ0 H0 w0 T Q KP) a w:=by
 have plain:∀(c:Code) (pc:PC),(compC P ng N sl c).map .plain=some pc→∀(Q:AQ) (KP:KPan) (fr:List Value) (H:AHeap),WX P ng pc Q KP fr H→
  ∀(σ0:Sg) (H0:AHeap) (w0:World) (σ:Sg) (a:Act) (w:World) (ds:List Deferred),ER σ N sl [] ds fr [] a→HR ng σ H.get w→Ext H0.n σ0 H0.get w0 H.n σ H.get w→DM w0.heap.size σ w ds→c.wpIn F m P (LQX ng N sl σ0 H0 w0 T Q KP) a w:=by
  intro c pc hc Q KP fr H h σ0 H0 w0 σ a w ds he hr hx hd
  simp only[Option.map_eq_some_iff]at hc
  obtain⟨ac,h1,rfl⟩:=hc
  exact wpIn_mono (W_sound hF hnd c ac h1 (.inl hFw) Q fr H h σ0 H0 w0 σ a w ds he hr hx hd) (fun e a w h=>LQ_X h)
 intro c
 induction c with
 |seq x y ihx ihy=>
  intro pc hc Q KP fr H hw σ0 H0 w0 σ a w ds he hr hx hd
  simp only[compP]at hc
  split at hc
  ·rename_i px py h1 h2
   simp only[Option.some.injEq]at hc;subst hc
   refine wpIn_seq (wpIn_mono (ihx px h1 _ KP fr H hw σ0 H0 w0 σ a w ds he hr hx hd) ?_)
   intro e a' w' hq
   cases e with
   |normal=>
    obtain⟨fr',H',σ',ds',k1,k2,k3,k5,k4⟩:=hq
    exact ihy py h2 Q KP fr' H' k4 σ0 H0 w0 σ' a' w' ds' k1 k2 k3 k5
   |exit id=>exact hq
   |ret=>exact hq
   |goto l=>exact hq
   |panic ch=>exact hq
   |outgrown=>exact hq
  ·cases hc
 |cond c t e iht ihe=>
  intro pc hc Q KP fr H hw σ0 H0 w0 σ a w ds he hr hx hd
  simp only[compP]at hc
  split at hc
  ·rename_i cx pt pe h1 h2 h3
   simp only[Option.some.injEq]at hc;subst hc
   simp only[WX]at hw
   split at hw
   ·rename_i b hb
    have hv:=compX_sound he hr h1
    rw[hb]at hv
    have hev:a.eval c=.bool b:=by
     generalize a.eval c=u at hv
     cases hv;rfl
    refine wpIn_cond hev ?_
    cases b
    ·exact ihe pe h3 Q KP fr H (by simpa using hw) σ0 H0 w0 σ a w ds he hr hx hd
    ·exact iht pt h2 Q KP fr H (by simpa using hw) σ0 H0 w0 σ a w ds he hr hx hd
   ·exact hw.elim
  ·cases hc
 |region id ops d=>
  intro pc hc Q KP fr H hw σ0 H0 w0 σ a w ds he hr hx hd
  simp only[compP]at hc
  split at hc
  ·rename_i o x hlo
   split at hc
   ·rename_i hcond
    rw[Bool.and_eq_true]at hcond
    split at hc
    ·rename_i e al hex hal
     simp only[Option.some.injEq]at hc
     have L:=like_of hlo
     obtain⟨g1,g2,g3⟩:=lastO_spec hlo
     have hP:∀(a:Act) (w:World),(∃fr H σ ds,ER σ N sl [] ds fr [] (a.put o.dst (.tuple #[]))∧HR ng σ H.get w∧Ext H0.n σ0 H0.get w0 H.n σ H.get w∧DM w0.heap.size σ w ds∧lastK e Q KP fr H)→o.wpIn F m P a w (fun a' w'=>LQX ng N sl σ0 H0 w0 T Q KP .normal a' w') (LQX ng N sl σ0 H0 w0 T Q KP):=fun a w h=>must_wp (m:=m) hM g2 hex hcond.1 hF h
     cases d
     ·simp only[Bool.false_eq_true,if_false]at hc
      subst hc
      obtain⟨l,e1,e2⟩:=list_split g1 g3
      have h1:=RW_sound (m:=m) hF hnd (σ0:=σ0) (H0:=H0) (w0:=w0) (Q:=fun e' fr H=>match e' with| .normal=>lastK e Q KP fr H|_=>False) (opsL ops o).toList [] al fr [] H σ a w ds hal (by simp) he hr hx hd hw
      refine wpIn_region_list ?_
      rw[e2]at h1
      rw[e1]
      refine list_last (R:=fun a1 w=>∃fr H σ ds,ER σ N sl [] ds fr [] a1∧HR ng σ H.get w∧Ext H0.n σ0 H0.get w0 H.n σ H.get w∧DM w0.heap.size σ w ds∧lastK e Q KP fr H) hF L hP l a w (wpListIn_mono ?_ _ _ _ h1)
      intro e' a' w' h
      cases e' with
      |normal=>exact h
      |exit id=>obtain⟨_,_,_,_,_,_,_,_,h⟩:=h;exact h.elim
      |ret=>obtain⟨_,_,_,_,_,_,_,_,h⟩:=h;exact h.elim
      |goto l=>exact h
      |panic ch=>exact h.elim
      |outgrown=>exact h
     ·simp only[if_true]at hc
      subst hc
      have hok:=hcond.2
      unfold lastOK at hok
      simp only[Bool.not_true,Bool.false_or,Bool.and_eq_true]at hok
      have hlk:=drawOK_spec hok.1
      refine wpIn_region_any hlk.mix ?_
      refine any_last (R:=fun a1 w=>∃fr H σ ds,ER σ N sl [] ds fr [] a1∧HR ng σ H.get w∧Ext H0.n σ0 H0.get w0 H.n σ H.get w∧DM w0.heap.size σ w ds∧lastK e Q KP fr H) hF L (by omega) (fun i hi hne=>?_) (fun i p ed hp he hb=>?_) hP ops.size (fun _=>false) _ a _ (by simp) (fun i hi=>by simp[hi]) (cntU_false _) (fun j o ho h=>by cases h) rfl ?_
      ·have:=List.all_eq_true.1 hok.2 i (by simpa using hi)
       simpa[hne]using this
      ·by_cases e:i=ops.size-1
       ·subst e
        rw[g1]at hp;cases hp
        exact hlk.edge _ _ ed L.at' he hb
       ·exact hlk.edge i p ed (by rw[L.same i e];exact hp) he hb
      ·rw[←L.size]
       refine RD_sound hF (σ0:=σ) (H0:=H) (fr0:=fr) hnd hal hok.1 he (hr.world (w':={w with drawn:=w.drawn+1}) rfl) hw ?_
       intro a' w' σ' fr' H' k1 k2 k3 k4
       exact⟨fr',H',σ',ds,k1,k2,(hx.world (w2:={w with drawn:=w.drawn+1}) rfl rfl rfl rfl).trans k3,DM.ext k3 (DM.world (w:=w) (w':={w with drawn:=w.drawn+1}) rfl hd),k4⟩
    ·cases hc
   ·cases hc
  ·exact plain _ _ hc Q KP fr H hw σ0 H0 w0 σ a w ds he hr hx hd
 |_=>
  intro pc hc Q KP fr H hw σ0 H0 w0 σ a w ds he hr hx hd
  exact plain _ _ hc Q KP fr H hw σ0 H0 w0 σ a w ds he hr hx hd
theorem WX_grow{n:Nat}:∀(pc:PC) {Q Q':AQ} {KP KP':KPan} {fr:List Value} {H:AHeap},n≤H.n→(∀e fr H,Q e fr H→n≤H.n→Q' e fr H)→(∀k H,KP k H→n≤H.n→KP' k H)→WX P ng pc Q KP fr H→WX P ng pc Q' KP' fr H:=by
 have lk:∀{e:AX} {Q Q':AQ} {KP KP':KPan} {fr:List Value} {H:AHeap},(∀e fr H,Q e fr H→n≤H.n→Q' e fr H)→(∀k H,KP k H→n≤H.n→KP' k H)→lastK e Q KP fr H→n≤H.n→lastK e Q' KP' fr H:=by
  rintro e Q Q' KP KP' fr H hq hk ⟨k,h1,h2⟩ hn
  refine⟨k,h1,?_⟩
  by_cases hk0:k=0
  ·rw[if_pos hk0]at h2 ⊢;exact hq _ _ _ h2 hn
  ·rw[if_neg hk0]at h2 ⊢;exact hk _ _ h2 hn
 intro pc
 induction pc with
 |plain c=>intro Q Q' KP KP' fr H hn hq hk h;exact W_grow c hn hq h
 |seq a b iha ihb=>
  intro Q Q' KP KP' fr H hn hq hk h
  refine iha hn ?_ hk h
  intro e fr H h hn
  cases e with
  |normal=>exact ihb hn hq hk h
  |exit id=>exact hq _ _ _ h hn
  |ret=>exact hq _ _ _ h hn
  |goto l=>exact hq _ _ _ h hn
  |panic ch=>exact hq _ _ _ h hn
  |outgrown=>exact hq _ _ _ h hn
 |cond c x y ihx ihy=>
  intro Q Q' KP KP' fr H hn hq hk h
  simp only[WX]at h ⊢
  split at h
  ·rename_i b hb
   cases b
   ·simpa using ihy hn hq hk (by simpa using h)
   ·simpa using ihx hn hq hk (by simpa using h)
  ·exact h.elim
 |lastR al e=>intro Q Q' KP KP' fr H hn hq hk h;exact RW_grow hn (fun fr H h1 h2=>lk hq hk h1 h2) h
 |lastD al e=>intro Q Q' KP KP' fr H hn hq hk h;exact RD_grow hn (fun fr H h1 h2=>lk hq hk h1 h2) h
def noP:KPan:=fun _ _=>False
def noQ:AQ:=fun _ _ _=>False
def oneP(k:Int)(H:AHeap):KPan:=fun k' H'=>k'=k∧H'=H
theorem WX_out:∀(pc:PC) {Q:AQ} {KP:KPan} {fr:List Value} {H:AHeap},WX P ng pc Q KP fr H→(∃e fr' H',Q e fr' H'∧WX P ng pc (exactly e fr' H') noP fr H)∨∃k H',KP k H'∧WX P ng pc noQ (oneP k H') fr H:=by
 have lk:∀{e:AX} {Q:AQ} {KP:KPan} {fr:List Value} {H:AHeap},lastK e Q KP fr H→(Q .normal fr H∧lastK e (exactly .normal fr H) noP fr H)∨∃k,KP k H∧lastK e noQ (oneP k H) fr H:=by
  rintro e Q KP fr H ⟨k,h1,h2⟩
  by_cases hk0:k=0
  ·rw[if_pos hk0]at h2
   exact .inl ⟨h2,k,h1,by rw[if_pos hk0];exact⟨rfl,rfl,rfl⟩⟩
  ·rw[if_neg hk0]at h2
   exact .inr ⟨k,h2,k,h1,by rw[if_neg hk0];exact⟨rfl,rfl⟩⟩
 intro pc
 induction pc with
 |plain c=>
  intro Q KP fr H h
  obtain⟨e,fr',H',h1,h2⟩:=W_out c h
  exact .inl ⟨e,fr',H',h1,h2⟩
 |seq a b iha ihb=>
  intro Q KP fr H h
  rcases iha h with⟨e,fr',H',h1,h2⟩|⟨k,H',h1,h2⟩
  ·by_cases he:e=.normal
   ·subst he
    rcases ihb (show WX P ng b Q KP fr' H' from h1)with⟨e2,fr2,H2,h3,h4⟩|⟨k,H2,h3,h4⟩
    ·refine .inl ⟨e2,fr2,H2,h3,?_⟩
     refine WX_grow (n:=0) a (Nat.zero_le _) ?_ (fun k H h _=>h) h2
     rintro e fr H ⟨rfl,rfl,rfl⟩ _
     exact h4
    ·refine .inr ⟨k,H2,h3,?_⟩
     refine WX_grow (n:=0) a (Nat.zero_le _) ?_ (fun k H h _=>h.elim) h2
     rintro e fr H ⟨rfl,rfl,rfl⟩ _
     exact h4
   ·refine .inl ⟨e,fr',H',by cases e<;>first|exact absurd rfl he|exact h1,?_⟩
    refine WX_grow (n:=0) a (Nat.zero_le _) ?_ (fun k H h _=>h) h2
    rintro e2 fr2 H2 ⟨rfl,rfl,rfl⟩ _
    cases e2<;>first|exact absurd rfl he|exact⟨rfl,rfl,rfl⟩
  ·refine .inr ⟨k,H',h1,?_⟩
   exact WX_grow (n:=0) a (Nat.zero_le _) (fun e fr H h _=>h.elim) (fun k H h _=>h) h2
 |cond c x y ihx ihy=>
  intro Q KP fr H h
  simp only[WX]at h ⊢
  split at h
  ·rename_i b hb
   cases b
   ·simpa using ihy (by simpa using h)
   ·simpa using ihx (by simpa using h)
  ·exact h.elim
 |lastR al e=>
  intro Q KP fr H h
  obtain⟨fr',H',h1,h2⟩:=RW_out h
  rcases lk h1 with⟨h3,h4⟩|⟨k,h3,h4⟩
  ·exact .inl ⟨.normal,fr',H',h3,RW_grow (n:=0) (Nat.zero_le _) (by rintro fr H ⟨rfl,rfl⟩ _;exact h4) h2⟩
  ·exact .inr ⟨k,H',h3,RW_grow (n:=0) (Nat.zero_le _) (by rintro fr H ⟨rfl,rfl⟩ _;exact h4) h2⟩
 |lastD al e=>
  intro Q KP fr H h
  obtain⟨fr',H',h1,h2⟩:=RD_out h
  rcases lk h1 with⟨h3,h4⟩|⟨k,h3,h4⟩
  ·exact .inl ⟨.normal,fr',H',h3,RD_grow (n:=0) (Nat.zero_le _) (by rintro fr H ⟨rfl,rfl⟩ _;exact h4) h2⟩
  ·exact .inr ⟨k,H',h3,RD_grow (n:=0) (Nat.zero_le _) (by rintro fr H ⟨rfl,rfl⟩ _;exact h4) h2⟩
def AGive(P:Program)(ng:Nat)(T:TypeId)(f:FuncId)(args:List Value)(H:AHeap)(k:Int)(H':AHeap):Prop:=
 Bodied P f∧H.n≤H'.n∧∀(σ:Sg) (w:World) (args':List Value),HR ng σ H.get w→VL σ args args'→
  Calls P f args'.toArray w fun e w'=>∃σ',e=.panicked [{v:=.iface T (.int .i64 k),recovered:=false}]∧HR ng σ' H'.get w'∧Ext H.n σ H.get w H'.n σ' H'.get w'
theorem leaveM{fn:Func}{tmps:Array Value}{R:Ending→World→Prop}{σ σ':Sg}{H H2:AHeap}{w0:World}{u:FrameMode}(hu:u≠.run)(hfin:∀w,HR ng σ' H2.get w→Ext H.n σ H.get w0 H2.n σ' H2.get w→LeavesInM Fence.wide 0 P fn tmps R [] u w):
 ∀(ds:List Deferred) (w:World),HR ng σ' H2.get w→Ext H.n σ H.get w0 H2.n σ' H2.get w→DM w0.heap.size σ' w ds→LeavesInM Fence.wide 0 P fn tmps R ds u w
 |[],w,h1,h2,_=>hfin w h1 h2
 |d::ds,w,k2,k3,⟨⟨D,h1,q2,q3,q4,q5⟩,q6⟩=>by
  subst h1
  refine⟨hu,.inl ⟨D,w.putObj D (.deferred none),rfl,run_takeDeferred q3,?_⟩⟩
  exact leaveM hu hfin ds _ (k2.other (by simp) (fun b i hb=>World.putObj_heap_other (q4 b i hb))) (k3.other (by simp) (fun k hk=>World.putObj_heap_other (by omega)) rfl rfl rfl) (DM.shut q5 q6)
theorem give_core(hM:MustOK P mf T){f:FuncId}{fn:Func}{c:Code}{pc:PC}(hfn:P.funcs[f]? =some fn)(hb:fn.body=some c)(hres:fn.results= #[])(hsl:(nodupB sl&&sl.all (· <fn.ntmps))=true)
 (hc:compP P ng fn.ntmps sl mf c=some pc) {args:List Value} {H:AHeap} (hargs:args.length≤fn.ntmps) {Q:AQ} {KP:KPan} (hx:∀id fr H,¬Q (.exit id) fr H) (h:WX P ng pc Q KP (initFr sl args) H)
 (σ:Sg) (w:World) (args':List Value) (hr:HR ng σ H.get w) (hv:VL σ args args'):
 Calls P f args'.toArray w fun e w'=>(∃e0 fr H2 σ',(e0=.normal∨e0=.ret)∧Q e0 fr H2∧e=.returned (.tuple #[])∧HR ng σ' H2.get w'∧Ext H.n σ H.get w H2.n σ' H2.get w')∨
  ∃k H2 σ',KP k H2∧e=.panicked [{v:=.iface T (.int .i64 k),recovered:=false}]∧HR ng σ' H2.get w'∧Ext H.n σ H.get w H2.n σ' H2.get w':=by
 simp only[Bool.and_eq_true]at hsl
 have hl:=hv.length
 refine(callsIn_wide (n:=0)).1 (callsIn_of_wp_marks hfn hb trivial ?_)
 have he:ER σ fn.ntmps sl [] [] (initFr sl args) [] {tmps:=args'.toArray++Array.replicate (fn.ntmps-args'.toArray.size) undef,defers:=[]}:=by
  refine⟨by simp;omega,by simp[initFr],rfl,?_,fun i s v h=>by simp at h,rfl⟩
  intro i s u hs hu
  simp only[initFr,List.getElem?_map,hs,Option.map_some,Option.some.injEq]at hu
  subst hu
  have hsN:s<fn.ntmps:=by simpa using List.all_eq_true.1 hsl.2 s (List.mem_of_getElem? hs)
  by_cases hsa:s<args.length
  ·obtain⟨v',k1,k2⟩:=hv.get (i:=s) (v:=args[s]) (List.getElem?_eq_getElem hsa)
   refine⟨v',?_,by simpa[List.getD,List.getElem?_eq_getElem hsa]using k2⟩
   rw[Array.getElem?_append_left (by simp;omega)]
   simpa using k1
  ·refine⟨undef,?_,?_⟩
   ·rw[Array.getElem?_append_right (by simp;omega)]
    rw[Array.getElem?_replicate,if_pos (by simp;omega)]
   ·rw[List.getD,List.getElem?_eq_none (by omega)]
    exact .tuple _ _ rfl (fun i a=>by simp at a)
 refine wpIn_mono (WX_sound hM .wide rfl (nodupB_spec hsl.1) c pc hc Q KP _ H h σ H w σ _ w [] he hr (Ext.refl _ _ _ _) trivial) ?_
 intro e a' w' hq
 have ok:∀(e0:Exit) (a':Act) (w':World),(e0=.normal∨e0=.ret)→(∃fr H2 σ' ds,ER σ' fn.ntmps sl [] ds fr [] a'∧HR ng σ' H2.get w'∧Ext H.n σ H.get w H2.n σ' H2.get w'∧DM w.heap.size σ' w' ds∧Q e0 fr H2)→
  LeavesInM Fence.wide 0 P fn a'.tmps (fun e w'=>(∃e0 fr H2 σ',(e0=.normal∨e0=.ret)∧Q e0 fr H2∧e=.returned (.tuple #[])∧HR ng σ' H2.get w'∧Ext H.n σ H.get w H2.n σ' H2.get w')∨
  ∃k H2 σ',KP k H2∧e=.panicked [{v:=.iface T (.int .i64 k),recovered:=false}]∧HR ng σ' H2.get w'∧Ext H.n σ H.get w H2.n σ' H2.get w') a'.defers .returning w':=by
  rintro e0 a' w' h0 ⟨fr,H2,σ',ds,k1,k2,k3,k4,k5⟩
  rw[k1.dfr]
  refine leaveM (by simp) (fun w2 q1 q2=>?_) ds w' k2 k3 k4
  refine⟨.tuple #[],?_,.inl ⟨e0,fr,H2,σ',h0,k5,rfl,q1,q2⟩⟩
  unfold results
  rw[hres]
  simp
 cases e with
 |normal=>exact ok .normal a' w' (.inl rfl) hq
 |ret=>exact ok .ret a' w' (.inr rfl) hq
 |exit id=>obtain⟨fr,H2,σ',ds,k1,k2,k3,k4,k5⟩:=hq;exact(hx _ _ _ k5).elim
 |goto l=>exact hq.elim
 |panic ch=>
  obtain⟨k,H2,σ',ds,rfl,k1,k2,k3,k4,k5⟩:=hq
  simp only[bodyPostM]
  rw[k1]
  refine leaveM (by simp) (fun w2 q1 q2=>?_) ds w' k2 k3 k4
  exact Or.inr ⟨k,H2,σ',k5,rfl,q1,q2⟩
 |outgrown=>exact hq.elim
theorem give_of(hM:MustOK P mf T){f:FuncId}{fn:Func}{c:Code}{pc:PC}(hfn:P.funcs[f]? =some fn)(hb:fn.body=some c)(hnm:(fn.name== "runtime.NumGoroutine")=false)(hres:fn.results= #[])(hsl:(nodupB sl&&sl.all (· <fn.ntmps))=true)
 (hc:compP P ng fn.ntmps sl mf c=some pc) {args:List Value} {H:AHeap} (hargs:args.length≤fn.ntmps) {Q:AQ} {RP:KPan} (h:WX P ng pc Q RP (initFr sl args) H) (hQ:∀e fr H,Q e fr H→e=.normal∨e=.ret):
 (∃e fr H',ARun P ng f args H (.tuple #[]) H'∧Q e fr H')∨∃k H',AGive P ng T f args H k H'∧RP k H':=by
 have hbd:Bodied P f:=⟨fn,hfn,by simp[hb],hnm⟩
 have h1:=WX_grow (n:=H.n) (Q':=fun e fr H2=>Q e fr H2∧H.n≤H2.n) (KP':=fun k H2=>RP k H2∧H.n≤H2.n) pc (Nat.le_refl _) (fun e fr H a b=>⟨a,b⟩) (fun k H a b=>⟨a,b⟩) h
 rcases WX_out pc h1 with⟨e,fr,H',⟨h2,h3⟩,h4⟩|⟨k,H',⟨h2,h3⟩,h4⟩
 ·refine .inl ⟨e,fr,H',⟨⟨fn,hfn⟩,h3,fun σ w args' hr hv=>.body hbd ?_⟩,h2⟩
  refine(give_core hM hfn hb hres hsl hc hargs ?_ h4 σ w args' hr hv).mono ?_
  ·rintro id fr2 H2 ⟨rfl,_,_⟩
   rcases hQ _ _ _ h2 with hh|hh<;>cases hh
  ·rintro e' w' (⟨e0,fr2,H2,σ',_,⟨rfl,rfl,rfl⟩,rfl,q1,q2⟩|⟨_,_,_,hh,_⟩)
   ·exact⟨_,σ',rfl,q1,q2,.tuple _ _ rfl (fun i a=>by simp at a)⟩
   ·exact hh.elim
 ·refine .inr ⟨k,H',⟨hbd,h3,fun σ w args' hr hv=>?_⟩,h2⟩
  refine(give_core hM hfn hb hres hsl hc hargs ?_ h4 σ w args' hr hv).mono ?_
  ·intro id fr2 H2 hh;exact hh
  ·rintro e' w' (⟨e0,fr2,H2,σ',_,hh,_⟩|⟨k2,H2,σ',⟨rfl,rfl⟩,rfl,q1,q2⟩)
   ·exact hh.elim
   ·exact⟨σ',rfl,q1,q2⟩
end
end Go.AM

set_option linter.unusedSimpArgs false
set_option linter.unusedVariables false
namespace Go.AM
open Go.Proofs
theorem must101_go(w:World):Calls Tryz.prog 101 #[.int .i64 0] w fun e w'=>w'=w∧e=.returned (.tuple #[]):=by
 go_enter Tryz.func101,Tryz.ntmps101
 go_wp2
 go_end0
 exact⟨rfl,rfl⟩
theorem must101_up(k:Int)(h:k≠0)(w:World):Calls Tryz.prog 101 #[.int .i64 k] w fun e w'=>w'=w∧e=.panicked [{v:=.iface 30 (.int .i64 k),recovered:=false}]:=by
 go_enter Tryz.func101,Tryz.ntmps101
 go_wp2
 exact⟨rfl,rfl,rfl⟩
theorem must101:MustOK Tryz.prog 101 30:=by
 refine⟨bodied_of (by kernel_rfl),fun k w=>?_⟩
 by_cases h:k=0
 ·subst h;rw[if_pos rfl];exact must101_go w
 ·rw[if_neg h];exact must101_up k h w
theorem und30:Tryz.prog.underlying 30=some (.int .i64):=by kernel_rfl
theorem assert30(k:Int)(w:World):(Instr.typeAssert (.iface 30 (.int .i64 k)) 20 30 false).run Tryz.prog w=.ok (.int .i64 k) w:=by
 simp[Instr.typeAssert,run_underlying und30]
theorem told127_idle(p:Addr)(w:World):CallsD Tryz.prog 127 #[.pointer (some p)] .returning w fun e u' w'=>e=.returned (.tuple #[])∧u'=.returning∧w'=w:=by
 refine callsD_of_wpS Tryz.func127 rfl fun c₀ cs hu=>?_
 apply wpS_seq
 apply wpS_region
 simp[wpOpsS,go_sem,recoverD,hu,Tryz.ntmps127,Exit.thenS]
 apply wpS_seq
 apply wpS_region
 simp[wpOpsS,go_sem,recoverD,Tryz.ntmps127,Exit.thenS,Act.eval,Act.put,Array.replicate_succ]
 refine wpS_cond (t:=false) (by simp[Act.eval,Array.replicate]) ?_
 simp only[Bool.false_eq_true,if_false]
 refine wpS_of_wp (wp_skip ?_)
 cases c₀
 simp_all[bodyPostS,results,Tryz.results127]
theorem told127_up(p:Addr)(k x:Int)(older:List PanicEntry)(w:World)(hc:w.cell? p=some (.int .i64 x))(hz:w.frozen? p=false):
 CallsD Tryz.prog 127 #[.pointer (some p)] (.panicking ({v:=.iface 30 (.int .i64 k),recovered:=false}::older)) w fun e u' w'=>
  e=.returned (.tuple #[])∧u'=.panicking ({v:=.iface 30 (.int .i64 k),recovered:=true}::older)∧w'=w.setCell p (.int .i64 k):=by
 refine callsD_of_wpS Tryz.func127 rfl fun c₀ cs hu=>?_
 apply wpS_seq
 apply wpS_region
 simp[wpOpsS,go_sem,recoverD,hu,Tryz.ntmps127,Exit.thenS]
 apply wpS_seq
 apply wpS_region
 simp[wpOpsS,go_sem,recoverD,Tryz.ntmps127,Exit.thenS,Act.eval,Act.put,Array.replicate_succ]
 refine wpS_cond (t:=true) (by simp[Act.eval,Array.replicate]) ?_
 simp only[if_true]
 apply wpS_region
 simp[wpOpsS,go_sem,assert30,hc,hz,bodyPostS,results,Tryz.results127]
end Go.AM

set_option linter.unusedSimpArgs false
set_option linter.unusedVariables false
namespace Go.AM
open Go.Proofs
theorem told99_walk{g:FuncId}{xs ys:Array Value}{w:World}{R:Ending→World→Prop}(hb:Bodied Tryz.prog g)
 (h:Calls Tryz.prog g (xs++ys) (w.alloc (.cells #[.int .i64 0] 30)) R)
 (hR:∀e w',R e w'→(∃c,w'.cell? ⟨w.heap.size,0,none⟩=some (.int .i64 c))∧w'.frozen? ⟨w.heap.size,0,none⟩=false∧((∃v,e=.returned v)∨∃k,e=.panicked [{v:=.iface 30 (.int .i64 k),recovered:=false}])):
 Calls Tryz.prog 99 #[.func (.func g) xs ys] w fun e w'=>∃e1 w1 k,R e1 w1∧e=.returned (.int .i64 k)∧w'=w1.setCell ⟨w.heap.size,0,none⟩ (.int .i64 k)∧((∃v,e1=.returned v∧k=0)∨e1=.panicked [{v:=.iface 30 (.int .i64 k),recovered:=false}]):=by
 have hmf:∀(fn:Fn) (first cap:Array Value) (w:World),(Instr.makeFunc fn first cap).run Tryz.prog w=.ok (.func fn first cap) w:=fun _ _ _ _=>rfl
 have hcf:=hb.run (xs++ys)
 go_enter_defers Tryz.func99,Tryz.ntmps99
 go_wp2
 refine h.mono ?_
 intro e w' hr
 obtain⟨⟨c,hc⟩,hz,hk⟩:=hR e w' hr
 rcases hk with⟨v,rfl⟩|⟨k,rfl⟩
 ·go_wp2
  refine leaves_cons (f:=127) (args:= #[.pointer (some ⟨w.heap.size,0,none⟩)]) (by simp) (by simp[go_sem]) ?_
  refine(told127_idle _ _).mono ?_
  rintro e u' w'' ⟨rfl,rfl,rfl⟩
  exact⟨.int .i64 0,by simp[results,Tryz.results99,go_sem,hc],_,w',0,hr,rfl,rfl,.inl ⟨v,rfl,rfl⟩⟩
 ·refine leaves_cons (f:=127) (args:= #[.pointer (some ⟨w.heap.size,0,none⟩)]) (by simp) (by simp[go_sem]) ?_
  refine(told127_up _ k c [] _ hc hz).mono ?_
  rintro e u' w'' ⟨rfl,rfl,rfl⟩
  exact⟨.int .i64 k,by simp[results,Tryz.results99,go_sem,hc],_,w',k,hr,rfl,rfl,.inr rfl⟩
theorem setCell_oth(w:World)(D:Nat)(v:Value){j:Nat}(hj:j≠D):(w.setCell ⟨D,0,none⟩ v).heap[j]? =w.heap[j]? :=by
 unfold World.setCell
 simp only[Array.getElem?_modify]
 rw[if_neg (Ne.symm hj)]
theorem setCell_sz(w:World)(D:Nat)(v:Value):(w.setCell ⟨D,0,none⟩ v).heap.size=w.heap.size:=by
 unfold World.setCell
 simp
theorem told99{H H1:AHeap}{g:FuncId}{first cap:Array Value}{k:Int}(hb:Bodied Tryz.prog g)
 (h:(k=0∧ARun Tryz.prog 0 g (first.toList++cap.toList) H (.tuple #[]) H1)∨AGive Tryz.prog 0 30 g (first.toList++cap.toList) H k H1):ARun Tryz.prog 0 99 [.func (.func g) first cap] H (.int .i64 k) H1:=by
 have hbd:Bodied Tryz.prog 99:=bodied_of (by kernel_rfl)
 have hn:H.n≤H1.n:=by rcases h with⟨_,h⟩|h;exact h.2.1;exact h.2.1
 refine⟨by obtain⟨fn,f1,_⟩:=hbd;exact⟨fn,f1⟩,hn,fun σ w args' hr hv=>?_⟩
 cases hv with
 |cons a hv=>
  cases hv
  cases a with
  |func _ _ xs _ ys p1 p2 p3 p4=>
   refine .body hbd ?_
   have hvl:VL σ (first.toList++cap.toList) (xs++ys).toList:=by
    rw[Array.toList_append];exact(VL.of_arr p1 p2).append (VL.of_arr p3 p4)
   obtain⟨j1,j2⟩:=junk_alloc hr (.cells #[.int .i64 0] 30)
   let D:=w.heap.size
   have hD1:(w.alloc (.cells #[.int .i64 0] 30)).heap[w.heap.size]? =some (.cells #[.int .i64 0] 30):=by
    show(w.heap.push _)[w.heap.size]? =_
    simp
   have hlt1:w.heap.size<(w.alloc (.cells #[.int .i64 0] 30)).heap.size:=(Array.getElem?_eq_some_iff.1 hD1).1
   have hold:∀b i,σ b=some i→i.c≠w.heap.size:=fun b i hb=>by have:=hr.lt b i hb;omega
   have keep:∀(σ':Sg) (w':World),Ext H.n σ H.get (w.alloc (.cells #[.int .i64 0] 30)) H1.n σ' H1.get w'→w'.heap[w.heap.size]? =some (.cells #[.int .i64 0] 30)∧∀b i,σ' b=some i→i.c≠w.heap.size:=by
    intro σ' w' hx
    refine⟨by rw[hx.keep _ hlt1 (fun b i o hb _ _=>hold b i hb)];exact hD1,fun b i hb=>?_⟩
    cases hs:σ b with
    |some j=>
     have:=hx.sub b j hs
     rw[hb]at this;cases this
     exact hold b i hs
    |none=>
     rcases(hx.new b i hs hb).2 with q|⟨b0,i0,o0,e1,_,_,e4⟩
     ·omega
     ·rw[←e4];exact hold b0 i0 e1
   have hcall:Calls Tryz.prog g (xs++ys) (w.alloc (.cells #[.int .i64 0] 30)) fun e w'=>(∃σ',HR 0 σ' H1.get w'∧Ext H.n σ H.get (w.alloc (.cells #[.int .i64 0] 30)) H1.n σ' H1.get w')∧
    ((k=0∧∃v,e=.returned v)∨e=.panicked [{v:=.iface 30 (.int .i64 k),recovered:=false}]):=by
    rcases h with⟨rfl,h⟩|h
    ·have:=(h.2.2 σ _ (xs++ys).toList j1 hvl).calls hb
     rw[Array.toArray_toList]at this
     refine this.mono ?_
     rintro e w' ⟨v',σ',rfl,k1,k2,_⟩
     exact⟨⟨σ',k1,k2⟩,.inl ⟨rfl,v',rfl⟩⟩
    ·have:=h.2.2 σ _ (xs++ys).toList j1 hvl
     rw[Array.toArray_toList]at this
     refine this.mono ?_
     rintro e w' ⟨σ',rfl,k1,k2⟩
     exact⟨⟨σ',k1,k2⟩,.inr rfl⟩
   refine(told99_walk hb hcall ?_).mono ?_
   ·rintro e w' ⟨⟨σ',k1,k2⟩,k3⟩
    obtain⟨q1,_⟩:=keep σ' w' k2
    refine⟨⟨0,by simp[World.cell?,q1]⟩,by simp[World.frozen?,q1],?_⟩
    rcases k3 with⟨_,k3⟩|k3
    ·exact .inl k3
    ·exact .inr ⟨k,k3⟩
   ·rintro e w' ⟨e1,w1,k',⟨⟨σ',k1,k2⟩,k3⟩,rfl,rfl,k4⟩
    obtain⟨q1,q2⟩:=keep σ' w1 k2
    have hkk:k'=k:=by
     rcases k3 with⟨rfl,v,rfl⟩|rfl
     ·rcases k4 with⟨_,_,h⟩|h
      ·exact h
      ·cases h
     ·rcases k4 with⟨_,h,_⟩|h
      ·cases h
      ·simp at h;exact h.symm
    subst hkk
    have hoth:∀j,j≠w.heap.size→(w1.setCell ⟨w.heap.size,0,none⟩ (.int .i64 k')).heap[j]? =w1.heap[j]? :=fun j hj=>setCell_oth w1 _ _ hj
    have hsz:(w1.setCell ⟨w.heap.size,0,none⟩ (.int .i64 k')).heap.size=w1.heap.size:=setCell_sz w1 _ _
    refine⟨_,σ',rfl,k1.other (by rw[hsz];exact Nat.le_refl _) (fun b i hb=>hoth i.c (q2 b i hb)),?_,.int _ _⟩
    have k5:=j2.trans k2
    refine⟨k5.sub,k5.new,k5.own,k5.live,fun x hx hno=>?_,by rw[hsz];exact k5.size,k5.num,k5.os,k5.tape,k5.output⟩
    rw[hoth x (by omega)]
    exact k5.keep x hx hno
end Go.AM

set_option maxRecDepth 100000
set_option maxHeartbeats 0
namespace Go.AM.Fd
open Go.Proofs
noncomputable def ckFn(k:Nat):Func:=(Go.Proofs.Tryz.prog.funcs[k]?).getD default
noncomputable def ckBody(k:Nat):Code:=(ckFn k).body.getD .skip
noncomputable def pcCheck:PC:=by
 refine(fun(_:compP Go.Proofs.Tryz.prog 0 34 [0,2,15,26,32] 101 (ckBody 100)=some ?a)=>?a) ?h
 case h=>conv=>lhs;cbv
theorem pcCheck_ok:compP Go.Proofs.Tryz.prog 0 34 [0,2,15,26,32] 101 (ckBody 100)=some pcCheck:=by kernel_rfl
noncomputable def pcSave:PC:=by
 refine(fun(_:compP Go.Proofs.Tryz.prog 0 39 [0,1,3,19,30,37] 101 (ckBody 102)=some ?a)=>?a) ?h
 case h=>conv=>lhs;cbv
theorem pcSave_ok:compP Go.Proofs.Tryz.prog 0 39 [0,1,3,19,30,37] 101 (ckBody 102)=some pcSave:=by kernel_rfl
theorem ckFn_at{k:Nat}(h:(Go.Proofs.Tryz.prog.funcs[k]?).isSome=true):Go.Proofs.Tryz.prog.funcs[k]? =some (ckFn k):=by
 unfold ckFn;cases e:Go.Proofs.Tryz.prog.funcs[k]? with
 |none=>rw[e]at h;cases h
 |some f=>rfl
theorem ckBody_at{k:Nat}(h:((ckFn k).body).isSome=true):(ckFn k).body=some (ckBody k):=by
 unfold ckBody;cases e:(ckFn k).body with
 |none=>rw[e]at h;cases h
 |some f=>rfl
theorem ntCheck:(ckFn 100).ntmps=34:=by kernel_rfl
theorem ntSave:(ckFn 102).ntmps=39:=by kernel_rfl
theorem told_check{args:List Value}{H:AHeap}{S:Int→AHeap→Prop}(ha:args.length≤34)
 (h:WX Go.Proofs.Tryz.prog 0 pcCheck (fun e _ H'=>e=.normal∧S 0 H') (fun k H'=>S k H') (initFr [0,2,15,26,32] args) H):∃k H',ARun Go.Proofs.Tryz.prog 0 99 [.func (.func 100) #[] args.toArray] H (.int .i64 k) H'∧S k H':=by
 have hb:Bodied Go.Proofs.Tryz.prog 100:=bodied_of (by kernel_rfl)
 rcases give_of must101 (ckFn_at (k:=100) (by kernel_rfl)) (ckBody_at (by kernel_rfl)) (by kernel_rfl) (by kernel_rfl) (by rw[ntCheck];decide) (by rw[ntCheck];exact pcCheck_ok) (by rw[ntCheck];exact ha) h (fun e fr H hh=>.inl hh.1)with⟨e,fr,H',h1,_,h2⟩|⟨k,H',h1,h2⟩
 ·exact⟨0,H',told99 hb (.inl ⟨rfl,by simpa using h1⟩),h2⟩
 ·exact⟨k,H',told99 hb (.inr (by simpa using h1)),h2⟩
theorem told_save{args:List Value}{H:AHeap}{S:Int→AHeap→Prop}(ha:args.length≤39)
 (h:WX Go.Proofs.Tryz.prog 0 pcSave (fun e _ H'=>e=.normal∧S 0 H') (fun k H'=>S k H') (initFr [0,1,3,19,30,37] args) H):∃k H',ARun Go.Proofs.Tryz.prog 0 99 [.func (.func 102) #[] args.toArray] H (.int .i64 k) H'∧S k H':=by
 have hb:Bodied Go.Proofs.Tryz.prog 102:=bodied_of (by kernel_rfl)
 rcases give_of must101 (ckFn_at (k:=102) (by kernel_rfl)) (ckBody_at (by kernel_rfl)) (by kernel_rfl) (by kernel_rfl) (by rw[ntSave];decide) (by rw[ntSave];exact pcSave_ok) (by rw[ntSave];exact ha) h (fun e fr H hh=>.inl hh.1)with⟨e,fr,H',h1,_,h2⟩|⟨k,H',h1,h2⟩
 ·exact⟨0,H',told99 hb (.inl ⟨rfl,by simpa using h1⟩),h2⟩
 ·exact⟨k,H',told99 hb (.inr (by simpa using h1)),h2⟩
end Go.AM.Fd

set_option linter.unusedSimpArgs false
set_option linter.unusedVariables false
namespace Go.AM.Fd
open Nat (reduceAdd reduceEqDiff reduceLT reduceLeDiff reduceMul reduceSub)
open Go.Proofs Go.AM.F
section
variable {K:AHeap} {c lb b sb:Nat} {v rv:Value} {ab:Option Nat} {items:List (Value×List UInt8)} {D:Dk} {L:Lg}
theorem lastK_of{S:Int→AHeap→Prop}{e:AX}{k:Int}{fr:List Value}{H:AHeap}(he:e.ev fr []=.int .i64 k)(h:S k H):lastK e (fun e _ H'=>e=.normal∧S 0 H') (fun k H'=>S k H') fr H:=by
 refine⟨k,he,?_⟩
 by_cases hk:k=0
 ·subst hk;rw[if_pos rfl];exact⟨rfl,h⟩
 ·rw[if_neg hk];exact h
theorem t43(h:LgR K lb b sb v ab rv items D L)(hc:K.get c=some (ckC lb))(hs:D.st<999999)(hm:D.op.length<999999)(hT:L.turn<8999999999999999999)(hF:L.next≤9000000000000000000):∃w K',ARun Go.Proofs.Tryz.prog 0 43 [ptr c 0] K w K'∧w=.int .i64 (checkW D L).2.2 ∧
 ∃v' ab' rv' items',LgR K' lb b sb v' ab' rv' items' (checkW D L).1 (checkW D L).2.1 ∧Upd (lgT lb b rv items L++dkT b sb v ab D) (lgT lb b rv' items' (checkW D L).2.1 ++dkT b sb v' ab' (checkW D L).1) K K':=by
 refine walk2 f43_ok f43_n ?_
 intro Q hq1 hq2
 unfold ckC at hc
 have lok:=h.lok
 have l1:=lok.f
 have l2:=lok.r.1
 have hnx:L.next=L.first+L.rs.length:=rfl
 have hclt:=AHeap.get_lt hc
 obtain⟨K1,hK1⟩:∃Y,Y=K.alloc (.cells true false 1 [ptr c 0] 62):=⟨_,rfl⟩
 have k1:Keeps K K1:=by rw[hK1];exact(Keeps.refl K).alloc _
 have g1:K1.get K.n=some (.cells true false 1 [ptr c 0] 62):=by rw[hK1];exact AHeap.get_alloc_new K _
 have n1:K1.n=K.n+1:=by rw[hK1];rfl
 have hc1:=k1.at_ hc
 have h1:=h.keeps k1
 have hw1:IntKind.i64.wrap (((L.next:Nat):Int)-((L.first:Nat):Int))=((L.rs.length:Nat):Int):=by rw[wrap_i64 (by omega) (by omega)];omega
 have hw2:IntKind.i64.wrap (((L.next:Nat):Int)-1)=((L.next:Nat):Int)-1:=wrap_i64 (by omega) (by omega)
 simp(disch:=first|assumption|omega|(simp only[LN]<;>omega)|(simp(disch:=first|assumption|omega|(simp only[LN]<;>omega))only[row_alloc,row_set];assumption))only[f43,W_block,P3,↓reduceIte,reduceAdd,reduceEqDiff,reduceCtorEq,initFr,reduceLT,clsA,reduceLeDiff,reduceMul,reduceSub,reduceIte]
 rw[←hK1]
 obtain⟨S,hS⟩:∃S:Int→AHeap→Prop,S=fun k K'=>k=(checkW D L).2.2 ∧∃v' ab' rv' items',LgR K' lb b sb v' ab' rv' items' (checkW D L).1 (checkW D L).2.1 ∧Upd (lgT lb b rv items L++dkT b sb v ab D) (lgT lb b rv' items' (checkW D L).2.1 ++dkT b sb v' ab' (checkW D L).1) K1 K':=⟨_,rfl⟩
 have hX:WX Go.Proofs.Tryz.prog 0 pcCheck (fun e _ H'=>e=.normal∧S 0 H') (fun k H'=>S k H') (initFr [0,2,15,26,32] [ptr K.n 0]) K1:=by
  have hclt1:=AHeap.get_lt hc1
  have hr1:=AHeap.get_lt g1
  simp(disch:=first|assumption|omega|(simp only[LN]<;>omega)|(simp(disch:=first|assumption|omega|(simp only[LN]<;>omega))only[row_alloc,row_set];assumption))only[pcCheck,WX,W_block,P3,↓reduceIte,reduceAdd,reduceEqDiff,reduceCtorEq,initFr,reduceLT,clsA,reduceLeDiff,reduceMul,reduceSub,reduceIte,g1,hc1]
  refine callK (t28 h1) ?_
  rintro _ X ⟨rfl,hX⟩
  rw[hX]
  simp(disch:=first|assumption|omega|(simp only[LN]<;>omega)|(simp(disch:=first|assumption|omega|(simp only[LN]<;>omega))only[row_alloc,row_set];assumption))only[WX,W_block,P3,↓reduceIte,reduceAdd,reduceEqDiff,reduceCtorEq,initFr,reduceLT,clsA,reduceLeDiff,reduceMul,reduceSub,reduceIte,g1,hc1]
  refine callK (t27 h1) ?_
  rintro _ X ⟨rfl,hX⟩
  rw[hX]
  by_cases c1:1<L.rs.length
  ·have d1:(1:Int)<((L.rs.length:Nat):Int):=by omega
   have e1:checkW D L=truncW D L (((L.next:Nat):Int)-1):=by unfold checkW;rw[if_pos c1]
   rw[e1]at hS
   simp(disch:=first|assumption|omega|(simp only[LN]<;>omega)|(simp(disch:=first|assumption|omega|(simp only[LN]<;>omega))only[row_alloc,row_set];assumption))only[WX,W_block,P3,↓reduceIte,reduceAdd,reduceEqDiff,reduceCtorEq,initFr,reduceLT,clsA,reduceLeDiff,reduceMul,reduceSub,reduceIte,hw1,g1,hc1]
   refine callK (t28 h1) ?_
   rintro _ X ⟨rfl,hX⟩
   rw[hX]
   simp(disch:=first|assumption|omega|(simp only[LN]<;>omega)|(simp(disch:=first|assumption|omega|(simp only[LN]<;>omega))only[row_alloc,row_set];assumption))only[WX,W_block,P3,↓reduceIte,reduceAdd,reduceEqDiff,reduceCtorEq,initFr,reduceLT,clsA,reduceLeDiff,reduceMul,reduceSub,reduceIte,hw2]
   refine⟨by simp,?_⟩
   refine callK (t32 h1 hs hm hT hF (((L.next:Nat):Int)-1)) ?_
   rintro _ K2 ⟨rfl,v',ab',rv',items',h2,u2⟩
   have hfin:S (truncW D L (((L.next:Nat):Int)-1)).2.2 K2:=by rw[hS];exact⟨rfl,v',ab',rv',items',h2,u2⟩
   simp(disch:=first|assumption|omega|(simp only[LN]<;>omega)|(simp(disch:=first|assumption|omega|(simp only[LN]<;>omega))only[row_alloc,row_set];assumption))only[WX,W_block,P3,↓reduceIte,reduceAdd,reduceEqDiff,reduceCtorEq,initFr,reduceLT,clsA,reduceLeDiff,reduceMul,reduceSub,reduceIte]
   exact lastK_of rfl hfin
  ·have d1:¬(1:Int)<((L.rs.length:Nat):Int):=by omega
   have e1:checkW D L=(D,L,L.br):=by unfold checkW;rw[if_neg c1]
   rw[e1]at hS
   simp(disch:=first|assumption|omega|(simp only[LN]<;>omega)|(simp(disch:=first|assumption|omega|(simp only[LN]<;>omega))only[row_alloc,row_set];assumption))only[WX,W_block,P3,↓reduceIte,reduceAdd,reduceEqDiff,reduceCtorEq,initFr,reduceLT,clsA,reduceLeDiff,reduceMul,reduceSub,reduceIte,hw1,g1,hc1]
   refine callK (t30 h1) ?_
   rintro _ X ⟨rfl,hX⟩
   rw[hX]
   have hfin:S L.br K1:=by rw[hS];exact⟨rfl,v,ab,rv,items,h1,Upd.refl h1.s⟩
   simp(disch:=first|assumption|omega|(simp only[LN]<;>omega)|(simp(disch:=first|assumption|omega|(simp only[LN]<;>omega))only[row_alloc,row_set];assumption))only[WX,W_block,P3,↓reduceIte,reduceAdd,reduceEqDiff,reduceCtorEq,initFr,reduceLT,clsA,reduceLeDiff,reduceMul,reduceSub,reduceIte]
   exact lastK_of rfl hfin
 obtain⟨k,K',r,hk⟩:=told_check (by simp) hX
 rw[hS]at hk
 obtain⟨rfl,v',ab',rv',items',h2,u2⟩:=hk
 refine callK (R:=fun w K2=>w=.int .i64 (checkW D L).2.2 ∧K2=K') ⟨_,_,r,rfl,rfl⟩ ?_
 rintro _ K2 ⟨rfl,hK2⟩
 rw[hK2]
 simp(disch:=first|assumption|omega|(simp only[LN]<;>omega)|(simp(disch:=first|assumption|omega|(simp only[LN]<;>omega))only[row_alloc,row_set];assumption))only[W_block,P3,↓reduceIte,reduceAdd,reduceEqDiff,reduceCtorEq,initFr,reduceLT,clsA,reduceLeDiff,reduceMul,reduceSub,reduceIte]
 exact hq2 _ _ ⟨_,rfl,rfl,v',ab',rv',items',h2,(Upd.keeps h.s k1).trans u2⟩
end
end Go.AM.Fd

set_option linter.unusedSimpArgs false
set_option linter.unusedVariables false
namespace Go.AM.Fd
open Nat (reduceAdd reduceEqDiff reduceLT reduceLeDiff reduceMul reduceSub)
open Go.Proofs Go.AM.F
theorem saveW_a{D:Dk}{L:Lg}{l:List UInt8}(h:¬(((D.bl.length-2:Nat):Int)-(L.rs.length:Nat)=0∧2≤D.bl.length-2∧l.length≤232)):saveW D L l=appW D L l:=by
 unfold saveW
 by_cases hb:L.br≠0
 ·rw[if_pos hb];unfold appW;rw[if_pos hb]
 ·rw[if_neg hb]
  by_cases h2:232<l.length
  ·rw[if_pos h2];unfold appW;rw[if_neg hb,if_pos h2]
  ·rw[if_neg h2,if_neg (fun q=>h ⟨q.1,q.2,by omega⟩)]
theorem saveW_t{D:Dk}{L:Lg}{l:List UInt8}(h:((D.bl.length-2:Nat):Int)-(L.rs.length:Nat)=0∧2≤D.bl.length-2∧l.length≤232):saveW D L l=if(truncW D L (((L.next:Nat):Int)-1)).2.2 ≠0 then truncW D L (((L.next:Nat):Int)-1)else appW (truncW D L (((L.next:Nat):Int)-1)).1 (truncW D L (((L.next:Nat):Int)-1)).2.1 l:=by
 unfold saveW
 by_cases hb:L.br≠0
 ·have e:truncW D L (((L.next:Nat):Int)-1)=(D,L,L.br):=by unfold truncW;rw[if_pos hb]
  rw[if_pos hb,e,if_pos hb]
 ·rw[if_neg hb,if_neg (by omega),if_pos ⟨h.1,h.2.1⟩]
section
variable {K:AHeap} {c lb b sb:Nat} {v rv:Value} {ab:Option Nat} {items:List (Value×List UInt8)} {D:Dk} {L:Lg}
theorem t103(h:LgR K lb b sb v ab rv items D L)(hc:K.get c=some (ckC lb)):∃w K',ARun Go.Proofs.Tryz.prog 0 103 [ptr c 0] K w K'∧w=.bool ((((D.bl.length-2:Nat):Int)-(L.rs.length:Nat))==0)∧K'=K:=by
 refine walk2 f103_ok f103_n ?_
 intro Q hq1 hq2
 simp(disch:=first|assumption|omega|(simp only[LN]<;>omega)|(simp(disch:=first|assumption|omega|(simp only[LN]<;>omega))only[row_alloc,row_set];assumption))only[f103,W_block,P3,↓reduceIte,reduceAdd,reduceEqDiff,reduceCtorEq,initFr,reduceLT,clsA,reduceLeDiff,reduceMul,reduceSub,reduceIte]
 refine callK (t49 h hc) ?_
 rintro _ X ⟨rfl,hX⟩
 rw[hX]
 simp(disch:=first|assumption|omega|(simp only[LN]<;>omega)|(simp(disch:=first|assumption|omega|(simp only[LN]<;>omega))only[row_alloc,row_set];assumption))only[W_block,P3,↓reduceIte,reduceAdd,reduceEqDiff,reduceCtorEq,initFr,reduceLT,clsA,reduceLeDiff,reduceMul,reduceSub,reduceIte]
 exact hq2 _ _ ⟨_,rfl,rfl,rfl⟩
theorem t45(h:LgR K lb b sb v ab rv items D L)(hc:K.get c=some (ckC lb))(hs:D.st<999990)(hm:D.op.length<999990)(hT:L.turn<8999999999999999999)(hF:L.next≤9000000000000000000){x:Value}{l:List UInt8}(hx:BS K x l)(hl:l.length≤1000000)
 (hcf:c∉fp (lgT lb b rv items L++dkT b sb v ab D)) (hxf:∀z∈tb x,z∉fp (lgT lb b rv items L++dkT b sb v ab D)):∃w K',ARun Go.Proofs.Tryz.prog 0 45 [ptr c 0,x] K w K'∧w=.int .i64 (saveW D L l).2.2 ∧
 ∃v' ab' rv' items',LgR K' lb b sb v' ab' rv' items' (saveW D L l).1 (saveW D L l).2.1 ∧Upd (lgT lb b rv items L++dkT b sb v ab D) (lgT lb b rv' items' (saveW D L l).2.1 ++dkT b sb v' ab' (saveW D L l).1) K K':=by
 refine walk2 f45_ok f45_n ?_
 intro Q hq1 hq2
 have hc0:=hc
 unfold ckC at hc
 have lok:=h.lok
 have l1:=lok.f
 have l2:=lok.r.1
 have hclt:=AHeap.get_lt hc
 have ix:=hx.isS
 have ox:=one_isS ix
 have oo:[x].all Value.oneCell'=true:=by simp only[List.all_cons,ox];rfl
 have lx:=hx.lenS
 obtain⟨K1,hK1⟩:∃Y,Y=K.alloc (.cells true false 1 [ptr c 0] 62):=⟨_,rfl⟩
 have k1:Keeps K K1:=by rw[hK1];exact(Keeps.refl K).alloc _
 have g1:K1.get K.n=some (.cells true false 1 [ptr c 0] 62):=by rw[hK1];exact AHeap.get_alloc_new K _
 have n1:K1.n=K.n+1:=by rw[hK1];rfl
 obtain⟨K2,hK2⟩:∃Y,Y=K1.alloc (.cells true false 1 [x] 38):=⟨_,rfl⟩
 have k2:Keeps K1 K2:=by rw[hK2];exact(Keeps.refl K1).alloc _
 have g1':=k2.at_ g1
 have g2:K2.get (K.n+1)=some (.cells true false 1 [x] 38):=by rw[hK2,←n1];exact AHeap.get_alloc_new K1 _
 have n2:K2.n=K.n+2:=by rw[hK2,alloc_n,n1]
 have kk:=k1.trans k2
 have hc2:=kk.at_ hc
 have hc20:=kk.at_ hc0
 have h2:=h.keeps kk
 have hx2:=hx.keeps kk
 have hw2:IntKind.i64.wrap (((L.next:Nat):Int)-1)=((L.next:Nat):Int)-1:=by
  have hnx:L.next=L.first+L.rs.length:=rfl
  exact wrap_i64 (by omega) (by omega)
 have hxc:x.cells.toList=[x]:=by rw[cells_isS ix]
 simp(disch:=first|assumption|omega|(simp only[LN]<;>omega)|(simp(disch:=first|assumption|omega|(simp only[LN]<;>omega))only[row_alloc,row_set];assumption))only[f45,W_block,P3,↓reduceIte,reduceAdd,reduceEqDiff,reduceCtorEq,initFr,reduceLT,clsA,reduceLeDiff,reduceMul,reduceSub,reduceIte,oo,hxc]
 rw[←hK1,←hK2]
 obtain⟨S,hS⟩:∃S:Int→AHeap→Prop,S=fun k K'=>k=(saveW D L l).2.2 ∧∃v' ab' rv' items',LgR K' lb b sb v' ab' rv' items' (saveW D L l).1 (saveW D L l).2.1 ∧Upd (lgT lb b rv items L++dkT b sb v ab D) (lgT lb b rv' items' (saveW D L l).2.1 ++dkT b sb v' ab' (saveW D L l).1) K2 K':=⟨_,rfl⟩
 have hX:WX Go.Proofs.Tryz.prog 0 pcSave (fun e _ H'=>e=.normal∧S 0 H') (fun k H'=>S k H') (initFr [0,1,3,19,30,37] [ptr K.n 0,ptr (K.n+1) 0]) K2:=by
  have e1:=AHeap.get_lt hc2
  have e2:=AHeap.get_lt g1'
  have e3:=AHeap.get_lt g2
  simp(disch:=first|assumption|omega|(simp only[LN]<;>omega)|(simp(disch:=first|assumption|omega|(simp only[LN]<;>omega))only[row_alloc,row_set];assumption))only[pcSave,WX,W_block,P3,↓reduceIte,reduceAdd,reduceEqDiff,reduceCtorEq,initFr,reduceLT,clsA,reduceLeDiff,reduceMul,reduceSub,reduceIte,g1',hc2]
  refine callK (t103 h2 hc20) ?_
  rintro _ X ⟨rfl,hX⟩
  rw[hX]
  by_cases hA:((D.bl.length-2:Nat):Int)-(L.rs.length:Nat)=0∧2≤D.bl.length-2∧l.length≤232
  ·obtain⟨a1,a2,a3⟩:=hA
   have d1:((((D.bl.length-2:Nat):Int)-(L.rs.length:Nat))==0)=true:=beqi_yes a1
   have d2:(2:Int)≤((D.bl.length-2:Nat):Int):=by omega
   have d3:((l.length:Nat):Int)≤232:=by omega
   have e4:=saveW_t ⟨a1,a2,a3⟩
   have htb:=truncW_b D L (((L.next:Nat):Int)-1)
   simp(disch:=first|assumption|omega|(simp only[LN]<;>omega)|(simp(disch:=first|assumption|omega|(simp only[LN]<;>omega))only[row_alloc,row_set];assumption))only[WX,W_block,P3,↓reduceIte,reduceAdd,reduceEqDiff,reduceCtorEq,initFr,reduceLT,clsA,reduceLeDiff,reduceMul,reduceSub,reduceIte,d1,g1',hc2]
   refine callK (t29 h2) ?_
   rintro _ X ⟨rfl,hX⟩
   rw[hX]
   simp(disch:=first|assumption|omega|(simp only[LN]<;>omega)|(simp(disch:=first|assumption|omega|(simp only[LN]<;>omega))only[row_alloc,row_set];assumption))only[WX,W_block,P3,↓reduceIte,reduceAdd,reduceEqDiff,reduceCtorEq,initFr,reduceLT,clsA,reduceLeDiff,reduceMul,reduceSub,reduceIte,g1',g2,hc2,lx]
   refine callK (t28 h2) ?_
   rintro _ X ⟨rfl,hX⟩
   rw[hX]
   simp(disch:=first|assumption|omega|(simp only[LN]<;>omega)|(simp(disch:=first|assumption|omega|(simp only[LN]<;>omega))only[row_alloc,row_set];assumption))only[WX,W_block,P3,↓reduceIte,reduceAdd,reduceEqDiff,reduceCtorEq,initFr,reduceLT,clsA,reduceLeDiff,reduceMul,reduceSub,reduceIte,hw2]
   refine⟨by simp,?_⟩
   refine callK (t32 h2 (by omega) (by omega) hT hF (((L.next:Nat):Int)-1)) ?_
   rintro _ K3 ⟨rfl,v3,ab3,rv3,items3,h3,u3⟩
   have m1:=u3.chg.at_ g1' (fun hz=>by have:=h.s.lt hz;omega)
   have m2:=u3.chg.at_ g2 (fun hz=>by have:=h.s.lt hz;omega)
   have mc:=u3.chg.at_ hc2 hcf
   have mx:BS K3 x l:=hx2.chgT u3.chg hxf
   generalize truncW D L (((L.next:Nat):Int)-1)=r at*
   by_cases he:r.2.2=0
   ·have e5:saveW D L l=appW r.1 r.2.1 l:=by rw[e4,if_neg (by simp[he])]
    simp(disch:=first|assumption|omega|(simp only[LN]<;>omega)|(simp(disch:=first|assumption|omega|(simp only[LN]<;>omega))only[row_alloc,row_set];assumption))only[WX,W_block,P3,↓reduceIte,reduceAdd,reduceEqDiff,reduceCtorEq,initFr,reduceLT,clsA,reduceLeDiff,reduceMul,reduceSub,reduceIte]
    refine⟨r.2.2,rfl,?_⟩
    rw[if_pos he]
    simp(disch:=first|assumption|omega|(simp only[LN]<;>omega)|(simp(disch:=first|assumption|omega|(simp only[LN]<;>omega))only[row_alloc,row_set];assumption))only[WX,W_block,P3,↓reduceIte,reduceAdd,reduceEqDiff,reduceCtorEq,initFr,reduceLT,clsA,reduceLeDiff,reduceMul,reduceSub,reduceIte,m1,m2,mc]
    refine callK (t31 h3 (by omega) (by omega) mx hl) ?_
    rintro _ K9 ⟨rfl,v9,ab9,rv9,items9,h9,u9⟩
    have hfin:S (appW r.1 r.2.1 l).2.2 K9:=by rw[hS,e5];exact⟨rfl,v9,ab9,rv9,items9,h9,u3.trans u9⟩
    simp(disch:=first|assumption|omega|(simp only[LN]<;>omega)|(simp(disch:=first|assumption|omega|(simp only[LN]<;>omega))only[row_alloc,row_set];assumption))only[WX,W_block,P3,↓reduceIte,reduceAdd,reduceEqDiff,reduceCtorEq,initFr,reduceLT,clsA,reduceLeDiff,reduceMul,reduceSub,reduceIte]
    exact lastK_of rfl hfin
   ·have e5:saveW D L l=r:=by rw[e4,if_pos he]
    have hfin:S r.2.2 K3:=by rw[hS,e5];exact⟨rfl,v3,ab3,rv3,items3,h3,u3⟩
    simp(disch:=first|assumption|omega|(simp only[LN]<;>omega)|(simp(disch:=first|assumption|omega|(simp only[LN]<;>omega))only[row_alloc,row_set];assumption))only[WX,W_block,P3,↓reduceIte,reduceAdd,reduceEqDiff,reduceCtorEq,initFr,reduceLT,clsA,reduceLeDiff,reduceMul,reduceSub,reduceIte]
    refine⟨r.2.2,rfl,?_⟩
    rw[if_neg he]
    exact hfin
  ·have e5:=saveW_a hA
   have m1:=g1'
   have m2:=g2
   have mc:=hc2
   have mx:=hx2
   by_cases a1:((D.bl.length-2:Nat):Int)-(L.rs.length:Nat)=0
   ·have d1:((((D.bl.length-2:Nat):Int)-(L.rs.length:Nat))==0)=true:=beqi_yes a1
    simp(disch:=first|assumption|omega|(simp only[LN]<;>omega)|(simp(disch:=first|assumption|omega|(simp only[LN]<;>omega))only[row_alloc,row_set];assumption))only[WX,W_block,P3,↓reduceIte,reduceAdd,reduceEqDiff,reduceCtorEq,initFr,reduceLT,clsA,reduceLeDiff,reduceMul,reduceSub,reduceIte,d1,g1',hc2]
    refine callK (t29 h2) ?_
    rintro _ X ⟨rfl,hX⟩
    rw[hX]
    by_cases a2:2≤D.bl.length-2
    ·have d2:(2:Int)≤((D.bl.length-2:Nat):Int):=by omega
     have d3:¬((l.length:Nat):Int)≤232:=fun q=>hA ⟨a1,a2,by omega⟩
     simp(disch:=first|assumption|omega|(simp only[LN]<;>omega)|(simp(disch:=first|assumption|omega|(simp only[LN]<;>omega))only[row_alloc,row_set];assumption))only[WX,W_block,P3,↓reduceIte,reduceAdd,reduceEqDiff,reduceCtorEq,initFr,reduceLT,clsA,reduceLeDiff,reduceMul,reduceSub,reduceIte,g1',g2,hc2,lx]
     refine callK (t31 h2 (by omega) (by omega) mx hl) ?_
     rintro _ K9 ⟨rfl,v9,ab9,rv9,items9,h9,u9⟩
     have hfin:S (appW D L l).2.2 K9:=by rw[hS,e5];exact⟨rfl,v9,ab9,rv9,items9,h9,u9⟩
     simp(disch:=first|assumption|omega|(simp only[LN]<;>omega)|(simp(disch:=first|assumption|omega|(simp only[LN]<;>omega))only[row_alloc,row_set];assumption))only[WX,W_block,P3,↓reduceIte,reduceAdd,reduceEqDiff,reduceCtorEq,initFr,reduceLT,clsA,reduceLeDiff,reduceMul,reduceSub,reduceIte]
     exact lastK_of rfl hfin
    ·have d2:¬(2:Int)≤((D.bl.length-2:Nat):Int):=by omega
     simp(disch:=first|assumption|omega|(simp only[LN]<;>omega)|(simp(disch:=first|assumption|omega|(simp only[LN]<;>omega))only[row_alloc,row_set];assumption))only[WX,W_block,P3,↓reduceIte,reduceAdd,reduceEqDiff,reduceCtorEq,initFr,reduceLT,clsA,reduceLeDiff,reduceMul,reduceSub,reduceIte,g1',g2,hc2,lx]
     refine callK (t31 h2 (by omega) (by omega) mx hl) ?_
     rintro _ K9 ⟨rfl,v9,ab9,rv9,items9,h9,u9⟩
     have hfin:S (appW D L l).2.2 K9:=by rw[hS,e5];exact⟨rfl,v9,ab9,rv9,items9,h9,u9⟩
     simp(disch:=first|assumption|omega|(simp only[LN]<;>omega)|(simp(disch:=first|assumption|omega|(simp only[LN]<;>omega))only[row_alloc,row_set];assumption))only[WX,W_block,P3,↓reduceIte,reduceAdd,reduceEqDiff,reduceCtorEq,initFr,reduceLT,clsA,reduceLeDiff,reduceMul,reduceSub,reduceIte]
     exact lastK_of rfl hfin
   ·have d1:((((D.bl.length-2:Nat):Int)-(L.rs.length:Nat))==0)=false:=beqi_no a1
    simp(disch:=first|assumption|omega|(simp only[LN]<;>omega)|(simp(disch:=first|assumption|omega|(simp only[LN]<;>omega))only[row_alloc,row_set];assumption))only[WX,W_block,P3,↓reduceIte,reduceAdd,reduceEqDiff,reduceCtorEq,initFr,reduceLT,clsA,reduceLeDiff,reduceMul,reduceSub,reduceIte,d1,g1',g2,hc2,lx]
    refine callK (t31 h2 (by omega) (by omega) mx hl) ?_
    rintro _ K9 ⟨rfl,v9,ab9,rv9,items9,h9,u9⟩
    have hfin:S (appW D L l).2.2 K9:=by rw[hS,e5];exact⟨rfl,v9,ab9,rv9,items9,h9,u9⟩
    simp(disch:=first|assumption|omega|(simp only[LN]<;>omega)|(simp(disch:=first|assumption|omega|(simp only[LN]<;>omega))only[row_alloc,row_set];assumption))only[WX,W_block,P3,↓reduceIte,reduceAdd,reduceEqDiff,reduceCtorEq,initFr,reduceLT,clsA,reduceLeDiff,reduceMul,reduceSub,reduceIte]
    exact lastK_of rfl hfin
 obtain⟨k,K',r,hk⟩:=told_save (by simp) hX
 rw[hS]at hk
 obtain⟨rfl,v',ab',rv',items',h3,u3⟩:=hk
 refine callK (R:=fun w K3=>w=.int .i64 (saveW D L l).2.2 ∧K3=K') ⟨_,_,r,rfl,rfl⟩ ?_
 rintro _ K3 ⟨rfl,hK3⟩
 rw[hK3]
 simp(disch:=first|assumption|omega|(simp only[LN]<;>omega)|(simp(disch:=first|assumption|omega|(simp only[LN]<;>omega))only[row_alloc,row_set];assumption))only[W_block,P3,↓reduceIte,reduceAdd,reduceEqDiff,reduceCtorEq,initFr,reduceLT,clsA,reduceLeDiff,reduceMul,reduceSub,reduceIte]
 exact hq2 _ _ ⟨_,rfl,rfl,v',ab',rv',items',h3,(Upd.keeps h.s kk).trans u3⟩
end
end Go.AM.Fd

set_option linter.unusedSimpArgs false
set_option linter.unusedVariables false
namespace Go.AM.Fd
open Nat (reduceAdd reduceEqDiff reduceLT reduceLeDiff reduceMul reduceSub)
open Go.Proofs Go.AM.F
def CkOpenR(A:List Th)(K H:AHeap)(b sb:Nat)(res:Dk×Option Lg×Int)(w:Value):Prop:=match res.2.1 with
 |none=>w=.tuple #[.pointer none,.int .i64 res.2.2]∧res.1.ok∧∃v' ab',Upd A (dkT b sb v' ab' res.1) K H
 |some L=>∃c lb v' ab' rv items,w=.tuple #[ptr c 0,.int .i64 0]∧LgR H lb b sb v' ab' rv items res.1 L∧Upd A (thB c (ckC lb)::(lgT lb b rv items L++dkT b sb v' ab' res.1)) K H
def RkOpenR(A:List Th)(K H:AHeap)(b:Nat)(vb:Value)(res:Dk×Option Lg×Int)(w:Value):Prop:=match res.2.1 with
 |none=>w=.tuple #[.pointer none,.int .i64 res.2.2]∧∃vo' inn',EkR H b vb vo' inn' res.1∧Upd A (ekT b vb vo' inn' res.1) K H
 |some L=>∃c lb vo' inn' vl,w=.tuple #[ptr c 0,.int .i64 0]∧RlR H lb b vb vo' inn' vl res.1 L∧Upd A (thB c (rkC lb)::(rlT lb b vl L++ekT b vb vo' inn' res.1)) K H
section
variable {K:AHeap} {b sb:Nat} {v vb vo:Value} {ab:Option Nat} {inn:Int} {D:Dk}
theorem t39(h:DkR K b sb v ab D)(hs:D.st<999999)(hm:D.op.length<999999):∃w K',ARun Go.Proofs.Tryz.prog 0 39 [ptr b 0] K w K'∧CkOpenR (dkT b sb v ab D) K K' b sb (openW D) w:=by
 refine walk2 f39_ok f39_n ?_
 intro Q hq1 hq2
 simp(disch:=first|assumption|omega|(simp only[LN]<;>omega)|(simp(disch:=first|assumption|omega|(simp only[LN]<;>omega))only[row_alloc,row_set];assumption))only[f39,W_block,P3,↓reduceIte,reduceAdd,reduceEqDiff,reduceCtorEq,initFr,reduceLT,clsA,reduceLeDiff,reduceMul,reduceSub,reduceIte]
 refine callK (t13 h hs hm) ?_
 rintro w K1 ho
 have her:=openW_er D
 unfold OpenR at ho
 unfold CkOpenR at hq2
 unfold ErOk at her
 cases hl:(openW D).2.1 with
 |none=>
  rw[hl]at ho her
  simp only[hl]at hq2
  obtain⟨rfl,o1,v',ab',u1⟩:=ho
  have d1:((openW D).2.2 != 0)=true:=bnei_yes her
  simp(disch:=first|assumption|omega|(simp only[LN]<;>omega)|(simp(disch:=first|assumption|omega|(simp only[LN]<;>omega))only[row_alloc,row_set];assumption))only[W_block,P3,↓reduceIte,reduceAdd,reduceEqDiff,reduceCtorEq,initFr,reduceLT,clsA,reduceLeDiff,reduceMul,reduceSub,reduceIte,d1]
  exact hq2 _ _ ⟨_,rfl,rfl,o1,v',ab',u1⟩
 |some L=>
  rw[hl]at ho her
  simp only[hl]at hq2
  obtain⟨lb,v',ab',rv,items,rfl,hlb,h1,u1⟩:=ho
  have hf:fillA [.pointer none] [(0,1,ptr lb 0)]=some [ptr lb 0]:=rfl
  have k2:=(Keeps.refl K1).alloc (ckC lb)
  simp(disch:=first|assumption|omega|(simp only[LN]<;>omega)|(simp(disch:=first|assumption|omega|(simp only[LN]<;>omega))only[row_alloc,row_set];assumption))only[W_block,P3,↓reduceIte,reduceAdd,reduceEqDiff,reduceCtorEq,initFr,reduceLT,clsA,reduceLeDiff,reduceMul,reduceSub,reduceIte,hf]
  refine hq2 _ _ ⟨_,rfl,K1.n,lb,v',ab',rv,items,rfl,h1.keeps k2,Upd.add u1 k2 (AHeap.get_alloc_new K1 _) (by simp[thB])⟩
theorem t40(h:EkR K b vb vo inn D)(hs:D.st<999999)(hm:D.op.length<999999):∃w K',ARun Go.Proofs.Tryz.prog 0 40 [ptr b 0] K w K'∧RkOpenR (ekT b vb vo inn D) K K' b vb (openW D) w:=by
 refine walk2 f40_ok f40_n ?_
 intro Q hq1 hq2
 simp(disch:=first|assumption|omega|(simp only[LN]<;>omega)|(simp(disch:=first|assumption|omega|(simp only[LN]<;>omega))only[row_alloc,row_set];assumption))only[f40,W_block,P3,↓reduceIte,reduceAdd,reduceEqDiff,reduceCtorEq,initFr,reduceLT,clsA,reduceLeDiff,reduceMul,reduceSub,reduceIte]
 refine callK (t14 h hs hm) ?_
 rintro w K1 ho
 have her:=openW_er D
 unfold ROpenR at ho
 unfold RkOpenR at hq2
 unfold ErOk at her
 cases hl:(openW D).2.1 with
 |none=>
  rw[hl]at ho her
  simp only[hl]at hq2
  obtain⟨rfl,vo',inn',e1,u1⟩:=ho
  have d1:((openW D).2.2 != 0)=true:=bnei_yes her
  simp(disch:=first|assumption|omega|(simp only[LN]<;>omega)|(simp(disch:=first|assumption|omega|(simp only[LN]<;>omega))only[row_alloc,row_set];assumption))only[W_block,P3,↓reduceIte,reduceAdd,reduceEqDiff,reduceCtorEq,initFr,reduceLT,clsA,reduceLeDiff,reduceMul,reduceSub,reduceIte,d1]
  exact hq2 _ _ ⟨_,rfl,rfl,vo',inn',e1,u1⟩
 |some L=>
  rw[hl]at ho her
  simp only[hl]at hq2
  obtain⟨lb,vo',inn',vl,rfl,hlb,h1,u1⟩:=ho
  have hf:fillA [.pointer none] [(0,1,ptr lb 0)]=some [ptr lb 0]:=rfl
  have k2:=(Keeps.refl K1).alloc (rkC lb)
  simp(disch:=first|assumption|omega|(simp only[LN]<;>omega)|(simp(disch:=first|assumption|omega|(simp only[LN]<;>omega))only[row_alloc,row_set];assumption))only[W_block,P3,↓reduceIte,reduceAdd,reduceEqDiff,reduceCtorEq,initFr,reduceLT,clsA,reduceLeDiff,reduceMul,reduceSub,reduceIte,hf]
  refine hq2 _ _ ⟨_,rfl,K1.n,lb,vo',inn',vl,rfl,h1.keeps k2,Upd.add u1 k2 (AHeap.get_alloc_new K1 _) (by simp[thB])⟩
end
end Go.AM.Fd

set_option linter.unusedSimpArgs false
set_option linter.unusedVariables false
namespace Go.AM.Fd
open Nat (reduceAdd reduceEqDiff reduceLT reduceLeDiff reduceMul reduceSub)
open Go.Proofs Go.AM.F
theorem pastW_len{L:Lg}(h:L.ok)(k:Int):((pastW L k).getD []).length≤232:=by
 unfold pastW
 split
 ·simp
 ·rename_i hr
  have hi:L.rs.length-1-k.toNat<L.rs.length:=by omega
  have e:L.rs.getD (L.rs.length-1-k.toNat) []=L.rs[L.rs.length-1-k.toNat]:=by simp[List.getD,List.getElem?_eq_getElem hi]
  show(L.rs.getD (L.rs.length-1-k.toNat) []).length≤232
  rw[e]
  exact h.r.2 _ (List.getElem_mem hi)
end Go.AM.Fd

set_option linter.unusedSimpArgs false
set_option linter.unusedVariables false
namespace Go.AM.Fd
open Nat (reduceAdd reduceEqDiff reduceLT reduceLeDiff reduceMul reduceSub)
open Go.Proofs Go.AM.F
theorem Sep.join2{H K1 K2:AHeap}{A B:List Th}(h1:Sep K1 A)(k:Keeps K1 K2)(h2:Sep K2 B)(hB:∀y∈fp B,K1.n≤y):Sep K2 (A++B):=by
 have h1':=h1.keeps k
 refine⟨fun t ht=>?_,List.pairwise_append.2 ⟨h1'.ap,h2.ap,fun a ha b hb y hy hy2=>?_⟩⟩
 ·rcases List.mem_append.1 ht with h|h
  ·exact h1'.all t h
  ·exact h2.all t h
 ·have:=hB y (mem_fp.2 ⟨b,hb,hy2⟩)
  have:=h1.lt (mem_fp.2 ⟨a,ha,hy⟩)
  omega
end Go.AM.Fd

set_option linter.unusedSimpArgs false
set_option linter.unusedVariables false
namespace Go.AM.Fd
open Go.Proofs Go.AM.F
structure CkS (A:List Th) (K0 K:AHeap) (c lb b sb:Nat) (v:Value) (ab:Option Nat) (rv:Value) (items:List (Value×List UInt8)) (D:Dk) (L:Lg):Prop where
 u:Upd A (thB c (ckC lb)::(lgT lb b rv items L++dkT b sb v ab D)) K0 K
 ok:D.ok
 n3:3≤D.bl.length
 it:items.map (·.2)=L.rs
 lok:L.ok
section
variable {A:List Th} {K0 K:AHeap} {c lb b sb:Nat} {v rv:Value} {ab:Option Nat} {items:List (Value×List UInt8)} {D:Dk} {L:Lg}
theorem CkS.lg(h:CkS A K0 K c lb b sb v ab rv items D L):LgR K lb b sb v ab rv items D L:=⟨Sep.right (A:=[thB c (ckC lb)]) h.u.sep,h.ok,h.n3,h.it,h.lok⟩
theorem CkS.gc(h:CkS A K0 K c lb b sb v ab rv items D L):K.get c=some (ckC lb):=h.u.sep.get 0 rfl
theorem CkS.cf(h:CkS A K0 K c lb b sb v ab rv items D L):c∉fp (lgT lb b rv items L++dkT b sb v ab D):=fun hz=>by
 obtain⟨x,hx,h1⟩:=mem_fp.1 hz
 exact(List.pairwise_cons.1 h.u.sep.ap).1 x hx c (by simp[thB]) h1
theorem CkS.save(h:CkS A K0 K c lb b sb v ab rv items D L)(hs:D.st<999990)(hm:D.op.length<999990)(hT:L.turn<8999999999999999999)(hF:L.next≤9000000000000000000){x:Value}{l:List UInt8}(hx:BS K x l)(hl:l.length≤1000000)
 (hxf:∀z∈tb x,z∉fp (lgT lb b rv items L++dkT b sb v ab D)):∃w K',ARun Go.Proofs.Tryz.prog 0 45 [ptr c 0,x] K w K'∧w=.int .i64 (saveW D L l).2.2 ∧∃v' ab' rv' items',CkS A K0 K' c lb b sb v' ab' rv' items' (saveW D L l).1 (saveW D L l).2.1 :=by
 obtain⟨w,K',r,rfl,v',ab',rv',items',h2,u2⟩:=t45 h.lg h.gc hs hm hT hF hx hl h.cf hxf
 exact⟨_,K',r,rfl,v',ab',rv',items',h.u.trans (u2.extR (A:=[thB c (ckC lb)]) h.u.sep),h2.ok,h2.n3,h2.it,h2.lok⟩
theorem CkS.check(h:CkS A K0 K c lb b sb v ab rv items D L)(hs:D.st<999999)(hm:D.op.length<999999)(hT:L.turn<8999999999999999999)(hF:L.next≤9000000000000000000):∃w K',ARun Go.Proofs.Tryz.prog 0 43 [ptr c 0] K w K'∧w=.int .i64 (checkW D L).2.2 ∧∃v' ab' rv' items',CkS A K0 K' c lb b sb v' ab' rv' items' (checkW D L).1 (checkW D L).2.1 :=by
 obtain⟨w,K',r,rfl,v',ab',rv',items',h2,u2⟩:=t43 h.lg h.gc hs hm hT hF
 exact⟨_,K',r,rfl,v',ab',rv',items',h.u.trans (u2.extR (A:=[thB c (ckC lb)]) h.u.sep),h2.ok,h2.n3,h2.it,h2.lok⟩
end
end Go.AM.Fd

set_option linter.unusedSimpArgs false
set_option linter.unusedVariables false
namespace Go.AM.Fd
open Go.Proofs Go.AM.F
structure RkS (A:List Th) (K0 K:AHeap) (c lb b:Nat) (vb vo:Value) (inn:Int) (vl:Value) (D:Dk) (L:Lg):Prop where
 u:Upd A (thB c (rkC lb)::(rlT lb b vl L++ekT b vb vo inn D)) K0 K
 ok:D.ok
 i:∀n,D.ar=some n→inn=(n:Nat)
 n3:3≤D.bl.length
 lok:L.ok
section
variable {A:List Th} {K0 K:AHeap} {c lb b:Nat} {vb vo vl:Value} {inn:Int} {D:Dk} {L:Lg}
theorem RkS.rl(h:RkS A K0 K c lb b vb vo inn vl D L):RlR K lb b vb vo inn vl D L:=⟨Sep.right (A:=[thB c (rkC lb)]) h.u.sep,h.ok,h.i,h.n3,h.lok⟩
theorem RkS.gc(h:RkS A K0 K c lb b vb vo inn vl D L):K.get c=some (rkC lb):=h.u.sep.get 0 rfl
theorem RkS.cf(h:RkS A K0 K c lb b vb vo inn vl D L):c∉fp (rlT lb b vl L++ekT b vb vo inn D):=fun hz=>by
 obtain⟨x,hx,h1⟩:=mem_fp.1 hz
 exact(List.pairwise_cons.1 h.u.sep.ap).1 x hx c (by simp[thB]) h1
theorem RkS.save(h:RkS A K0 K c lb b vb vo inn vl D L)(hs:D.st<999990)(hm:D.op.length<999990)(hT:L.turn<8999999999999999999)(hF:L.next≤9000000000000000000){l:List UInt8}(hl:l.length≤1000000):∃w K',ARun Go.Proofs.Tryz.prog 0 46 [ptr c 0,.string ⟨l.toArray⟩] K w K'∧w=.int .i64 (saveW D L l).2.2 ∧∃vo' inn' vl',RkS A K0 K' c lb b vb vo' inn' vl' (saveW D L l).1 (saveW D L l).2.1 :=by
 obtain⟨w,K',r,rfl,vo',inn',vl',h2,u2⟩:=t46 h.rl h.gc hs hm hT hF hl h.cf
 exact⟨_,K',r,rfl,vo',inn',vl',h.u.trans (u2.extR (A:=[thB c (rkC lb)]) h.u.sep),h2.ok,h2.i,h2.n3,h2.lok⟩
theorem RkS.check(h:RkS A K0 K c lb b vb vo inn vl D L)(hs:D.st<999999)(hm:D.op.length<999999)(hT:L.turn<8999999999999999999)(hF:L.next≤9000000000000000000):∃w K',ARun Go.Proofs.Tryz.prog 0 44 [ptr c 0] K w K'∧w=.int .i64 (checkW D L).2.2 ∧∃vo' inn' vl',RkS A K0 K' c lb b vb vo' inn' vl' (checkW D L).1 (checkW D L).2.1 :=by
 obtain⟨w,K',r,rfl,vo',inn',vl',h2,u2⟩:=t44 h.rl h.gc hs hm hT hF
 exact⟨_,K',r,rfl,vo',inn',vl',h.u.trans (u2.extR (A:=[thB c (rkC lb)]) h.u.sep),h2.ok,h2.i,h2.n3,h2.lok⟩
end
end Go.AM.Fd

set_option linter.unusedSimpArgs false
set_option linter.unusedVariables false
namespace Go.AM.Fd
open Go.Proofs Go.AM.F
abbrev cT(c lb b sb:Nat)(v:Value)(ab:Option Nat)(rv:Value)(items:List (Value×List UInt8))(D:Dk)(L:Lg):List Th:=thB c (ckC lb)::(lgT lb b rv items L++dkT b sb v ab D)
abbrev kT(d le e:Nat)(vb vo:Value)(inn:Int)(vl:Value)(D:Dk)(L:Lg):List Th:=thB d (rkC le)::(rlT le e vl L++ekT e vb vo inn D)
section
variable {A:List Th} {H K:AHeap} {c lb b sb d le e:Nat} {v rv vb vo vl:Value} {ab:Option Nat} {items:List (Value×List UInt8)} {inn:Int} {D:Dk} {L:Lg}
theorem truncW_bl{D:Dk}{L:Lg}{m:Nat}{lo:Lg}(h1:L.turn≤4611686018427387904+m∧L.next≤4611686018427392000+m)(k:Int):(truncW D L k).2.1.turn≤4611686018427387904+(m+1)∧(truncW D L k).2.1.next≤4611686018427392000+(m+1):=by
 obtain⟨h1,h2⟩:=h1
 unfold truncW
 split
 ·exact⟨by simp only;omega,by simp only;omega⟩
 ·split
  ·exact⟨by simp only;omega,by simp only;omega⟩
  ·rename_i hr
   simp only[not_or,Int.not_lt]at hr
   have hn:L.next=L.first+L.rs.length:=rfl
   split
   ·simp only[Lg.next,List.length_drop]
    omega
   ·simp only[Lg.next]
    omega
theorem appW_bl{D:Dk}{L:Lg}{m:Nat}(h1:L.turn≤4611686018427387904+m∧L.next≤4611686018427392000+m)(l:List UInt8):(appW D L l).2.1.turn≤4611686018427387904+(m+1)∧(appW D L l).2.1.next≤4611686018427392000+(m+1):=by
 obtain⟨h1,h2⟩:=h1
 unfold appW
 split
 ·exact⟨by simp only;omega,by simp only;omega⟩
 ·split
  ·exact⟨by simp only;omega,by simp only;omega⟩
  ·split
   ·exact⟨by simp only;omega,by simp only;omega⟩
   ·have hn:L.next=L.first+L.rs.length:=rfl
    split
    ·simp only[Lg.next,List.length_append,List.length_cons,List.length_nil]
     omega
    ·simp only[Lg.next]
     omega
theorem appW_b(D:Dk)(L:Lg)(l:List UInt8):(appW D L l).1.st≤D.st+2∧(appW D L l).1.op.length≤D.op.length+1:=by
 unfold appW
 split
 ·exact⟨by simp,by simp⟩
 ·split
  ·exact⟨by simp,by simp⟩
  ·split
   ·exact⟨by simp,by simp⟩
   ·exact wlD_b _ _ _
structure Bnd4 (D:Dk) (lo:Option Lg) (m:Nat):Prop where
 s:D.st≤4*m
 o:D.op.length≤4*m
 l:∀L,lo=some L→L.turn≤4611686018427387904+2*m∧L.next≤4611686018427392000+2*m
theorem saveW_bl{D:Dk}{L:Lg}{m:Nat}(h:Bnd4 D (some L) m)(l:List UInt8):Bnd4 (saveW D L l).1 (some (saveW D L l).2.1) (m+1):=by
 obtain⟨hs,ho,hl⟩:=h
 have h1:=hl L rfl
 have t1:=truncW_b D L (((L.next:Nat):Int)-1)
 have t2:=truncW_bl (D:=D) (lo:=L) h1 (((L.next:Nat):Int)-1)
 have a1:=appW_b D L l
 have a2:=appW_bl (D:=D) h1 l
 have b1:=appW_b (truncW D L (((L.next:Nat):Int)-1)).1 (truncW D L (((L.next:Nat):Int)-1)).2.1 l
 have b2:=appW_bl (D:=(truncW D L (((L.next:Nat):Int)-1)).1) t2 l
 unfold saveW
 split
 ·exact⟨by simp only;omega,by simp only;omega,fun L' hL=>by cases hL;exact⟨Nat.le_trans (by first|exact h1.1|exact t2.1|exact a2.1|exact b2.1) (by omega),Nat.le_trans (by first|exact h1.2|exact t2.2|exact a2.2|exact b2.2) (by omega)⟩⟩
 ·split
  ·exact⟨by simp only;omega,by simp only;omega,fun L' hL=>by cases hL;exact⟨Nat.le_trans (by first|exact h1.1|exact t2.1|exact a2.1|exact b2.1) (by omega),Nat.le_trans (by first|exact h1.2|exact t2.2|exact a2.2|exact b2.2) (by omega)⟩⟩
  ·split
   ·split
    ·exact⟨by omega,by omega,fun L' hL=>by cases hL;exact⟨Nat.le_trans (by first|exact h1.1|exact t2.1|exact a2.1|exact b2.1) (by omega),Nat.le_trans (by first|exact h1.2|exact t2.2|exact a2.2|exact b2.2) (by omega)⟩⟩
    ·exact⟨by omega,by omega,fun L' hL=>by cases hL;exact⟨Nat.le_trans (by first|exact h1.1|exact t2.1|exact a2.1|exact b2.1) (by omega),Nat.le_trans (by first|exact h1.2|exact t2.2|exact a2.2|exact b2.2) (by omega)⟩⟩
   ·exact⟨by omega,by omega,fun L' hL=>by cases hL;exact⟨Nat.le_trans (by first|exact h1.1|exact t2.1|exact a2.1|exact b2.1) (by omega),Nat.le_trans (by first|exact h1.2|exact t2.2|exact a2.2|exact b2.2) (by omega)⟩⟩
theorem checkW_bl{D:Dk}{L:Lg}{m:Nat}(h:Bnd4 D (some L) m):Bnd4 (checkW D L).1 (some (checkW D L).2.1) (m+1):=by
 obtain⟨hs,ho,hl⟩:=h
 have h1:=hl L rfl
 have t1:=truncW_b D L (((L.next:Nat):Int)-1)
 have t2:=truncW_bl (D:=D) (lo:=L) h1 (((L.next:Nat):Int)-1)
 unfold checkW
 split
 ·exact⟨by omega,by omega,fun L' hL=>by cases hL;exact⟨Nat.le_trans (by first|exact h1.1|exact t2.1|exact a2.1|exact b2.1) (by omega),Nat.le_trans (by first|exact h1.2|exact t2.2|exact a2.2|exact b2.2) (by omega)⟩⟩
 ·exact⟨by simp only;omega,by simp only;omega,fun L' hL=>by cases hL;exact⟨Nat.le_trans (by first|exact h1.1|exact t2.1|exact a2.1|exact b2.1) (by omega),Nat.le_trans (by first|exact h1.2|exact t2.2|exact a2.2|exact b2.2) (by omega)⟩⟩
theorem openW_b4{D:Dk}(h:D.ok){m:Nat}(hs:D.st≤4*m)(ho:D.op.length≤4*m)(hs2:D.st<999999)(ho2:D.op.length<999999):Bnd4 (openW D).1 (openW D).2.1 (m+1):=by
 obtain⟨a,b⟩:∃m2,D.st≤3*m2+1∧D.op.length≤3*m2+1∧3*(m2+1)≤4*(m+1)∧m2+1≤2*(m+1):=⟨(4*m+1) / 3,by omega,by omega,by omega,by omega⟩
 obtain⟨s,o,l⟩:=openW_b h b.1 b.2.1 hs2 ho2
 exact⟨by omega,by omega,fun L hL=>by have:=l L hL;omega⟩
end
end Go.AM.Fd

set_option maxRecDepth 100000
set_option maxHeartbeats 0
namespace Go.AM.F
def Z70Q:List Value:=[(.int .i64 0),(.int .i64 0),(.int .u64 0),(.int .u64 0),(.int .u64 0)]++List.replicate 64 (.int .u8 0)++[(.int .u32 0)]
def Z68Q:List Value:=[(.int .u64 0),(.int .u64 0),(.int .u64 0)]++List.replicate 64 (.int .u8 0)++[(.int .u32 0)]
def zclQ:TypeId→List Value
 |162=>Z70Q
 |94=>Z70Q
 |89=>Z68Q
 |210=>[(.slice none 0 0)]
 |_=>[]
def zvlQ:TypeId→Value
 |162=>(.agg Z70Q.toArray)
 |_=>undef
def zklQ:TypeId→List Nat
 |_=>[]
def zrlQ:Nat→TypeId→List Value
 |1,5=>[(.int .u8 0)]
 |2,2=>[(.int .i64 0),(.int .i64 0)]
 |_,_=>[]
noncomputable def f104:AFunc:=by
 refine(fun(_:Cz zclQ zvlQ zklQ zrlQ Go.Proofs.Tryz.prog 0 [0,2,3,4,5] 104 ?a)=>?a) ?h
 case h=>
 intro zc zv zk zr hc hv hk hr
 conv=>lhs;cbv;try simp only[hc,hv,hk,hr,zclQ,zvlQ,zklQ,zrlQ]
theorem f104_ok:compF Go.Proofs.Tryz.prog 0 [0,2,3,4,5] 104=some f104:=by kernel_rfl
theorem f104_n:argsOK Go.Proofs.Tryz.prog 104 1=true:=by kernel_rfl
noncomputable def f105:AFunc:=by
 refine(fun(_:Cz zclQ zvlQ zklQ zrlQ Go.Proofs.Tryz.prog 0 [0,2,3,4,24] 105 ?a)=>?a) ?h
 case h=>
 intro zc zv zk zr hc hv hk hr
 conv=>lhs;cbv;try simp only[hc,hv,hk,hr,zclQ,zvlQ,zklQ,zrlQ]
theorem f105_ok:compF Go.Proofs.Tryz.prog 0 [0,2,3,4,24] 105=some f105:=by kernel_rfl
theorem f105_n:argsOK Go.Proofs.Tryz.prog 105 1=true:=by kernel_rfl
noncomputable def f106:AFunc:=by
 refine(fun(_:Cz zclQ zvlQ zklQ zrlQ Go.Proofs.Tryz.prog 0 [0,2,3,4,5,7] 106 ?a)=>?a) ?h
 case h=>
 intro zc zv zk zr hc hv hk hr
 conv=>lhs;cbv;try simp only[hc,hv,hk,hr,zclQ,zvlQ,zklQ,zrlQ]
theorem f106_ok:compF Go.Proofs.Tryz.prog 0 [0,2,3,4,5,7] 106=some f106:=by kernel_rfl
theorem f106_n:argsOK Go.Proofs.Tryz.prog 106 1=true:=by kernel_rfl
noncomputable def f107:AFunc:=by
 refine(fun(_:Cz zclQ zvlQ zklQ zrlQ Go.Proofs.Tryz.prog 0 [0,1,2] 107 ?a)=>?a) ?h
 case h=>
 intro zc zv zk zr hc hv hk hr
 conv=>lhs;cbv;try simp only[hc,hv,hk,hr,zclQ,zvlQ,zklQ,zrlQ]
theorem f107_ok:compF Go.Proofs.Tryz.prog 0 [0,1,2] 107=some f107:=by kernel_rfl
theorem f107_n:argsOK Go.Proofs.Tryz.prog 107 1=true:=by kernel_rfl
noncomputable def f108:AFunc:=by
 refine(fun(_:Cz zclQ zvlQ zklQ zrlQ Go.Proofs.Tryz.prog 0 [0,2] 108 ?a)=>?a) ?h
 case h=>
 intro zc zv zk zr hc hv hk hr
 conv=>lhs;cbv;try simp only[hc,hv,hk,hr,zclQ,zvlQ,zklQ,zrlQ]
theorem f108_ok:compF Go.Proofs.Tryz.prog 0 [0,2] 108=some f108:=by kernel_rfl
theorem f108_n:argsOK Go.Proofs.Tryz.prog 108 1=true:=by kernel_rfl
noncomputable def f109:AFunc:=by
 refine(fun(_:Cz zclQ zvlQ zklQ zrlQ Go.Proofs.Tryz.prog 0 [0,1,2,3,13] 109 ?a)=>?a) ?h
 case h=>
 intro zc zv zk zr hc hv hk hr
 conv=>lhs;cbv;try simp only[hc,hv,hk,hr,zclQ,zvlQ,zklQ,zrlQ]
theorem f109_ok:compF Go.Proofs.Tryz.prog 0 [0,1,2,3,13] 109=some f109:=by kernel_rfl
theorem f109_n:argsOK Go.Proofs.Tryz.prog 109 1=true:=by kernel_rfl
noncomputable def f128:AFunc:=by
 refine(fun(_:Cz zclQ zvlQ zklQ zrlQ Go.Proofs.Tryz.prog 0 [0,1,4,5,6,16] 128 ?a)=>?a) ?h
 case h=>
 intro zc zv zk zr hc hv hk hr
 conv=>lhs;cbv;try simp only[hc,hv,hk,hr,zclQ,zvlQ,zklQ,zrlQ]
theorem f128_ok:compF Go.Proofs.Tryz.prog 0 [0,1,4,5,6,16] 128=some f128:=by kernel_rfl
theorem f128_n:argsOK Go.Proofs.Tryz.prog 128 2=true:=by kernel_rfl
noncomputable def f129:AFunc:=by
 refine(fun(_:Cz zclQ zvlQ zklQ zrlQ Go.Proofs.Tryz.prog 0 [0,1,2,5,6,7,8,25] 129 ?a)=>?a) ?h
 case h=>
 intro zc zv zk zr hc hv hk hr
 conv=>lhs;cbv;try simp only[hc,hv,hk,hr,zclQ,zvlQ,zklQ,zrlQ]
theorem f129_ok:compF Go.Proofs.Tryz.prog 0 [0,1,2,5,6,7,8,25] 129=some f129:=by kernel_rfl
theorem f129_n:argsOK Go.Proofs.Tryz.prog 129 3=true:=by kernel_rfl
noncomputable def f130:AFunc:=by
 refine(fun(_:Cz zclQ zvlQ zklQ zrlQ Go.Proofs.Tryz.prog 0 [0,2,3] 130 ?a)=>?a) ?h
 case h=>
 intro zc zv zk zr hc hv hk hr
 conv=>lhs;cbv;try simp only[hc,hv,hk,hr,zclQ,zvlQ,zklQ,zrlQ]
theorem f130_ok:compF Go.Proofs.Tryz.prog 0 [0,2,3] 130=some f130:=by kernel_rfl
theorem f130_n:argsOK Go.Proofs.Tryz.prog 130 1=true:=by kernel_rfl
noncomputable def f131:AFunc:=by
 refine(fun(_:Cz zclQ zvlQ zklQ zrlQ Go.Proofs.Tryz.prog 0 [0,1,2,6,12] 131 ?a)=>?a) ?h
 case h=>
 intro zc zv zk zr hc hv hk hr
 conv=>lhs;cbv;try simp only[hc,hv,hk,hr,zclQ,zvlQ,zklQ,zrlQ]
theorem f131_ok:compF Go.Proofs.Tryz.prog 0 [0,1,2,6,12] 131=some f131:=by kernel_rfl
theorem f131_n:argsOK Go.Proofs.Tryz.prog 131 3=true:=by kernel_rfl
noncomputable def f132:AFunc:=by
 refine(fun(_:Cz zclQ zvlQ zklQ zrlQ Go.Proofs.Tryz.prog 0 [0,1,4,5,6,25] 132 ?a)=>?a) ?h
 case h=>
 intro zc zv zk zr hc hv hk hr
 conv=>lhs;cbv;try simp only[hc,hv,hk,hr,zclQ,zvlQ,zklQ,zrlQ]
theorem f132_ok:compF Go.Proofs.Tryz.prog 0 [0,1,4,5,6,25] 132=some f132:=by kernel_rfl
theorem f132_n:argsOK Go.Proofs.Tryz.prog 132 2=true:=by kernel_rfl
noncomputable def f133:AFunc:=by
 refine(fun(_:Cz zclQ zvlQ zklQ zrlQ Go.Proofs.Tryz.prog 0 [0,1,2,6,7,10] 133 ?a)=>?a) ?h
 case h=>
 intro zc zv zk zr hc hv hk hr
 conv=>lhs;cbv;try simp only[hc,hv,hk,hr,zclQ,zvlQ,zklQ,zrlQ]
theorem f133_ok:compF Go.Proofs.Tryz.prog 0 [0,1,2,6,7,10] 133=some f133:=by kernel_rfl
theorem f133_n:argsOK Go.Proofs.Tryz.prog 133 3=true:=by kernel_rfl
noncomputable def f134:AFunc:=by
 refine(fun(_:Cz zclQ zvlQ zklQ zrlQ Go.Proofs.Tryz.prog 0 [0,1] 134 ?a)=>?a) ?h
 case h=>
 intro zc zv zk zr hc hv hk hr
 conv=>lhs;cbv;try simp only[hc,hv,hk,hr,zclQ,zvlQ,zklQ,zrlQ]
theorem f134_ok:compF Go.Proofs.Tryz.prog 0 [0,1] 134=some f134:=by kernel_rfl
theorem f134_n:argsOK Go.Proofs.Tryz.prog 134 2=true:=by kernel_rfl
noncomputable def f135:AFunc:=by
 refine(fun(_:Cz zclQ zvlQ zklQ zrlQ Go.Proofs.Tryz.prog 0 [0,1,5,6,7,8,9] 135 ?a)=>?a) ?h
 case h=>
 intro zc zv zk zr hc hv hk hr
 conv=>lhs;cbv;try simp only[hc,hv,hk,hr,zclQ,zvlQ,zklQ,zrlQ]
theorem f135_ok:compF Go.Proofs.Tryz.prog 0 [0,1,5,6,7,8,9] 135=some f135:=by kernel_rfl
theorem f135_n:argsOK Go.Proofs.Tryz.prog 135 2=true:=by kernel_rfl
noncomputable def f136:AFunc:=by
 refine(fun(_:Cz zclQ zvlQ zklQ zrlQ Go.Proofs.Tryz.prog 0 [0,1,3] 136 ?a)=>?a) ?h
 case h=>
 intro zc zv zk zr hc hv hk hr
 conv=>lhs;cbv;try simp only[hc,hv,hk,hr,zclQ,zvlQ,zklQ,zrlQ]
theorem f136_ok:compF Go.Proofs.Tryz.prog 0 [0,1,3] 136=some f136:=by kernel_rfl
theorem f136_n:argsOK Go.Proofs.Tryz.prog 136 2=true:=by kernel_rfl
noncomputable def f137:AFunc:=by
 refine(fun(_:Cz zclQ zvlQ zklQ zrlQ Go.Proofs.Tryz.prog 0 [0,2] 137 ?a)=>?a) ?h
 case h=>
 intro zc zv zk zr hc hv hk hr
 conv=>lhs;cbv;try simp only[hc,hv,hk,hr,zclQ,zvlQ,zklQ,zrlQ]
theorem f137_ok:compF Go.Proofs.Tryz.prog 0 [0,2] 137=some f137:=by kernel_rfl
theorem f137_n:argsOK Go.Proofs.Tryz.prog 137 1=true:=by kernel_rfl
noncomputable def f138:AFunc:=by
 refine(fun(_:Cz zclQ zvlQ zklQ zrlQ Go.Proofs.Tryz.prog 0 [0,1,4] 138 ?a)=>?a) ?h
 case h=>
 intro zc zv zk zr hc hv hk hr
 conv=>lhs;cbv;try simp only[hc,hv,hk,hr,zclQ,zvlQ,zklQ,zrlQ]
theorem f138_ok:compF Go.Proofs.Tryz.prog 0 [0,1,4] 138=some f138:=by kernel_rfl
theorem f138_n:argsOK Go.Proofs.Tryz.prog 138 2=true:=by kernel_rfl
noncomputable def f139:AFunc:=by
 refine(fun(_:Cz zclQ zvlQ zklQ zrlQ Go.Proofs.Tryz.prog 0 [0,2] 139 ?a)=>?a) ?h
 case h=>
 intro zc zv zk zr hc hv hk hr
 conv=>lhs;cbv;try simp only[hc,hv,hk,hr,zclQ,zvlQ,zklQ,zrlQ]
theorem f139_ok:compF Go.Proofs.Tryz.prog 0 [0,2] 139=some f139:=by kernel_rfl
theorem f139_n:argsOK Go.Proofs.Tryz.prog 139 1=true:=by kernel_rfl
noncomputable def f140:AFunc:=by
 refine(fun(_:Cz zclQ zvlQ zklQ zrlQ Go.Proofs.Tryz.prog 0 [0,1,2,3,4,19] 140 ?a)=>?a) ?h
 case h=>
 intro zc zv zk zr hc hv hk hr
 conv=>lhs;cbv;try simp only[hc,hv,hk,hr,zclQ,zvlQ,zklQ,zrlQ]
theorem f140_ok:compF Go.Proofs.Tryz.prog 0 [0,1,2,3,4,19] 140=some f140:=by kernel_rfl
theorem f140_n:argsOK Go.Proofs.Tryz.prog 140 1=true:=by kernel_rfl
end Go.AM.F

set_option maxRecDepth 100000
set_option maxHeartbeats 0
namespace Go.AM.F
def Z70R:List Value:=[(.int .i64 0),(.int .i64 0),(.int .u64 0),(.int .u64 0),(.int .u64 0)]++List.replicate 64 (.int .u8 0)++[(.int .u32 0)]
def zclR:TypeId→List Value
 |235=>[(.int .u8 0),(.int .i64 0),(.int .u64 0),(.int .u32 0),(.int .u32 0),(.slice none 0 0)]
 |245=>[(.int .u8 0),(.int .i64 0),(.int .i64 0),(.int .u64 0),(.int .u32 0)]
 |162=>Z70R
 |248=>[(.int .u8 0),(.int .u8 0),(.int .i64 0),(.int .i64 0),(.slice none 0 0)]
 |_=>[]
def zvlR:TypeId→Value
 |235=>(.agg #[(.int .u8 0),(.int .i64 0),(.int .u64 0),(.int .u32 0),(.int .u32 0),(.slice none 0 0)])
 |245=>(.agg #[(.int .u8 0),(.int .i64 0),(.int .i64 0),(.int .u64 0),(.int .u32 0)])
 |162=>(.agg Z70R.toArray)
 |248=>(.agg #[(.int .u8 0),(.int .u8 0),(.int .i64 0),(.int .i64 0),(.slice none 0 0)])
 |_=>undef
def zklR:TypeId→List Nat
 |_=>[]
def zrlR:Nat→TypeId→List Value
 |1,2=>[(.int .i64 0)]
 |2,2=>[(.int .i64 0),(.int .i64 0)]
 |_,_=>[]
noncomputable def f161:AFunc:=by
 refine(fun(_:Cz zclR zvlR zklR zrlR Go.Proofs.Tryz.prog 0 [0,2,3,4,5,6,7,8,9,10,16,40,52] 161 ?a)=>?a) ?h
 case h=>
 intro zc zv zk zr hc hv hk hr
 conv=>lhs;cbv;try simp only[hc,hv,hk,hr,zclR,zvlR,zklR,zrlR]
theorem f161_ok:compF Go.Proofs.Tryz.prog 0 [0,2,3,4,5,6,7,8,9,10,16,40,52] 161=some f161:=by kernel_rfl
theorem f161_n:argsOK Go.Proofs.Tryz.prog 161 1=true:=by kernel_rfl
noncomputable def f169:AFunc:=by
 refine(fun(_:Cz zclR zvlR zklR zrlR Go.Proofs.Tryz.prog 0 [0,2] 169 ?a)=>?a) ?h
 case h=>
 intro zc zv zk zr hc hv hk hr
 conv=>lhs;cbv;try simp only[hc,hv,hk,hr,zclR,zvlR,zklR,zrlR]
theorem f169_ok:compF Go.Proofs.Tryz.prog 0 [0,2] 169=some f169:=by kernel_rfl
theorem f169_n:argsOK Go.Proofs.Tryz.prog 169 1=true:=by kernel_rfl
noncomputable def f173:AFunc:=by
 refine(fun(_:Cz zclR zvlR zklR zrlR Go.Proofs.Tryz.prog 0 [0,1,4] 173 ?a)=>?a) ?h
 case h=>
 intro zc zv zk zr hc hv hk hr
 conv=>lhs;cbv;try simp only[hc,hv,hk,hr,zclR,zvlR,zklR,zrlR]
theorem f173_ok:compF Go.Proofs.Tryz.prog 0 [0,1,4] 173=some f173:=by kernel_rfl
theorem f173_n:argsOK Go.Proofs.Tryz.prog 173 2=true:=by kernel_rfl
noncomputable def f174:AFunc:=by
 refine(fun(_:Cz zclR zvlR zklR zrlR Go.Proofs.Tryz.prog 0 [0,2] 174 ?a)=>?a) ?h
 case h=>
 intro zc zv zk zr hc hv hk hr
 conv=>lhs;cbv;try simp only[hc,hv,hk,hr,zclR,zvlR,zklR,zrlR]
theorem f174_ok:compF Go.Proofs.Tryz.prog 0 [0,2] 174=some f174:=by kernel_rfl
theorem f174_n:argsOK Go.Proofs.Tryz.prog 174 1=true:=by kernel_rfl
noncomputable def f176:AFunc:=by
 refine(fun(_:Cz zclR zvlR zklR zrlR Go.Proofs.Tryz.prog 0 [0,1,4,5,7,8,9,16] 176 ?a)=>?a) ?h
 case h=>
 intro zc zv zk zr hc hv hk hr
 conv=>lhs;cbv;try simp only[hc,hv,hk,hr,zclR,zvlR,zklR,zrlR]
theorem f176_ok:compF Go.Proofs.Tryz.prog 0 [0,1,4,5,7,8,9,16] 176=some f176:=by kernel_rfl
theorem f176_n:argsOK Go.Proofs.Tryz.prog 176 2=true:=by kernel_rfl
end Go.AM.F

set_option linter.unusedSimpArgs false
set_option linter.unusedVariables false
namespace Go.AM.Fd
open Go.Proofs Go.AM.F
def val:List UInt8→Nat
 |[]=>0
 |c::l=>c.toNat*256 ^ l.length+val l
theorem val_lt:∀l,val l<256 ^ l.length
 |[]=>by simp[val]
 |c::l=>by
  have h1:=val_lt l
  have h2:=c.toNat_lt
  have h3:c.toNat*256 ^ l.length≤255*256 ^ l.length:=Nat.mul_le_mul_right _ (by omega)
  simp only[val,List.length_cons,Nat.pow_succ]
  omega
theorem fold_val:∀(l:List UInt8) (a:Nat),(a+1)*256 ^ l.length≤18446744073709551616→l.foldl (fun n b=>(n*256+b.toNat) % 18446744073709551616) a=a*256 ^ l.length+val l
 |[],a,h=>by simp[val]
 |c::l,a,h=>by
  have h2:=c.toNat_lt
  have hp:0<256 ^ l.length:=Nat.pow_pos (by omega)
  rw[List.length_cons,Nat.pow_succ,Nat.mul_comm (256 ^ l.length),←Nat.mul_assoc]at h
  have h3:(a*256+c.toNat+1)*256 ^ l.length≤(a+1)*256*256 ^ l.length:=Nat.mul_le_mul_right _ (by omega)
  have h4:(a*256+c.toNat+1)*1≤(a*256+c.toNat+1)*256 ^ l.length:=Nat.mul_le_mul_left _ hp
  rw[List.foldl_cons,Nat.mod_eq_of_lt (by omega),fold_val l _ (by omega)]
  simp only[val,List.length_cons,Nat.pow_succ]
  rw[Nat.add_mul,Nat.mul_assoc a,Nat.mul_comm 256]
  omega
theorem num_val{l:List UInt8}(h:l.length≤8):num l=val l:=by
 unfold num
 rw[fold_val l 0 ?_]
 ·omega
 ·have:256 ^ l.length≤256 ^ 8:=Nat.pow_le_pow_right (by omega) h
  have e:(256:Nat) ^ 8=18446744073709551616:=by decide
  omega
theorem val_be:∀w n,val (be w n)=n % 256 ^ w
 |0,n=>by simp[be,val,Nat.mod_one]
 |w+1,n=>by
  have e1:n % 256 ^ (w+1)=(n / 256 ^ w % 256)*256 ^ w+n % 256 ^ w:=by
   rw[Nat.pow_succ,Nat.mod_mul,Nat.mul_comm (256 ^ w),Nat.add_comm]
  have e3:(UInt8.ofNat (n / 256 ^ w)).toNat=n / 256 ^ w % 256:=by simp
  rw[be,val,be_length,val_be w,e3,e1]
theorem be_val:∀l:List UInt8,be l.length (val l)=l
 |[]=>rfl
 |c::l=>by
  have h:=val_lt l
  have hp:0<256 ^ l.length:=Nat.pow_pos (by omega)
  rw[List.length_cons,be,val]
  have e1:(c.toNat*256 ^ l.length+val l) / 256 ^ l.length=c.toNat:=by
   rw[Nat.add_comm,Nat.add_mul_div_right _ _ hp,Nat.div_eq_of_lt h,Nat.zero_add]
  have e2:be l.length (c.toNat*256 ^ l.length+val l)=be l.length (val l):=by
   rw[←be_mod _ (c.toNat*256 ^ l.length+val l) l.length (Nat.le_refl _),Nat.add_comm,Nat.add_mul_mod_self_right,Nat.mod_eq_of_lt h]
  rw[e1,e2,be_val l]
  simp
theorem num_be(w n:Nat)(h:w≤8):num (be w n)=n % 256 ^ w:=by rw[num_val (by rw[be_length];exact h),val_be]
theorem be_num(l:List UInt8)(h:l.length≤8):be l.length (num l)=l:=by rw[num_val h,be_val]
def seg(l:List UInt8)(s w:Nat):List UInt8:=if l.length<s+w then[]else(l.drop s).take w
def na(l:List UInt8)(s w:Nat):Nat:=num (seg l s w)
theorem na_lt(l:List UInt8)(s w:Nat):na l s w<256 ^ w:=by
 unfold na
 have h1:=num_lt' (seg l s w)
 have h2:(seg l s w).length≤w:=by
  unfold seg
  split
  ·simp
  ·rw[List.length_take];omega
 exact Nat.lt_of_lt_of_le h1 (Nat.pow_le_pow_right (by omega) h2)
theorem na1(l:List UInt8)(s:Nat):na l s 1<256:=na_lt l s 1
theorem na4(l:List UInt8)(s:Nat):na l s 4<4294967296:=na_lt l s 4
theorem na8(l:List UInt8)(s:Nat):na l s 8<18446744073709551616:=na_lt l s 8
theorem be_na{l:List UInt8}{s w:Nat}(h:s+w≤l.length)(hw:w≤8):be w (na l s w)=(l.drop s).take w:=by
 unfold na seg
 rw[if_neg (by omega)]
 have hl:((l.drop s).take w).length=w:=by rw[List.length_take,List.length_drop];omega
 have:=be_num ((l.drop s).take w) (by omega)
 rw[hl]at this
 exact this
theorem seg_in{l:List UInt8}{s w:Nat}(h:s+w≤l.length):seg l s w=(l.drop s).take w:=by unfold seg;rw[if_neg (by omega)]
theorem seg_app(p q:List UInt8){s w:Nat}(h:p.length≤s):seg (p++q) s w=seg q (s-p.length) w:=by
 unfold seg
 rw[List.length_append,List.drop_append,List.drop_of_length_le h,List.nil_append]
 by_cases h1:p.length+q.length<s+w
 ·rw[if_pos h1,if_pos (by omega)]
 ·rw[if_neg h1,if_neg (by omega)]
theorem seg_left(p q:List UInt8){s w:Nat}(h:s+w≤p.length):seg (p++q) s w=seg p s w:=by
 unfold seg
 rw[List.length_append,if_neg (by omega),if_neg (by omega),List.drop_append,List.take_append_of_le_length (by rw[List.length_drop];omega)]
theorem na_be(k n:Nat)(q:List UInt8){s w:Nat}(h:k≤s):na (be k n++q) s w=na q (s-k) w:=by
 unfold na
 rw[seg_app _ _ (by rw[be_length];exact h),be_length]
theorem na_app(p q:List UInt8){k s w:Nat}(hp:p.length=k)(h:k≤s):na (p++q) s w=na q (s-k) w:=by
 unfold na
 rw[seg_app _ _ (by omega),hp]
theorem na_0(n:Nat)(q:List UInt8){w:Nat}(hw:w≤8)(hn:n<256 ^ w):na (be w n++q) 0 w=n:=by
 unfold na
 rw[seg_left _ _ (by rw[be_length];omega),seg_in (by rw[be_length];omega),List.drop_zero,List.take_of_length_le (by rw[be_length];omega),num_be w n hw,Nat.mod_eq_of_lt hn]
theorem na_z(n:Nat){w:Nat}(hw:w≤8)(hn:n<256 ^ w):na (be w n) 0 w=n:=by
 have:=na_0 n [] hw hn
 rwa [List.append_nil]at this
theorem td(l:List UInt8){s w t:Nat}(h:t=s+w):(l.drop s).take w++l.drop t=l.drop s:=by
 subst h
 rw[←List.drop_drop,List.take_append_drop]
def chk(l:List UInt8):List UInt8:=l++be 4 (crc l)
def bd(b:List UInt8):List UInt8:=(b.drop 1).take (b.length-5)
def frm(k:Nat)(b:List UInt8):Bool:=decide (5≤b.length)&&(b[0]? ==some (UInt8.ofNat k)&&num (b.drop (b.length-4))==crc (b.take (b.length-4)))
theorem bd_len(b:List UInt8):(bd b).length=b.length-5:=by unfold bd;rw[List.length_take,List.length_drop];omega
theorem chk_len(l:List UInt8):(chk l).length=l.length+4:=by simp[chk,be_length]
theorem bd_chk(k:UInt8)(l:List UInt8):bd (chk (k::l))=l:=by
 unfold bd
 rw[chk_len,chk,List.cons_append,List.drop_one,List.tail_cons,List.length_cons,show l.length+1+4-5=l.length by omega,List.take_left]
theorem frm_len{k:Nat}{b:List UInt8}(h:frm k b=true):5≤b.length:=by
 simp only[frm,Bool.and_eq_true,decide_eq_true_eq]at h;exact h.1
theorem frm_eq{k:Nat}{b:List UInt8}(h:frm k b=true):b=chk (UInt8.ofNat k::bd b):=by
 simp only[frm,Bool.and_eq_true,decide_eq_true_eq,beq_iff_eq]at h
 obtain⟨h1,h2,h3⟩:=h
 cases b with
 |nil=>simp at h1
 |cons c b=>
  simp only[List.getElem?_cons_zero,Option.some.injEq]at h2
  subst h2
  have e1:(UInt8.ofNat k::bd (UInt8.ofNat k::b))=(UInt8.ofNat k::b).take ((UInt8.ofNat k::b).length - 4):=by
   unfold bd
   rw[List.drop_one,List.tail_cons,List.length_cons]
   rw[List.length_cons]at h1
   rw[show b.length+1-4=(b.length+1-5)+1 by omega,List.take_succ_cons]
  rw[e1]
  unfold chk
  rw[←h3]
  generalize hx:UInt8.ofNat k::b=x at*
  have hl:(x.drop (x.length-4)).length=4:=by rw[List.length_drop];omega
  have:=be_num (x.drop (x.length-4)) (by omega)
  rw[hl]at this
  rw[this,List.take_append_drop]
theorem frm_chk{k:Nat}(l:List UInt8):frm k (chk (UInt8.ofNat k::l))=true:=by
 have hl:=chk_len (UInt8.ofNat k::l)
 rw[List.length_cons]at hl
 simp only[frm,Bool.and_eq_true,decide_eq_true_eq,beq_iff_eq]
 refine⟨by omega,by simp[chk],?_⟩
 rw[hl,show l.length+1+4-4=(UInt8.ofNat k::l).length by simp]
 unfold chk
 rw[List.drop_left,List.take_left,num_be 4 _ (by omega),Nat.mod_eq_of_lt (crc_lt _)]
theorem na_bd{b:List UInt8}{s w:Nat}(h:s+w+5≤b.length):na b (s+1) w=na (bd b) s w:=by
 unfold na
 rw[seg_in (by omega),seg_in (by rw[bd_len];omega)]
 unfold bd
 rw[List.drop_take,List.take_take,List.drop_drop,Nat.min_eq_left (by omega),Nat.add_comm 1 s]
def cyB(n:Int):Bool:=decide (0≤n)&&decide (n≤1099511627776)
def sg(n:Nat):Int:=IntKind.i64.wrap n
theorem sg_pos{n:Nat}(hn:n<18446744073709551616)(h:0≤sg n):sg n=n:=by
 unfold sg at*
 simp[IntKind.wrap,IntKind.bits,IntKind.signed]at*
 omega
theorem sg_nat{n:Nat}(hn:n<9223372036854775808):sg n=n:=wrap_i64 (by omega) (by omega)
theorem cyB_iff{n:Int}:cyB n=true↔0≤n∧n≤1099511627776:=by simp[cyB]
theorem be_sg{l:List UInt8}{s:Nat}(h:s+8≤l.length)(h0:0≤sg (na l s 8)):be 8 (sg (na l s 8)).toNat=(l.drop s).take 8:=by
 rw[sg_pos (na8 l s) h0,Int.toNat_natCast,be_na h (by omega)]
structure St where
 a:Nat
 b:Nat
 c:Nat
 t:List UInt8
 p:Nat
structure rgSt (x:St):Prop where
 ht:x.t.length=64
 ha:x.a<18446744073709551616
 hb:x.b<18446744073709551616
 hc:x.c<18446744073709551616
 hp:x.p<4294967296
def Z64:List UInt8:=List.replicate 64 0
def St0:St:=⟨0,0,0,Z64,0⟩
def enSt(x:St):List UInt8:=be 8 x.a++(be 8 x.b++(be 8 x.c++(x.t++be 4 x.p)))
def tmr(l:List UInt8)(s:Nat):List UInt8:=if l.length<s+64 then Z64 else(l.drop s).take 64
theorem tmr_len(l:List UInt8)(s:Nat):(tmr l s).length=64:=by
 unfold tmr
 split
 ·rfl
 ·rw[List.length_take,List.length_drop];omega
def deSt(l:List UInt8)(s:Nat):St:=⟨na l s 8,na l (s+8) 8,na l (s+16) 8,tmr l (s+24),na l (s+88) 4⟩
theorem deSt_rg(l:List UInt8)(s:Nat):rgSt (deSt l s):=⟨tmr_len l _,na8 l _,na8 l _,na8 l _,na4 l _⟩
theorem enSt_len{x:St}(h:x.t.length=64):(enSt x).length=92:=by simp[enSt,be_length,h]
theorem tmr_in{l:List UInt8}{s:Nat}(h:s+64≤l.length):tmr l s=(l.drop s).take 64:=by unfold tmr;rw[if_neg (by omega)]
theorem enSt_de{l:List UInt8}{s:Nat}(h:l.length=s+92):enSt (deSt l s)=l.drop s:=by
 unfold enSt deSt
 simp only
 rw[be_na (by omega) (by omega),be_na (by omega) (by omega),be_na (by omega) (by omega),tmr_in (by omega),be_na (by omega) (by omega),List.take_of_length_le (l:=l.drop (s+88)) (by rw[List.length_drop];omega),td l (by omega),td l (by omega),td l (by omega),td l (by omega)]
theorem tmr_app(p q:List UInt8){k s:Nat}(hp:p.length=k)(h:k≤s):tmr (p++q) s=tmr q (s-k):=by
 subst hp
 unfold tmr
 rw[List.length_append,List.drop_append,List.drop_of_length_le h,List.nil_append]
 by_cases h1:p.length+q.length<s+64
 ·rw[if_pos h1,if_pos (by omega)]
 ·rw[if_neg h1,if_neg (by omega)]
theorem deSt_en{x:St}(h:rgSt x):deSt (enSt x) 0=x:=by
 unfold deSt enSt
 simp only[na_be,Nat.reduceLeDiff,Nat.reduceSub,Nat.le_refl,Nat.sub_self,Nat.zero_add]
 rw[na_0 _ _ (by omega) h.ha,na_0 _ _ (by omega) h.hb,na_0 _ _ (by omega) h.hc,na_app x.t _ h.ht (by omega),Nat.sub_self,na_z _ (by omega) h.hp,
  tmr_app (be 8 x.a) _ (be_length _ _) (by omega),tmr_app (be 8 x.b) _ (be_length _ _) (by omega),tmr_app (be 8 x.c) _ (be_length _ _) (by omega)]
 have:tmr (x.t++be 4 x.p) (24-8-8-8)=x.t:=by
  have ht:=h.ht
  unfold tmr
  rw[if_neg (by rw[List.length_append];omega),List.drop_zero,←ht,List.take_left]
 rw[this]
theorem deSt_app(p q:List UInt8){k s:Nat}(hp:p.length=k)(h:k≤s):deSt (p++q) s=deSt q (s-k):=by
 unfold deSt
 rw[na_app p q hp h,na_app p q hp (by omega),na_app p q hp (by omega),na_app p q hp (by omega),tmr_app p q hp (by omega)]
 rw[show s+8-k=s-k+8 by omega,show s+16-k=s-k+16 by omega,show s+24-k=s-k+24 by omega,show s+88-k=s-k+88 by omega]
structure Lo where
 e:Int
 c:Int
 s:St
def Lo0:Lo:=⟨0,0,St0⟩
def okLo(x:Lo):Bool:=cyB x.e&&cyB x.c
def enLo(x:Lo):List UInt8:=be 8 x.e.toNat++(be 8 x.c.toNat++enSt x.s)
def deLo(l:List UInt8):Lo:=⟨sg (na l 0 8),sg (na l 8 8),deSt l 16⟩
def pdLo(l:List UInt8):Option Lo:=if l.length=108∧okLo (deLo l)=true then some (deLo l)else none
theorem enLo_len{x:Lo}(h:x.s.t.length=64):(enLo x).length=108:=by simp[enLo,be_length,enSt_len h]
theorem pdLo_e{l:List UInt8}{x:Lo}(h:pdLo l=some x):enLo x=l∧okLo x=true∧rgSt x.s:=by
 unfold pdLo at h
 split at h
 ·rename_i hc
  obtain⟨h1,h2⟩:=hc
  simp only[Option.some.injEq]at h;subst h
  refine⟨?_,h2,deSt_rg l 16⟩
  simp only[okLo,deLo,Bool.and_eq_true,cyB_iff]at h2
  unfold enLo deLo
  simp only
  rw[be_sg (by omega) h2.1.1,be_sg (by omega) h2.2.1,enSt_de (by omega),td l rfl,td l rfl,List.drop_zero]
 ·cases h
theorem pdLo_d{x:Lo}(h1:okLo x=true)(h2:rgSt x.s):pdLo (enLo x)=some x:=by
 have e:deLo (enLo x)=x:=by
  have h:=h1
  simp only[okLo,Bool.and_eq_true,cyB_iff]at h
  unfold deLo enLo
  rw[deSt_app _ _ (be_length _ _) (by omega),deSt_app _ _ (be_length _ _) (by omega),show 16-8-8=0 from rfl,deSt_en h2]
  simp only[na_be,Nat.reduceLeDiff,Nat.reduceSub,Nat.le_refl,Nat.sub_self]
  rw[na_0 _ _ (by omega) (by omega),na_0 _ _ (by omega) (by omega),sg_nat (by omega),sg_nat (by omega),Int.toNat_of_nonneg h.1.1,Int.toNat_of_nonneg h.2.1]
 unfold pdLo
 rw[if_pos ⟨enLo_len h2.ht,by rw[e];exact h1⟩,e]
end Go.AM.Fd

set_option linter.unusedSimpArgs false
set_option linter.unusedVariables false
namespace Go.AM.Fd
open Nat (reduceAdd reduceEqDiff reduceLT reduceLeDiff reduceMul reduceSub)
open Go.Proofs Go.AM.F
def RR(H:AHeap)(lo hi r:Nat)(l:List UInt8)(s:Nat):Prop:=lo≤r∧r<hi∧hi≤H.n∧∃bv,lo≤bv∧bv<hi∧RS H r bv (l.drop s) (decide (l.length<s))
theorem RR.keeps{H H':AHeap}{lo hi r:Nat}{l:List UInt8}{s:Nat}(h:RR H lo hi r l s)(k:Keeps H H'):RR H' lo hi r l s:=by
 obtain⟨h1,h2,h3,bv,h4,h5,h6⟩:=h
 exact⟨h1,h2,Nat.le_trans h3 k.n,bv,h4,h5,h6.chg (k.chg []) (by simp) (by simp)⟩
theorem RR.chg{H H':AHeap}{lo hi r b:Nat}{l:List UInt8}{s:Nat}(h:RR H lo hi r l s)(k:Chg [b] H H')(hb:b<lo∨hi≤b):RR H' lo hi r l s:=by
 obtain⟨h1,h2,h3,bv,h4,h5,h6⟩:=h
 exact⟨h1,h2,Nat.le_trans h3 k.n,bv,h4,h5,h6.chg k (by simp;omega) (by simp;omega)⟩
theorem fail_at(l:List UInt8)(s w:Nat):failB (l.drop s) (decide (l.length<s)) (w:Int)↔l.length<s+w:=by
 unfold failB
 rw[List.length_drop,decide_eq_true_eq]
 omega
theorem Aft.rr{H H':AHeap}{r bv lo hi s w:Nat}{l:List UInt8}(h:Aft H H' r bv (l.drop s) (decide (l.length<s)) (w:Int))(h1:lo≤r)(h2:r<hi)(h3:hi≤H'.n)(h4:lo≤bv)(h5:bv<hi):RR H' lo hi r l (s+w):=by
 obtain⟨bv',p1,p2⟩:=h
 refine⟨h1,h2,h3,bv',by omega,by omega,?_⟩
 have e1:restL (l.drop s) (decide (l.length<s)) (w:Int)=l.drop (s+w):=by
  unfold restL
  by_cases hf:l.length<s+w
  ·rw[if_pos ((fail_at l s w).2 hf),List.drop_of_length_le (by omega)]
  ·rw[if_neg (fun h=>hf ((fail_at l s w).1 h)),Int.toNat_natCast,List.drop_drop]
 have e2:badB (l.drop s) (decide (l.length<s)) (w:Int)=decide (l.length<s+w):=by
  unfold badB
  rw[decide_eq_decide,fail_at]
 rw[e1,e2]at p1
 exact p1
theorem gotL_at(l:List UInt8)(s w:Nat):gotL (l.drop s) (decide (l.length<s)) (w:Int)=seg l s w:=by
 unfold gotL seg
 by_cases hf:l.length<s+w
 ·rw[if_pos ((fail_at l s w).2 hf),if_pos hf]
 ·rw[if_neg (fun h=>hf ((fail_at l s w).1 h)),if_neg hf,Int.toNat_natCast]
section
variable {H:AHeap} {lo hi r s:Nat} {l:List UInt8}
theorem q158(h:RR H lo hi r l s)(hl:l.length≤1000000000):∃v H',ARun Go.Proofs.Tryz.prog 0 158 [ptr r 0] H v H'∧v=.int .u32 (na l s 4:Nat)∧RR H' lo hi r l (s+4)∧Chg [r] H H':=by
 obtain⟨h1,h2,h3,bv,h4,h5,h6⟩:=h
 obtain⟨v,H',q,rfl,p1,p2⟩:=t158 h6 (by rw[List.length_drop];omega)
 exact⟨_,H',q,by rw[show(4:Int)=((4:Nat):Int)from rfl,gotL_at];rfl,Aft.rr p1 h1 h2 (Nat.le_trans h3 p2.n) h4 h5,p2⟩
theorem q116(h:RR H lo hi r l s)(hl:l.length≤1000000000):∃v H',ARun Go.Proofs.Tryz.prog 0 116 [ptr r 0] H v H'∧v=.int .u64 (na l s 8:Nat)∧RR H' lo hi r l (s+8)∧Chg [r] H H':=by
 obtain⟨h1,h2,h3,bv,h4,h5,h6⟩:=h
 obtain⟨v,H',q,rfl,p1,p2⟩:=t116 h6 (by rw[List.length_drop];omega)
 exact⟨_,H',q,by rw[show(8:Int)=((8:Nat):Int)from rfl,gotL_at];rfl,Aft.rr p1 h1 h2 (Nat.le_trans h3 p2.n) h4 h5,p2⟩
theorem q119(h:RR H lo hi r l s)(w:Nat)(hl:l.length≤1000000000):∃v H',ARun Go.Proofs.Tryz.prog 0 119 [ptr r 0,.int .i64 (w:Nat)] H v H'∧BS H' v (seg l s w)∧RR H' lo hi r l (s+w)∧Chg [r] H H'∧(∀b,blk v=some b→lo≤b∧b<hi):=by
 obtain⟨h1,h2,h3,bv,h4,h5,h6⟩:=h
 obtain⟨v,H',q,p0,p1,p2,p3⟩:=t119 h6 (w:Int) (by rw[List.length_drop];omega)
 rw[gotL_at]at p0
 refine⟨_,H',q,p0,Aft.rr p1 h1 h2 (Nat.le_trans h3 p2.n) h4 h5,p2,?_⟩
 intro b hb
 rcases p3 with⟨rfl,_⟩|⟨_,_,⟨rfl,_⟩|⟨o,c,rm,rfl,_⟩⟩
 ·cases hb
 ·cases hb
 ·cases hb;exact⟨h4,h5⟩
theorem q159(h:RR H lo hi r l s):∃v H',ARun Go.Proofs.Tryz.prog 0 159 [ptr r 0] H v H'∧v=.bool (decide (l.length<s))∧H'=H:=by
 obtain⟨h1,h2,h3,bv,h4,h5,h6⟩:=h
 exact t159 h6
theorem q160(h:RR H lo hi r l s):∃v H',ARun Go.Proofs.Tryz.prog 0 160 [ptr r 0] H v H'∧v=.int .i64 (l.length-s:Nat)∧H'=H:=by
 obtain⟨h1,h2,h3,bv,h4,h5,h6⟩:=h
 have:=t160 h6
 rwa [List.length_drop]at this
end
theorem n148(n:Int)(H:AHeap):∃v H',ARun Go.Proofs.Tryz.prog 0 148 [.pointer none,.int .i64 n] H v H'∧v=.slice none 0 0∧H'=H:=by
 refine walk2 f148_ok f148_n ?_
 intro Q hq1 hq2
 simp(disch:=first|assumption|omega|(simp only[LN]<;>omega)|(simp(disch:=first|assumption|omega|(simp only[LN]<;>omega))only[row_alloc,row_set];assumption))only[f148,W_block,P3,↓reduceIte,reduceAdd,reduceEqDiff,reduceCtorEq,initFr,reduceLT,clsA,reduceLeDiff,reduceMul,reduceSub,reduceIte]
 exact hq2 _ _ ⟨_,rfl,rfl,rfl⟩
theorem n147(k:Nat)(hk:k<4)(H:AHeap):∃v H',ARun Go.Proofs.Tryz.prog 0 147 [.pointer none,.int .i64 ((2 ^ k:Nat):Int)] H v H'∧v=.iface (tyR k) (.int (kdR k) 0)∧H'=H:=by
 refine walk2 f147_ok f147_n ?_
 intro Q hq1 hq2
 simp(disch:=first|assumption|omega|(simp only[LN]<;>omega)|(simp(disch:=first|assumption|omega|(simp only[LN]<;>omega))only[row_alloc,row_set];assumption))only[f147,W_block,P3,↓reduceIte,reduceAdd,reduceEqDiff,reduceCtorEq,initFr,reduceLT,clsA,reduceLeDiff,reduceMul,reduceSub,reduceIte]
 refine callK (n148 _ H) ?_
 rintro _ _ ⟨rfl,rfl⟩
 simp(disch:=first|assumption|omega|(simp only[LN]<;>omega)|(simp(disch:=first|assumption|omega|(simp only[LN]<;>omega))only[row_alloc,row_set];assumption))only[W_block,P3,↓reduceIte,reduceAdd,reduceEqDiff,reduceCtorEq,initFr,reduceLT,clsA,reduceLeDiff,reduceMul,reduceSub,reduceIte]
 refine callK (t164 (BS.nil _) k hk (by simp)) ?_
 rintro _ _ ⟨rfl,rfl⟩
 simp(disch:=first|assumption|omega|(simp only[LN]<;>omega)|(simp(disch:=first|assumption|omega|(simp only[LN]<;>omega))only[row_alloc,row_set];assumption))only[W_block,P3,↓reduceIte,reduceAdd,reduceEqDiff,reduceCtorEq,initFr,reduceLT,clsA,reduceLeDiff,reduceMul,reduceSub,reduceIte]
 exact hq2 _ _ ⟨_,rfl,rfl,rfl⟩
theorem n158(H:AHeap):∃v H',ARun Go.Proofs.Tryz.prog 0 158 [.pointer none] H v H'∧v=.int .u32 0∧H'=H:=by
 refine walk2 f158_ok f158_n ?_
 intro Q hq1 hq2
 simp(disch:=first|assumption|omega|(simp only[LN]<;>omega)|(simp(disch:=first|assumption|omega|(simp only[LN]<;>omega))only[row_alloc,row_set];assumption))only[f158,W_block,P3,↓reduceIte,reduceAdd,reduceEqDiff,reduceCtorEq,initFr,reduceLT,clsA,reduceLeDiff,reduceMul,reduceSub,reduceIte]
 refine callK (n147 2 (by omega) H) ?_
 rintro _ _ ⟨rfl,rfl⟩
 simp(disch:=first|assumption|omega|(simp only[LN]<;>omega)|(simp(disch:=first|assumption|omega|(simp only[LN]<;>omega))only[row_alloc,row_set];assumption))only[W_block,P3,↓reduceIte,reduceAdd,reduceEqDiff,reduceCtorEq,initFr,reduceLT,clsA,reduceLeDiff,reduceMul,reduceSub,reduceIte,tyR,kdR]
 exact hq2 _ _ ⟨_,rfl,rfl,rfl⟩
theorem n116(H:AHeap):∃v H',ARun Go.Proofs.Tryz.prog 0 116 [.pointer none] H v H'∧v=.int .u64 0∧H'=H:=by
 refine walk2 f116_ok f116_n ?_
 intro Q hq1 hq2
 simp(disch:=first|assumption|omega|(simp only[LN]<;>omega)|(simp(disch:=first|assumption|omega|(simp only[LN]<;>omega))only[row_alloc,row_set];assumption))only[f116,W_block,P3,↓reduceIte,reduceAdd,reduceEqDiff,reduceCtorEq,initFr,reduceLT,clsA,reduceLeDiff,reduceMul,reduceSub,reduceIte]
 refine callK (n147 3 (by omega) H) ?_
 rintro _ _ ⟨rfl,rfl⟩
 simp(disch:=first|assumption|omega|(simp only[LN]<;>omega)|(simp(disch:=first|assumption|omega|(simp only[LN]<;>omega))only[row_alloc,row_set];assumption))only[W_block,P3,↓reduceIte,reduceAdd,reduceEqDiff,reduceCtorEq,initFr,reduceLT,clsA,reduceLeDiff,reduceMul,reduceSub,reduceIte,tyR,kdR]
 exact hq2 _ _ ⟨_,rfl,rfl,rfl⟩
theorem n119(n:Int)(H:AHeap):∃v H',ARun Go.Proofs.Tryz.prog 0 119 [.pointer none,.int .i64 n] H v H'∧v=.slice none 0 0∧H'=H:=by
 refine walk2 f119_ok f119_n ?_
 intro Q hq1 hq2
 simp(disch:=first|assumption|omega|(simp only[LN]<;>omega)|(simp(disch:=first|assumption|omega|(simp only[LN]<;>omega))only[row_alloc,row_set];assumption))only[f119,W_block,P3,↓reduceIte,reduceAdd,reduceEqDiff,reduceCtorEq,initFr,reduceLT,clsA,reduceLeDiff,reduceMul,reduceSub,reduceIte]
 refine callK (n148 _ H) ?_
 rintro _ _ ⟨rfl,rfl⟩
 simp(disch:=first|assumption|omega|(simp only[LN]<;>omega)|(simp(disch:=first|assumption|omega|(simp only[LN]<;>omega))only[row_alloc,row_set];assumption))only[W_block,P3,↓reduceIte,reduceAdd,reduceEqDiff,reduceCtorEq,initFr,reduceLT,clsA,reduceLeDiff,reduceMul,reduceSub,reduceIte]
 exact hq2 _ _ ⟨_,rfl,rfl,rfl⟩
theorem frm_w(k:Nat)(b:List UInt8)(h5:5≤b.length):frm k b=(b[0]? ==some (UInt8.ofNat k)&&num (b.drop (b.length-4))==crc (b.take (b.length-4))):=by
 simp[frm,h5]
theorem t128{H:AHeap}{x:Value}{b:List UInt8}(hx:BQ H x b)(k:Nat)(hk:k<256)(hl:b.length≤1000000000):∃v H',ARun Go.Proofs.Tryz.prog 0 128 [.int .u8 k,x] H v H'∧Keeps H H'∧
 ((v=.tuple #[.pointer none,.bool false]∧H'=H∧frm k b=false)∨∃r,v=.tuple #[ptr r 0,.bool (frm k b)]∧RR H' H.n H'.n r (bd b) 0):=by
 refine walk2 f128_ok f128_n ?_
 intro Q hq1 hq2
 have hs:=hx.bs.sl
 have his:=hs.is
 have hlen:=hs.len
 rw[List.length_map]at hlen
 by_cases h5:b.length<5
 ·simp(disch:=first|assumption|omega|(simp only[LN]<;>omega)|(simp(disch:=first|assumption|omega|(simp only[LN]<;>omega))only[row_alloc,row_set];assumption))only[f128,W_block,P3,↓reduceIte,reduceAdd,reduceEqDiff,reduceCtorEq,initFr,reduceLT,clsA,reduceLeDiff,reduceMul,reduceSub,reduceIte,hlen]
  exact hq2 _ _ ⟨_,rfl,Keeps.refl _,.inl ⟨rfl,rfl,by simp[frm];omega⟩⟩
 ·obtain⟨hnn,hrow⟩:=hs.at_ (by omega) (i:=0) (by rw[List.length_map];omega)
  rw[List.getElem_map]at hrow
  by_cases h0:b[0]=UInt8.ofNat k
  ·have e0:((b[0].toNat:Nat):Int)=(k:Int):=by rw[h0];simp;omega
   have hw:IntKind.i64.wrap ((b.length:Int)-4)=((b.length-4:Nat):Int):=by rw[wrap_i64 (by omega) (by omega)];omega
   obtain⟨w1,s1,q1⟩:=hx.from_ (k:=.i64) (b.length-4) (by omega)
   simp(disch:=first|assumption|omega|(simp only[LN]<;>omega)|(simp(disch:=first|assumption|omega|(simp only[LN]<;>omega))only[row_alloc,row_set];assumption))only[f128,W_block,P3,↓reduceIte,reduceAdd,reduceEqDiff,reduceCtorEq,initFr,reduceLT,clsA,reduceLeDiff,reduceMul,reduceSub,reduceIte,hlen,e0,hw,s1]
   refine callK (t114 q1.bs (by rw[List.length_drop];omega)) ?_
   rintro _ H1 ⟨r1,bv1,rfl,p1,p2,p3,k1⟩
   obtain⟨w2,s2,q2⟩:=(hx.keeps k1).mid (k:=.i64) (k':=.i64) 1 (b.length-4) (by omega) (by omega)
   have s2':asem (.slsl 1 x (some (.int .i64 1)) (some (.int .i64 (b.length-4:Nat))) none) H1=some (w2,H1):=s2
   simp(disch:=first|assumption|omega|(simp only[LN]<;>omega)|(simp(disch:=first|assumption|omega|(simp only[LN]<;>omega))only[row_alloc,row_set];assumption))only[W_block,P3,↓reduceIte,reduceAdd,reduceEqDiff,reduceCtorEq,initFr,reduceLT,clsA,reduceLeDiff,reduceMul,reduceSub,reduceIte,hlen,hw,s2']
   refine callK (t114 q2.bs (by rw[List.length_take,List.length_drop];omega)) ?_
   rintro _ H2 ⟨r2,bv2,rfl,o1,o2,o3,k2⟩
   simp(disch:=first|assumption|omega|(simp only[LN]<;>omega)|(simp(disch:=first|assumption|omega|(simp only[LN]<;>omega))only[row_alloc,row_set];assumption))only[W_block,P3,↓reduceIte,reduceAdd,reduceEqDiff,reduceCtorEq,initFr,reduceLT,clsA,reduceLeDiff,reduceMul,reduceSub,reduceIte,hlen,hw]
   refine callK (t158 (p1.chg (k2.chg []) (by simp) (by simp)) (by rw[List.length_drop];omega)) ?_
   rintro _ H3 ⟨rfl,m1,k3⟩
   have kk:Keeps H H3:=(k1.trans k2).chg_trans k3 (by simp;omega)
   obtain⟨w3,s3,q3⟩:=(hx.keeps kk).to_ (k:=.i64) (b.length-4) (by omega)
   have tx:=hx.tbl
   have n1:=k1.n
   have n2:=k2.n
   simp(disch:=first|assumption|omega|(simp only[LN]<;>omega)|(simp(disch:=first|assumption|omega|(simp only[LN]<;>omega))only[row_alloc,row_set];assumption))only[W_block,P3,↓reduceIte,reduceAdd,reduceEqDiff,reduceCtorEq,initFr,reduceLT,clsA,reduceLeDiff,reduceMul,reduceSub,reduceIte,hlen,hw,s3,touch_sl]
   refine⟨⟨⟨tb_older (fun y hy=>Nat.lt_of_lt_of_le (tx y hy) n1),tb_keeps (fun y hy=>⟨Nat.lt_of_lt_of_le (tx y hy) n1,by simp⟩) (k2.chg [])⟩,
    tb_older (fun y hy=>Nat.lt_of_lt_of_le (tx y hy) (Nat.le_trans n1 n2)),tb_keeps (fun y hy=>⟨Nat.lt_of_lt_of_le (tx y hy) (Nat.le_trans n1 n2),by have:=tx y hy;simp;omega⟩) k3⟩,?_⟩
   refine callK (t154 q3.bs (by rw[List.length_take];omega)) ?_
   rintro _ _ ⟨rfl,rfl⟩
   simp(disch:=first|assumption|omega|(simp only[LN]<;>omega)|(simp(disch:=first|assumption|omega|(simp only[LN]<;>omega))only[row_alloc,row_set];assumption))only[W_block,P3,↓reduceIte,reduceAdd,reduceEqDiff,reduceCtorEq,initFr,reduceLT,clsA,reduceLeDiff,reduceMul,reduceSub,reduceIte]
   have eb:(b.drop 1).take (b.length-4-1)=bd b:=by unfold bd;rw[show b.length-4-1=b.length-5 by omega]
   have eg:gotL (b.drop (b.length-4)) false 4=b.drop (b.length-4):=by
    have hl4:(b.drop (b.length-4)).length=4:=by rw[List.length_drop];omega
    unfold gotL
    rw[if_neg (by unfold failB;rw[hl4];simp),List.take_of_length_le (by rw[hl4];decide)]
   have ef:frm k b=((num (b.drop (b.length-4)):Int)==(crc (b.take (b.length-4)):Int)):=by
    have e1:((b[0]? ==some (UInt8.ofNat k))=true):=by rw[List.getElem?_eq_getElem (by omega),h0];simp
    rw[frm_w k b (by omega),e1,Bool.true_and,Bool.eq_iff_iff,beq_iff_eq,beq_iff_eq]
    omega
   refine hq2 _ _ ⟨_,rfl,kk,.inr ⟨r2,by rw[ef,eg];rfl,by omega,AHeap.get_lt ((o1.chg k3 (by simp;have:=p1.lt;omega) (by simp;have:=p1.lt;omega)).choose_spec.1),Nat.le_refl _,bv2,by omega,?_,?_⟩⟩
   ·exact(o1.chg k3 (by simp;have:=p1.lt;omega) (by simp;have:=p1.lt;omega)).lt.2
   ·have:=o1.chg k3 (by simp;have:=p1.lt;omega) (by simp;have:=p1.lt;omega)
    rw[eb]at this
    rw[List.drop_zero,decide_eq_false (by omega)]
    exact this
  ·have e0:((b[0].toNat:Nat):Int)≠(k:Int):=by
    intro he
    apply h0
    apply UInt8.toNat_inj.1
    simp;omega
   simp(disch:=first|assumption|omega|(simp only[LN]<;>omega)|(simp(disch:=first|assumption|omega|(simp only[LN]<;>omega))only[row_alloc,row_set];assumption))only[f128,W_block,P3,↓reduceIte,reduceAdd,reduceEqDiff,reduceCtorEq,initFr,reduceLT,clsA,reduceLeDiff,reduceMul,reduceSub,reduceIte,hlen,e0]
   refine hq2 _ _ ⟨_,rfl,Keeps.refl _,.inl ⟨rfl,rfl,?_⟩⟩
   have e1:((b[0]? ==some (UInt8.ofNat k))=false):=by rw[List.getElem?_eq_getElem (by omega)];simpa using h0
   rw[frm_w k b (by omega),e1,Bool.false_and]
end Go.AM.Fd

set_option linter.unusedSimpArgs false
set_option linter.unusedVariables false
namespace Go.AM.Fd
open Nat (reduceAdd reduceEqDiff reduceLT reduceLeDiff reduceMul reduceSub)
open Go.Proofs Go.AM.F
def II(l:List Int):List (List Value):=l.map fun n=>[.int .i64 n]
theorem t174(n:Int)(H:AHeap):∃v H',ARun Go.Proofs.Tryz.prog 0 174 [.int .i64 n] H v H'∧v=.bool (!cyB n)∧H'=H:=by
 refine walk2 f174_ok f174_n ?_
 intro Q hq1 hq2
 by_cases h1:n<0
 ·simp(disch:=first|assumption|omega|(simp only[LN]<;>omega)|(simp(disch:=first|assumption|omega|(simp only[LN]<;>omega))only[row_alloc,row_set];assumption))only[f174,W_block,P3,↓reduceIte,reduceAdd,reduceEqDiff,reduceCtorEq,initFr,reduceLT,clsA,reduceLeDiff,reduceMul,reduceSub,reduceIte,h1]
  exact hq2 _ _ ⟨_,rfl,congrArg Value.bool (a₁:=_) (by simp[cyB];omega),rfl⟩
 ·by_cases h2:(1099511627776:Int)<n
  ·simp(disch:=first|assumption|omega|(simp only[LN]<;>omega)|(simp(disch:=first|assumption|omega|(simp only[LN]<;>omega))only[row_alloc,row_set];assumption))only[f174,W_block,P3,↓reduceIte,reduceAdd,reduceEqDiff,reduceCtorEq,initFr,reduceLT,clsA,reduceLeDiff,reduceMul,reduceSub,reduceIte,h1,h2]
   exact hq2 _ _ ⟨_,rfl,congrArg Value.bool (a₁:=_) (by simp[cyB];omega),rfl⟩
  ·simp(disch:=first|assumption|omega|(simp only[LN]<;>omega)|(simp(disch:=first|assumption|omega|(simp only[LN]<;>omega))only[row_alloc,row_set];assumption))only[f174,W_block,P3,↓reduceIte,reduceAdd,reduceEqDiff,reduceCtorEq,initFr,reduceLT,clsA,reduceLeDiff,reduceMul,reduceSub,reduceIte,h1,h2]
   exact hq2 _ _ ⟨_,rfl,congrArg Value.bool (a₁:=_) (by simp[cyB];omega),rfl⟩
theorem t176{H:AHeap}{v:Value}{l:List Int}(h:Sl H 1 v (II l))(hl:l.length≤1000000000):∃w H',ARun Go.Proofs.Tryz.prog 0 176 [v,.func (.func 174) #[] #[]] H w H'∧H'=H∧∃i:Int,w=.int .i64 i∧decide (0≤i)= !l.all cyB:=by
 refine walk2 f176_ok f176_n ?_
 intro Q hq1 hq2
 have his:=h.is
 have hlen:=h.len
 rw[II,List.length_map]at hlen
 simp(disch:=first|assumption|omega|(simp only[LN]<;>omega)|(simp(disch:=first|assumption|omega|(simp only[LN]<;>omega))only[row_alloc,row_set];assumption))only[f176,W_block,P3,↓reduceIte,reduceAdd,reduceEqDiff,reduceCtorEq,initFr,reduceLT,clsA,reduceLeDiff,reduceMul,reduceSub,reduceIte,hlen]
 refine W_loop2 (fun q fr K=>K=H∧∃(i:Nat) (a b c:Value),i≤l.length∧q=l.length-i∧(l.take i).all cyB=true∧fr=[v,.func (.func 174) #[] #[],.int .i64 0,a,.int .i64 l.length,.int .i64 i,b,c]) l.length ⟨rfl,0,undef,undef,undef,by omega,rfl,rfl,rfl⟩ ?_
 rintro Q' q fr K ⟨rfl,i,a,b,c,hi,rfl,hall,rfl⟩ hn he hrt
 by_cases hc:i<l.length
 ·obtain⟨hnn,hrow⟩:=h.at_ (by omega) (i:=i) (by simpa[II]using hc)
  simp only[II,List.getElem_map]at hrow
  simp(disch:=first|assumption|omega|(simp only[LN]<;>omega)|(simp(disch:=first|assumption|omega|(simp only[LN]<;>omega))only[row_alloc,row_set];assumption))only[W_block,P3,↓reduceIte,reduceAdd,reduceEqDiff,reduceCtorEq,initFr,reduceLT,clsA,reduceLeDiff,reduceMul,reduceSub,reduceIte]
  refine callK (t174 l[i] K) ?_
  rintro _ _ ⟨rfl,rfl⟩
  by_cases hb:cyB l[i]=true
  ·simp(disch:=first|assumption|omega|(simp only[LN]<;>omega)|(simp(disch:=first|assumption|omega|(simp only[LN]<;>omega))only[row_alloc,row_set];assumption))only[W_block,P3,↓reduceIte,reduceAdd,reduceEqDiff,reduceCtorEq,initFr,reduceLT,clsA,reduceLeDiff,reduceMul,reduceSub,reduceIte,hb,wrap_succ (n:=i) (by omega)]
   refine hn _ _ _ ⟨rfl,i+1,_,_,_,by omega,rfl,?_,rfl⟩ (by omega)
   rw[List.take_succ_eq_append_getElem hc,List.all_append,hall]
   simp[hb]
  ·rw[Bool.not_eq_true]at hb
   simp(disch:=first|assumption|omega|(simp only[LN]<;>omega)|(simp(disch:=first|assumption|omega|(simp only[LN]<;>omega))only[row_alloc,row_set];assumption))only[W_block,P3,↓reduceIte,reduceAdd,reduceEqDiff,reduceCtorEq,initFr,reduceLT,clsA,reduceLeDiff,reduceMul,reduceSub,reduceIte,hb]
   refine hrt _ _ ?_
   simp(disch:=first|assumption|omega|(simp only[LN]<;>omega)|(simp(disch:=first|assumption|omega|(simp only[LN]<;>omega))only[row_alloc,row_set];assumption))only[W_block,P3,↓reduceIte,reduceAdd,reduceEqDiff,reduceCtorEq,initFr,reduceLT,clsA,reduceLeDiff,reduceMul,reduceSub,reduceIte]
   refine hq2 _ _ ⟨_,rfl,rfl,i,rfl,?_⟩
   have:l.all cyB=false:=by
    rw[List.all_eq_false]
    exact⟨l[i],List.getElem_mem hc,by simp[hb]⟩
   rw[this]
   simp
 ·simp(disch:=first|assumption|omega|(simp only[LN]<;>omega)|(simp(disch:=first|assumption|omega|(simp only[LN]<;>omega))only[row_alloc,row_set];assumption))only[W_block,P3,↓reduceIte,reduceAdd,reduceEqDiff,reduceCtorEq,initFr,reduceLT,clsA,reduceLeDiff,reduceMul,reduceSub,reduceIte]
  refine he _ _ _ ?_
  simp(disch:=first|assumption|omega|(simp only[LN]<;>omega)|(simp(disch:=first|assumption|omega|(simp only[LN]<;>omega))only[row_alloc,row_set];assumption))only[W_block,P3,↓reduceIte,reduceAdd,reduceEqDiff,reduceCtorEq,initFr,reduceLT,clsA,reduceLeDiff,reduceMul,reduceSub,reduceIte]
  rw[List.take_of_length_le (by omega)]at hall
  exact hq2 _ _ ⟨_,rfl,rfl,-1,rfl,by rw[hall];rfl⟩
theorem t169{H:AHeap}{v:Value}{l:List Int}(h:Sl H 1 v (II l))(hl:l.length≤1000000000):∃w H',ARun Go.Proofs.Tryz.prog 0 169 [v] H w H'∧w=.bool (l.all cyB)∧H'=H:=by
 have hc:∃w H',ARun Go.Proofs.Tryz.prog 0 173 [v,.func (.func 174) #[] #[]] H w H'∧w=.bool (!l.all cyB)∧H'=H:=by
  refine walk2 f173_ok f173_n ?_
  intro Q hq1 hq2
  simp(disch:=first|assumption|omega|(simp only[LN]<;>omega)|(simp(disch:=first|assumption|omega|(simp only[LN]<;>omega))only[row_alloc,row_set];assumption))only[f173,W_block,P3,↓reduceIte,reduceAdd,reduceEqDiff,reduceCtorEq,initFr,reduceLT,clsA,reduceLeDiff,reduceMul,reduceSub,reduceIte]
  refine callK (t176 h hl) ?_
  rintro _ _ ⟨rfl,i,rfl,hi⟩
  simp(disch:=first|assumption|omega|(simp only[LN]<;>omega)|(simp(disch:=first|assumption|omega|(simp only[LN]<;>omega))only[row_alloc,row_set];assumption))only[W_block,P3,↓reduceIte,reduceAdd,reduceEqDiff,reduceCtorEq,initFr,reduceLT,clsA,reduceLeDiff,reduceMul,reduceSub,reduceIte,hi]
  exact hq2 _ _ ⟨_,rfl,rfl,rfl⟩
 refine walk2 f169_ok f169_n ?_
 intro Q hq1 hq2
 simp(disch:=first|assumption|omega|(simp only[LN]<;>omega)|(simp(disch:=first|assumption|omega|(simp only[LN]<;>omega))only[row_alloc,row_set];assumption))only[f169,W_block,P3,↓reduceIte,reduceAdd,reduceEqDiff,reduceCtorEq,initFr,reduceLT,clsA,reduceLeDiff,reduceMul,reduceSub,reduceIte]
 refine callK hc ?_
 rintro _ _ ⟨rfl,rfl⟩
 simp(disch:=first|assumption|omega|(simp only[LN]<;>omega)|(simp(disch:=first|assumption|omega|(simp only[LN]<;>omega))only[row_alloc,row_set];assumption))only[W_block,P3,↓reduceIte,reduceAdd,reduceEqDiff,reduceCtorEq,initFr,reduceLT,clsA,reduceLeDiff,reduceMul,reduceSub,reduceIte]
 exact hq2 _ _ ⟨_,rfl,rfl,rfl⟩
end Go.AM.Fd

set_option linter.unusedSimpArgs false
set_option linter.unusedVariables false
namespace Go.AM.Fd
open Nat (reduceAdd reduceEqDiff reduceLT reduceLeDiff reduceMul reduceSub)
open Go.Proofs Go.AM.F
def cSt(x:St):List Value:=.int .u64 (x.a:Nat):: .int .u64 (x.b:Nat):: .int .u64 (x.c:Nat)::(cellsOf x.t++[.int .u32 (x.p:Nat)])
def cLo(x:Lo):List Value:=.int .i64 x.e:: .int .i64 x.c::cSt x.s
theorem cellsOf_one(l:List UInt8):(cellsOf l).all Value.oneCell'=true:=by
 rw[List.all_eq_true]
 intro v hv
 simp only[cellsOf,List.mem_map]at hv
 obtain⟨n,_,rfl⟩:=hv
 rfl
theorem cSt_one(x:St):(cSt x).all Value.oneCell'=true:=by
 simp only[cSt,List.all_cons,List.all_append,cellsOf_one,one_int,List.all_nil,Bool.and_true,Bool.true_and]
theorem cSt_len{x:St}(h:x.t.length=64):(cSt x).length=68:=by simp[cSt,cellsOf_length,h]
theorem cLo_one(x:Lo):(cLo x).all Value.oneCell'=true:=by
 simp only[cLo,List.all_cons,cSt_one,one_int];rfl
theorem cLo_len{x:Lo}(h:x.s.t.length=64):(cLo x).length=70:=by simp[cLo,cSt_len h]
theorem sl2(H:AHeap)(n m:Int)(e:Nat):Sl (H.alloc (.cells true false 1 [.int .i64 n,.int .i64 m] e)) 1 (slc H.n 0 2 2) (II [n,m]):=by
 refine⟨⟨_,_,rfl⟩,by simp[II],?_⟩
 exact elems_own (AHeap.get_alloc_new H _) rfl
theorem fillII(x y:Value)(n m:Int):fillA [x,y] [(0,1,.int .i64 n),(1,1,.int .i64 m)]=some [.int .i64 n,.int .i64 m]:=rfl
theorem mayLo(x:Lo)(hx:x.s.t.length=64)(H:AHeap):∃v H',ARun Go.Proofs.Tryz.prog 0 161 [.iface 162 (.agg (cLo x).toArray)] H v H'∧v=.bool (okLo x)∧Keeps H H':=by
 refine walk2 f161_ok f161_n ?_
 intro Q hq1 hq2
 have lx:=cLo_len hx
 have ox:=cLo_one x
 have x0:(cLo x)[0]? =some (.int .i64 x.e):=rfl
 have x1:(cLo x)[1]? =some (.int .i64 x.c):=rfl
 have lz:Z70R.length=70:=rfl
 have oz:Z70R.all Value.oneCell'=true:=rfl
 simp(disch:=first|assumption|omega|(simp only[LN]<;>omega)|(simp(disch:=first|assumption|omega|(simp only[LN]<;>omega))only[row_alloc,row_set];assumption))only[f161,W_block,P3,↓reduceIte,reduceAdd,reduceEqDiff,reduceCtorEq,initFr,reduceLT,clsA,reduceLeDiff,reduceMul,reduceSub,reduceIte,fillII,ox,oz,x0,x1]
 refine callK (t169 (sl2 _ _ _ _) (by simp)) ?_
 rintro _ _ ⟨rfl,rfl⟩
 simp(disch:=first|assumption|omega|(simp only[LN]<;>omega)|(simp(disch:=first|assumption|omega|(simp only[LN]<;>omega))only[row_alloc,row_set];assumption))only[W_block,P3,↓reduceIte,reduceAdd,reduceEqDiff,reduceCtorEq,initFr,reduceLT,clsA,reduceLeDiff,reduceMul,reduceSub,reduceIte]
 exact hq2 _ _ ⟨_,rfl,by simp[okLo];rfl,by((repeat (first|exact Keeps.refl _|assumption|refine Keeps.alloc ?_ _|(refine Keeps.set ?_ (by first|omega|(simp only[alloc_n,set_n]<;>omega)) (by first|omega|(simp only[alloc_n,set_n]<;>omega)) _)|(refine Keeps.trans' (by assumption) ?_))))⟩
end Go.AM.Fd
