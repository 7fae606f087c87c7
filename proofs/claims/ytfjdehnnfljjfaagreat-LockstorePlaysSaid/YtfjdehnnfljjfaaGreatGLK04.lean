/- Part of the proof. -/
import Derived.Test.YtfjdehnnfljjfaaGreatGLK03
set_option linter.unusedSimpArgs false
set_option linter.unusedVariables false
set_option linter.unusedSimpArgs false
set_option linter.unusedVariables false
namespace Go.AM.Fd
open Nat (reduceAdd reduceEqDiff reduceLT reduceLeDiff reduceMul reduceSub)
open Go.Proofs Go.AM.F
def tailW(b:List UInt8)(n:Nat):List UInt8:=b++be 4 (crc b)++List.replicate (248-(b.length+4)) 0++be 8 n
def headB(t f:Nat):List UInt8:=tailW ([72]++be 8 t++be 8 f) t
def recB(k:Nat)(s:List UInt8):List UInt8:=tailW ([82]++be 8 k++be 2 s.length++s) k
def longW(l:List UInt8)(i:Nat):Nat:=if num ((l.drop i).take 8)<1∨4611686018427387904<num ((l.drop i).take 8)then 0 else num ((l.drop i).take 8)
def headW(l:List UInt8):Nat×Nat:=if longW l 1=0∨longW l 9=0∨headB (longW l 1) (longW l 9)≠l then(0,0)else(longW l 1,longW l 9)
def lenW(l:List UInt8):Nat:=num ((l.drop 9).take 2)
def recW(l:List UInt8):Nat×List UInt8:=if longW l 1=0∨232<lenW l∨recB (longW l 1) ((l.drop 11).take (lenW l))≠l then(0,[])else(longW l 1,(l.drop 11).take (lenW l))
theorem longW_le(l:List UInt8)(i:Nat):longW l i≤4611686018427387904:=by
 unfold longW;split<;>omega
theorem recW_le(l:List UInt8):(recW l).1 ≤4611686018427387904∧(recW l).2.length≤232:=by
 unfold recW
 split
 ·exact⟨by simp,by simp⟩
 ·refine⟨longW_le _ _,?_⟩
  simp only[List.length_take,List.length_drop];omega
theorem t94{H K:AHeap}{x:Value}{l:List UInt8}(h:OB 5 H K x l)(hl:l.length≤244)(n:Nat)(hn:n≤9223372036854775807):∃w K',ARun Go.Proofs.Tryz.prog 0 94 [x,.int .i64 (n:Nat)] K w K'∧w=.string ⟨(tailW l n).toArray⟩∧Keeps H K':=by
 refine walk2 f94_ok f94_n ?_
 intro Q hq1 hq2
 have hcl:=crc_lt l
 have hwc:IntKind.u64.wrap ((crc l:Nat):Int)=((crc l:Nat):Int):=by rw[wrap_u64];omega
 have hwn:IntKind.u64.wrap ((n:Nat):Int)=((n:Nat):Int):=by rw[wrap_u64];omega
 simp(disch:=first|assumption|omega|(simp only[LN]<;>omega)|(simp(disch:=first|assumption|omega|(simp only[LN]<;>omega))only[row_alloc,row_set];assumption))only[f94,W_block,P3,↓reduceIte,reduceAdd,reduceEqDiff,reduceCtorEq,initFr,reduceLT,clsA,reduceLeDiff,reduceMul,reduceSub,reduceIte]
 refine callK (t125 h.bs (by omega)) ?_
 rintro _ K1 ⟨rfl,k1⟩
 simp(disch:=first|assumption|omega|(simp only[LN]<;>omega)|(simp(disch:=first|assumption|omega|(simp only[LN]<;>omega))only[row_alloc,row_set];assumption))only[W_block,P3,↓reduceIte,reduceAdd,reduceEqDiff,reduceCtorEq,initFr,reduceLT,clsA,reduceLeDiff,reduceMul,reduceSub,reduceIte,hwc]
 refine callK (t93 (crc l) 4 (by omega) K1) ?_
 rintro x4 K2 ⟨ap2,k2,f2⟩
 simp(disch:=first|assumption|omega|(simp only[LN]<;>omega)|(simp(disch:=first|assumption|omega|(simp only[LN]<;>omega))only[row_alloc,row_set];assumption))only[P3,↓reduceIte,reduceAdd,reduceEqDiff,reduceCtorEq,initFr,reduceLT,clsA,reduceLeDiff,reduceMul,reduceSub,reduceIte]
 refine OB.appR ((h.keeps k1).keeps k2) ap2.bs (by rw[be_length];omega) ?_
 intro v3 K3 h3
 simp(disch:=first|assumption|omega|(simp only[LN]<;>omega)|(simp(disch:=first|assumption|omega|(simp only[LN]<;>omega))only[row_alloc,row_set];assumption))only[P3,↓reduceIte,reduceAdd,reduceEqDiff,reduceCtorEq,initFr,reduceLT,clsA,reduceLeDiff,reduceMul,reduceSub,reduceIte]
 rw[W_block]
 refine W_loop2 (fun k fr X=>∃v m x2 x3,fr=[v,.int .i64 (n:Nat),x2,x3]∧OB 5 H X v (l++be 4 (crc l)++List.replicate m 0)∧l.length+4+m≤248∧k=248-(l.length+4+m)) (248-(l.length+4)) ?_ ?_
 ·exact⟨_,0,_,_,rfl,by simpa using h3,by omega,by omega⟩
 rintro Q' k fr X ⟨v,m,x2,x3,rfl,hb,hm,rfl⟩ hn2 hx hret
 have hl1:lenS v=l.length+4+m:=by rw[hb.len];simp[be_length];omega
 have hi:=hb.is
 by_cases hlt:l.length+4+m<248
 ·have h1:((l.length+4+m:Nat):Int)<248:=by omega
  simp(disch:=first|assumption|omega|(simp only[LN]<;>omega)|(simp(disch:=first|assumption|omega|(simp only[LN]<;>omega))only[row_alloc,row_set];assumption))only[W_block,P3,↓reduceIte,reduceAdd,reduceEqDiff,reduceCtorEq,initFr,reduceLT,clsA,reduceLeDiff,reduceMul,reduceSub,reduceIte,hl1]
  refine OB.appR (hb.keeps ((Keeps.refl X).alloc _)) (m:=[0]) ⟨⟨_,_,rfl⟩,elems_new (n:=1) rfl rfl⟩ (by simp[be_length];omega) ?_
  intro v' X' h'
  simp(disch:=first|assumption|omega|(simp only[LN]<;>omega)|(simp(disch:=first|assumption|omega|(simp only[LN]<;>omega))only[row_alloc,row_set];assumption))only[W_block,P3,↓reduceIte,reduceAdd,reduceEqDiff,reduceCtorEq,initFr,reduceLT,clsA,reduceLeDiff,reduceMul,reduceSub,reduceIte]
  refine hn2 _ _ _ ⟨_,m+1,_,_,rfl,?_,by omega,rfl⟩ (by omega)
  rw[List.replicate_succ',←List.append_assoc]
  exact h'
 ·have h1:¬((l.length+4+m:Nat):Int)<248:=by omega
  have hme:m=248-(l.length+4):=by omega
  simp(disch:=first|assumption|omega|(simp only[LN]<;>omega)|(simp(disch:=first|assumption|omega|(simp only[LN]<;>omega))only[row_alloc,row_set];assumption))only[W_block,P3,↓reduceIte,reduceAdd,reduceEqDiff,reduceCtorEq,initFr,reduceLT,clsA,reduceLeDiff,reduceMul,reduceSub,reduceIte,hl1]
  refine hx 0 _ _ ?_
  simp(disch:=first|assumption|omega|(simp only[LN]<;>omega)|(simp(disch:=first|assumption|omega|(simp only[LN]<;>omega))only[row_alloc,row_set];assumption))only[W_block,P3,↓reduceIte,reduceAdd,reduceEqDiff,reduceCtorEq,initFr,reduceLT,clsA,reduceLeDiff,reduceMul,reduceSub,reduceIte,hwn]
  refine callK (t93 n 8 (by omega) X) ?_
  rintro x5 K5 ⟨ap5,k5,f5⟩
  simp(disch:=first|assumption|omega|(simp only[LN]<;>omega)|(simp(disch:=first|assumption|omega|(simp only[LN]<;>omega))only[row_alloc,row_set];assumption))only[P3,↓reduceIte,reduceAdd,reduceEqDiff,reduceCtorEq,initFr,reduceLT,clsA,reduceLeDiff,reduceMul,reduceSub,reduceIte]
  refine OB.appR (hb.keeps k5) ap5.bs (by simp[be_length];omega) ?_
  intro v6 K6 h6
  have e:=a_b2sB h6.bs
  simp(disch:=first|assumption|omega|(simp only[LN]<;>omega)|(simp(disch:=first|assumption|omega|(simp only[LN]<;>omega))only[row_alloc,row_set];assumption))only[W_block,P3,↓reduceIte,reduceAdd,reduceEqDiff,reduceCtorEq,initFr,reduceLT,clsA,reduceLeDiff,reduceMul,reduceSub,reduceIte,e]
  refine hq2 _ _ ⟨_,rfl,?_,h6.k⟩
  rw[hme];rfl
theorem t33(K:AHeap)(t f:Nat)(ht:t≤9223372036854775807)(hf:f≤9223372036854775807):∃w K',ARun Go.Proofs.Tryz.prog 0 33 [.int .i64 (t:Nat),.int .i64 (f:Nat)] K w K'∧w=.string ⟨(headB t f).toArray⟩∧K'=K:=by
 suffices h':∃w K',ARun Go.Proofs.Tryz.prog 0 33 [.int .i64 (t:Nat),.int .i64 (f:Nat)] K w K'∧w=.string ⟨(headB t f).toArray⟩∧Keeps K K' by
  obtain⟨_,_,a,rfl,k⟩:=h'
  exact⟨_,_,a.gc0 k (.inr (.string _)),rfl,rfl⟩
 refine walk2 f33_ok f33_n ?_
 intro Q hq1 hq2
 have hwt:IntKind.u64.wrap ((t:Nat):Int)=((t:Nat):Int):=by rw[wrap_u64];omega
 have hwf:IntKind.u64.wrap ((f:Nat):Int)=((f:Nat):Int):=by rw[wrap_u64];omega
 have h0:OB 5 K (K.alloc (.cells true false 1 [.int .u8 72] 5)) (slc K.n 0 1 1) [72]:=OB.lit (l:=[72]) (c:=[.int .u8 72]) (n:=1) (Keeps.refl K) rfl rfl rfl false
 simp(disch:=first|assumption|omega|(simp only[LN]<;>omega)|(simp(disch:=first|assumption|omega|(simp only[LN]<;>omega))only[row_alloc,row_set];assumption))only[f33,P3,↓reduceIte,reduceAdd,reduceEqDiff,reduceCtorEq,initFr,reduceLT,clsA,reduceLeDiff,reduceMul,reduceSub,reduceIte,hwt]
 refine callK (t93 t 8 (by omega) _) ?_
 rintro x1 K1 ⟨ap1,k1,f1⟩
 simp(disch:=first|assumption|omega|(simp only[LN]<;>omega)|(simp(disch:=first|assumption|omega|(simp only[LN]<;>omega))only[row_alloc,row_set];assumption))only[P3,↓reduceIte,reduceAdd,reduceEqDiff,reduceCtorEq,initFr,reduceLT,clsA,reduceLeDiff,reduceMul,reduceSub,reduceIte]
 refine OB.appR (h0.keeps k1) ap1.bs (by simp[be_length]) ?_
 intro v2 K2 h2
 simp(disch:=first|assumption|omega|(simp only[LN]<;>omega)|(simp(disch:=first|assumption|omega|(simp only[LN]<;>omega))only[row_alloc,row_set];assumption))only[P3,↓reduceIte,reduceAdd,reduceEqDiff,reduceCtorEq,initFr,reduceLT,clsA,reduceLeDiff,reduceMul,reduceSub,reduceIte,hwf]
 refine callK (t93 f 8 (by omega) _) ?_
 rintro x3 K3 ⟨ap3,k3,f3⟩
 simp(disch:=first|assumption|omega|(simp only[LN]<;>omega)|(simp(disch:=first|assumption|omega|(simp only[LN]<;>omega))only[row_alloc,row_set];assumption))only[P3,↓reduceIte,reduceAdd,reduceEqDiff,reduceCtorEq,initFr,reduceLT,clsA,reduceLeDiff,reduceMul,reduceSub,reduceIte]
 refine OB.appR (h2.keeps k3) ap3.bs (by simp[be_length]) ?_
 intro v4 K4 h4
 simp(disch:=first|assumption|omega|(simp only[LN]<;>omega)|(simp(disch:=first|assumption|omega|(simp only[LN]<;>omega))only[row_alloc,row_set];assumption))only[P3,↓reduceIte,reduceAdd,reduceEqDiff,reduceCtorEq,initFr,reduceLT,clsA,reduceLeDiff,reduceMul,reduceSub,reduceIte]
 refine callK (t94 h4 (by simp[be_length]) t ht) ?_
 rintro _ K5 ⟨rfl,k5⟩
 simp(disch:=first|assumption|omega|(simp only[LN]<;>omega)|(simp(disch:=first|assumption|omega|(simp only[LN]<;>omega))only[row_alloc,row_set];assumption))only[W_block,P3,↓reduceIte,reduceAdd,reduceEqDiff,reduceCtorEq,initFr,reduceLT,clsA,reduceLeDiff,reduceMul,reduceSub,reduceIte]
 exact hq2 _ _ ⟨_,rfl,rfl,k5⟩
theorem t34(K:AHeap)(t:Nat)(s:List UInt8)(ht:t≤9223372036854775807)(hs:s.length≤232):∃w K',ARun Go.Proofs.Tryz.prog 0 34 [.int .i64 (t:Nat),.string ⟨s.toArray⟩] K w K'∧w=.string ⟨(recB t s).toArray⟩∧K'=K:=by
 suffices h':∃w K',ARun Go.Proofs.Tryz.prog 0 34 [.int .i64 (t:Nat),.string ⟨s.toArray⟩] K w K'∧w=.string ⟨(recB t s).toArray⟩∧Keeps K K' by
  obtain⟨_,_,a,rfl,k⟩:=h'
  exact⟨_,_,a.gc0 k (.inr (.string _)),rfl,rfl⟩
 refine walk2 f34_ok f34_n ?_
 intro Q hq1 hq2
 have hwt:IntKind.u64.wrap ((t:Nat):Int)=((t:Nat):Int):=by rw[wrap_u64];omega
 have hwl:IntKind.u64.wrap ((s.length:Nat):Int)=((s.length:Nat):Int):=by rw[wrap_u64];omega
 have h0:OB 5 K (K.alloc (.cells true false 1 [.int .u8 82] 5)) (slc K.n 0 1 1) [82]:=OB.lit (l:=[82]) (c:=[.int .u8 82]) (n:=1) (Keeps.refl K) rfl rfl rfl false
 simp(disch:=first|assumption|omega|(simp only[LN]<;>omega)|(simp(disch:=first|assumption|omega|(simp only[LN]<;>omega))only[row_alloc,row_set];assumption))only[f34,P3,↓reduceIte,reduceAdd,reduceEqDiff,reduceCtorEq,initFr,reduceLT,clsA,reduceLeDiff,reduceMul,reduceSub,reduceIte,hwt]
 refine callK (t93 t 8 (by omega) _) ?_
 rintro x1 K1 ⟨ap1,k1,f1⟩
 simp(disch:=first|assumption|omega|(simp only[LN]<;>omega)|(simp(disch:=first|assumption|omega|(simp only[LN]<;>omega))only[row_alloc,row_set];assumption))only[P3,↓reduceIte,reduceAdd,reduceEqDiff,reduceCtorEq,initFr,reduceLT,clsA,reduceLeDiff,reduceMul,reduceSub,reduceIte]
 refine OB.appR (h0.keeps k1) ap1.bs (by simp[be_length]) ?_
 intro v2 K2 h2
 simp(disch:=first|assumption|omega|(simp only[LN]<;>omega)|(simp(disch:=first|assumption|omega|(simp only[LN]<;>omega))only[row_alloc,row_set];assumption))only[P3,↓reduceIte,reduceAdd,reduceEqDiff,reduceCtorEq,initFr,reduceLT,clsA,reduceLeDiff,reduceMul,reduceSub,reduceIte,hwl,a_lens]
 refine callK (t93 s.length 2 (by omega) _) ?_
 rintro x3 K3 ⟨ap3,k3,f3⟩
 simp(disch:=first|assumption|omega|(simp only[LN]<;>omega)|(simp(disch:=first|assumption|omega|(simp only[LN]<;>omega))only[row_alloc,row_set];assumption))only[P3,↓reduceIte,reduceAdd,reduceEqDiff,reduceCtorEq,initFr,reduceLT,clsA,reduceLeDiff,reduceMul,reduceSub,reduceIte]
 refine OB.appR (h2.keeps k3) ap3.bs (by simp[be_length]) ?_
 intro v4 K4 h4
 simp(disch:=first|assumption|omega|(simp only[LN]<;>omega)|(simp(disch:=first|assumption|omega|(simp only[LN]<;>omega))only[row_alloc,row_set];assumption))only[P3,↓reduceIte,reduceAdd,reduceEqDiff,reduceCtorEq,initFr,reduceLT,clsA,reduceLeDiff,reduceMul,reduceSub,reduceIte]
 refine OB.appsR h4 (by simp[be_length];omega) ?_
 intro v5 K5 h5
 simp(disch:=first|assumption|omega|(simp only[LN]<;>omega)|(simp(disch:=first|assumption|omega|(simp only[LN]<;>omega))only[row_alloc,row_set];assumption))only[P3,↓reduceIte,reduceAdd,reduceEqDiff,reduceCtorEq,initFr,reduceLT,clsA,reduceLeDiff,reduceMul,reduceSub,reduceIte]
 refine callK (t94 h5 (by simp[be_length];omega) t ht) ?_
 rintro _ K6 ⟨rfl,k6⟩
 simp(disch:=first|assumption|omega|(simp only[LN]<;>omega)|(simp(disch:=first|assumption|omega|(simp only[LN]<;>omega))only[row_alloc,row_set];assumption))only[W_block,P3,↓reduceIte,reduceAdd,reduceEqDiff,reduceCtorEq,initFr,reduceLT,clsA,reduceLeDiff,reduceMul,reduceSub,reduceIte]
 exact hq2 _ _ ⟨_,rfl,rfl,k6⟩
theorem t122(K:AHeap)(l:List UInt8)(i:Nat)(hi:i+8≤l.length)(hl:l.length≤1000):∃w K',ARun Go.Proofs.Tryz.prog 0 122 [.string ⟨l.toArray⟩,.int .i64 (i:Nat)] K w K'∧w=.int .i64 (longW l i:Nat)∧K'=K:=by
 suffices h':∃w K',ARun Go.Proofs.Tryz.prog 0 122 [.string ⟨l.toArray⟩,.int .i64 (i:Nat)] K w K'∧w=.int .i64 (longW l i:Nat)∧Keeps K K' by
  obtain⟨_,_,a,rfl,k⟩:=h'
  exact⟨_,_,a.gc0 k (.inr (.int _ _)),rfl,rfl⟩
 refine walk2 f122_ok f122_n ?_
 intro Q hq1 hq2
 have hw:IntKind.i64.wrap ((i:Int)+8)=((i+8:Nat):Int):=by rw[wrap_i64 (by omega) (by omega)];simp
 have s1:=a_slsM (H:=K) (l:=l) (n:=i) (m:=i+8) (kd:=.i64) (kd':=.i64) (by omega) hi
 have e8:(l.take (i+8)).drop i=(l.drop i).take 8:=by rw[List.drop_take];congr 1;omega
 rw[e8]at s1
 have hn8:((l.drop i).take 8).length=8:=by rw[List.length_take,List.length_drop];omega
 have hnum:=num_lt' ((l.drop i).take 8)
 rw[hn8]at hnum
 have kk:=(Keeps.refl K).alloc (.cells true true 1 (cellsOf ((l.drop i).take 8)) 5)
 simp(disch:=first|assumption|omega|(simp only[LN]<;>omega)|(simp(disch:=first|assumption|omega|(simp only[LN]<;>omega))only[row_alloc,row_set];assumption))only[f122,W_block,P3,↓reduceIte,reduceAdd,reduceEqDiff,reduceCtorEq,initFr,reduceLT,clsA,reduceLeDiff,reduceMul,reduceSub,reduceIte,hw,s1]
 have hb:BS (K.alloc (.cells true true 1 (cellsOf ((l.drop i).take 8)) 5)) (slc K.n 0 ((l.drop i).take 8).length ((l.drop i).take 8).length) ((l.drop i).take 8):=⟨⟨_,_,rfl⟩,elems_new (n:=((l.drop i).take 8).length) rfl (by rw[cellsOf_length];omega)⟩
 refine⟨_,_,t123 hb (by omega),?_⟩
 generalize hx:num ((l.drop i).take 8)=x at*
 have hwx:x≤4611686018427387904→IntKind.i64.wrap ((x:Nat):Int)=((x:Nat):Int):=fun h=>wrap_i64 (by omega) (by omega)
 by_cases h1:x<1
 ·have e:longW l i=0:=by unfold longW;rw[hx,if_pos (.inl h1)]
  rw[e]at hq2
  have d1:((x:Nat):Int)<1:=by omega
  simp(disch:=first|assumption|omega|(simp only[LN]<;>omega)|(simp(disch:=first|assumption|omega|(simp only[LN]<;>omega))only[row_alloc,row_set];assumption))only[W_block,P3,↓reduceIte,reduceAdd,reduceEqDiff,reduceCtorEq,initFr,reduceLT,clsA,reduceLeDiff,reduceMul,reduceSub,reduceIte]
  exact hq2 _ _ ⟨_,rfl,rfl,kk⟩
 ·have d1:¬((x:Nat):Int)<1:=by omega
  by_cases h2:4611686018427387904<x
  ·have e:longW l i=0:=by unfold longW;rw[hx,if_pos (.inr h2)]
   rw[e]at hq2
   have d2:(4611686018427387904:Int)<((x:Nat):Int):=by omega
   simp(disch:=first|assumption|omega|(simp only[LN]<;>omega)|(simp(disch:=first|assumption|omega|(simp only[LN]<;>omega))only[row_alloc,row_set];assumption))only[W_block,P3,↓reduceIte,reduceAdd,reduceEqDiff,reduceCtorEq,initFr,reduceLT,clsA,reduceLeDiff,reduceMul,reduceSub,reduceIte]
   exact hq2 _ _ ⟨_,rfl,rfl,kk⟩
  ·have e:longW l i=x:=by unfold longW;rw[hx,if_neg (by omega)]
   rw[e]at hq2
   have d2:¬(4611686018427387904:Int)<((x:Nat):Int):=by omega
   have hwx:=hwx (by omega)
   simp(disch:=first|assumption|omega|(simp only[LN]<;>omega)|(simp(disch:=first|assumption|omega|(simp only[LN]<;>omega))only[row_alloc,row_set];assumption))only[W_block,P3,↓reduceIte,reduceAdd,reduceEqDiff,reduceCtorEq,initFr,reduceLT,clsA,reduceLeDiff,reduceMul,reduceSub,reduceIte,hwx]
   exact hq2 _ _ ⟨_,rfl,rfl,kk⟩
theorem t74(K:AHeap)(l:List UInt8)(hl:l.length=256):∃w K',ARun Go.Proofs.Tryz.prog 0 74 [.string ⟨l.toArray⟩] K w K'∧w=.tuple #[.int .i64 ((headW l).1 :Nat),.int .i64 ((headW l).2 :Nat)]∧K'=K:=by
 refine walk2 f74_ok f74_n ?_
 intro Q hq1 hq2
 have b1:=longW_le l 1
 have b2:=longW_le l 9
 simp(disch:=first|assumption|omega|(simp only[LN]<;>omega)|(simp(disch:=first|assumption|omega|(simp only[LN]<;>omega))only[row_alloc,row_set];assumption))only[f74,W_block,P3,↓reduceIte,reduceAdd,reduceEqDiff,reduceCtorEq,initFr,reduceLT,clsA,reduceLeDiff,reduceMul,reduceSub,reduceIte]
 refine callK (t122 K l 1 (by omega) (by omega)) ?_
 rintro _ X ⟨rfl,hX⟩
 rw[hX]
 simp(disch:=first|assumption|omega|(simp only[LN]<;>omega)|(simp(disch:=first|assumption|omega|(simp only[LN]<;>omega))only[row_alloc,row_set];assumption))only[W_block,P3,↓reduceIte,reduceAdd,reduceEqDiff,reduceCtorEq,initFr,reduceLT,clsA,reduceLeDiff,reduceMul,reduceSub,reduceIte]
 refine callK (t122 K l 9 (by omega) (by omega)) ?_
 rintro _ X ⟨rfl,hX⟩
 rw[hX]
 by_cases h1:longW l 1=0
 ·have e:headW l=(0,0):=by unfold headW;rw[if_pos (.inl h1)]
  rw[e]at hq2
  have d1:(((longW l 1:Nat):Int)==0)=true:=beqi_yes (by omega)
  simp(disch:=first|assumption|omega|(simp only[LN]<;>omega)|(simp(disch:=first|assumption|omega|(simp only[LN]<;>omega))only[row_alloc,row_set];assumption))only[W_block,P3,↓reduceIte,reduceAdd,reduceEqDiff,reduceCtorEq,initFr,reduceLT,clsA,reduceLeDiff,reduceMul,reduceSub,reduceIte,d1]
  exact hq2 _ _ ⟨_,rfl,rfl,rfl⟩
 ·have d1:(((longW l 1:Nat):Int)==0)=false:=beqi_no (by omega)
  by_cases h2:longW l 9=0
  ·have e:headW l=(0,0):=by unfold headW;rw[if_pos (.inr (.inl h2))]
   rw[e]at hq2
   have d2:(((longW l 9:Nat):Int)==0)=true:=beqi_yes (by omega)
   simp(disch:=first|assumption|omega|(simp only[LN]<;>omega)|(simp(disch:=first|assumption|omega|(simp only[LN]<;>omega))only[row_alloc,row_set];assumption))only[W_block,P3,↓reduceIte,reduceAdd,reduceEqDiff,reduceCtorEq,initFr,reduceLT,clsA,reduceLeDiff,reduceMul,reduceSub,reduceIte,d1,d2]
   exact hq2 _ _ ⟨_,rfl,rfl,rfl⟩
  ·have d2:(((longW l 9:Nat):Int)==0)=false:=beqi_no (by omega)
   simp(disch:=first|assumption|omega|(simp only[LN]<;>omega)|(simp(disch:=first|assumption|omega|(simp only[LN]<;>omega))only[row_alloc,row_set];assumption))only[W_block,P3,↓reduceIte,reduceAdd,reduceEqDiff,reduceCtorEq,initFr,reduceLT,clsA,reduceLeDiff,reduceMul,reduceSub,reduceIte,d1,d2]
   refine callK (t33 K _ _ (by omega) (by omega)) ?_
   rintro _ X ⟨rfl,hX⟩
   rw[hX]
   have e3:=b_neS (headB (longW l 1) (longW l 9)) l
   by_cases h3:headB (longW l 1) (longW l 9)=l
   ·have e:headW l=(longW l 1,longW l 9):=by unfold headW;rw[if_neg (by simp[h1,h2,h3])]
    rw[e]at hq2
    rw[decide_eq_true h3]at e3
    simp(disch:=first|assumption|omega|(simp only[LN]<;>omega)|(simp(disch:=first|assumption|omega|(simp only[LN]<;>omega))only[row_alloc,row_set];assumption))only[W_block,P3,↓reduceIte,reduceAdd,reduceEqDiff,reduceCtorEq,initFr,reduceLT,clsA,reduceLeDiff,reduceMul,reduceSub,reduceIte,e3]
    exact hq2 _ _ ⟨_,rfl,rfl,rfl⟩
   ·have e:headW l=(0,0):=by unfold headW;rw[if_pos (.inr (.inr h3))]
    rw[e]at hq2
    rw[decide_eq_false h3]at e3
    simp(disch:=first|assumption|omega|(simp only[LN]<;>omega)|(simp(disch:=first|assumption|omega|(simp only[LN]<;>omega))only[row_alloc,row_set];assumption))only[W_block,P3,↓reduceIte,reduceAdd,reduceEqDiff,reduceCtorEq,initFr,reduceLT,clsA,reduceLeDiff,reduceMul,reduceSub,reduceIte,e3]
    exact hq2 _ _ ⟨_,rfl,rfl,rfl⟩
theorem t80(K:AHeap)(l:List UInt8)(hl:l.length=256):∃w K',ARun Go.Proofs.Tryz.prog 0 80 [.string ⟨l.toArray⟩] K w K'∧w=.tuple #[.int .i64 ((recW l).1 :Nat),.string ⟨(recW l).2.toArray⟩]∧K'=K:=by
 suffices h':∃w K',ARun Go.Proofs.Tryz.prog 0 80 [.string ⟨l.toArray⟩] K w K'∧w=.tuple #[.int .i64 ((recW l).1 :Nat),.string ⟨(recW l).2.toArray⟩]∧Keeps K K' by
  obtain⟨_,_,a,rfl,k⟩:=h'
  exact⟨_,_,a.gc0 k (.inr (NV.tuple_of (l:=[_,_]) (l':=[_,_]) (.cons (.int _ _) (.cons (.string _) .nil)))),rfl,rfl⟩
 refine walk2 f80_ok f80_n ?_
 intro Q hq1 hq2
 have b1:=longW_le l 1
 have s1:asem (.slstr (.string ⟨l.toArray⟩) (some (.int .i64 9)) (some (.int .i64 11))) K=_:=a_slsM (H:=K) (l:=l) (n:=9) (m:=11) (kd:=.i64) (kd':=.i64) (by omega) (by omega)
 have e8:(l.take 11).drop 9=(l.drop 9).take 2:=by rw[List.drop_take]
 rw[e8]at s1
 have hn2:((l.drop 9).take 2).length=2:=by rw[List.length_take,List.length_drop];omega
 have hnum:=num_lt' ((l.drop 9).take 2)
 rw[hn2]at hnum
 have kk:=(Keeps.refl K).alloc (.cells true true 1 (cellsOf ((l.drop 9).take 2)) 5)
 have hb:BS (K.alloc (.cells true true 1 (cellsOf ((l.drop 9).take 2)) 5)) (slc K.n 0 ((l.drop 9).take 2).length ((l.drop 9).take 2).length) ((l.drop 9).take 2):=⟨⟨_,_,rfl⟩,elems_new (n:=((l.drop 9).take 2).length) rfl (by rw[cellsOf_length];omega)⟩
 simp(disch:=first|assumption|omega|(simp only[LN]<;>omega)|(simp(disch:=first|assumption|omega|(simp only[LN]<;>omega))only[row_alloc,row_set];assumption))only[f80,W_block,P3,↓reduceIte,reduceAdd,reduceEqDiff,reduceCtorEq,initFr,reduceLT,clsA,reduceLeDiff,reduceMul,reduceSub,reduceIte]
 refine callK (t122 K l 1 (by omega) (by omega)) ?_
 rintro _ X ⟨rfl,hX⟩
 rw[hX]
 simp(disch:=first|assumption|omega|(simp only[LN]<;>omega)|(simp(disch:=first|assumption|omega|(simp only[LN]<;>omega))only[row_alloc,row_set];assumption))only[W_block,P3,↓reduceIte,reduceAdd,reduceEqDiff,reduceCtorEq,initFr,reduceLT,clsA,reduceLeDiff,reduceMul,reduceSub,reduceIte,s1]
 refine⟨_,_,t123 hb (by omega),?_⟩
 have hln:lenW l=num ((l.drop 9).take 2):=rfl
 rw[←hln]at hnum ⊢
 have hwx:IntKind.i64.wrap ((lenW l:Nat):Int)=((lenW l:Nat):Int):=wrap_i64 (by omega) (by omega)
 generalize K.alloc (.cells true true 1 (cellsOf ((l.drop 9).take 2)) 5)=K1 at*
 by_cases h1:longW l 1=0
 ·have e:recW l=(0,[]):=by unfold recW;rw[if_pos (.inl h1)]
  rw[e]at hq2
  have d1:(((longW l 1:Nat):Int)==0)=true:=beqi_yes (by omega)
  simp(disch:=first|assumption|omega|(simp only[LN]<;>omega)|(simp(disch:=first|assumption|omega|(simp only[LN]<;>omega))only[row_alloc,row_set];assumption))only[W_block,P3,↓reduceIte,reduceAdd,reduceEqDiff,reduceCtorEq,initFr,reduceLT,clsA,reduceLeDiff,reduceMul,reduceSub,reduceIte,hwx,d1]
  exact hq2 _ _ ⟨_,rfl,rfl,kk⟩
 ·have d1:(((longW l 1:Nat):Int)==0)=false:=beqi_no (by omega)
  by_cases h2:232<lenW l
  ·have e:recW l=(0,[]):=by unfold recW;rw[if_pos (.inr (.inl h2))]
   rw[e]at hq2
   have d2:(232:Int)<((lenW l:Nat):Int):=by omega
   simp(disch:=first|assumption|omega|(simp only[LN]<;>omega)|(simp(disch:=first|assumption|omega|(simp only[LN]<;>omega))only[row_alloc,row_set];assumption))only[W_block,P3,↓reduceIte,reduceAdd,reduceEqDiff,reduceCtorEq,initFr,reduceLT,clsA,reduceLeDiff,reduceMul,reduceSub,reduceIte,hwx,d1]
   exact hq2 _ _ ⟨_,rfl,rfl,kk⟩
  ·have d2:¬(232:Int)<((lenW l:Nat):Int):=by omega
   have hw11:IntKind.i64.wrap (11+((lenW l:Nat):Int))=((11+lenW l:Nat):Int):=by rw[wrap_i64 (by omega) (by omega)];simp
   have s2:asem (.slstr (.string ⟨l.toArray⟩) (some (.int .i64 11)) (some (.int .i64 ((11+lenW l:Nat):Int)))) K1=_:=a_slsM (H:=K1) (l:=l) (n:=11) (m:=11+lenW l) (kd:=.i64) (kd':=.i64) (by omega) (by omega)
   have e9:(l.take (11+lenW l)).drop 11=(l.drop 11).take (lenW l):=by rw[List.drop_take];congr 1;omega
   rw[e9]at s2
   have hlen:((l.drop 11).take (lenW l)).length≤232:=by rw[List.length_take];omega
   simp(disch:=first|assumption|omega|(simp only[LN]<;>omega)|(simp(disch:=first|assumption|omega|(simp only[LN]<;>omega))only[row_alloc,row_set];assumption))only[W_block,P3,↓reduceIte,reduceAdd,reduceEqDiff,reduceCtorEq,initFr,reduceLT,clsA,reduceLeDiff,reduceMul,reduceSub,reduceIte,hwx,d1,hw11,s2]
   refine callK (t34 K1 (longW l 1) ((l.drop 11).take (lenW l)) (by omega) hlen) ?_
   rintro _ X ⟨rfl,hX⟩
   rw[hX]
   have e3:=b_neS (recB (longW l 1) ((l.drop 11).take (lenW l))) l
   by_cases h3:recB (longW l 1) ((l.drop 11).take (lenW l))=l
   ·have e:recW l=(longW l 1,(l.drop 11).take (lenW l)):=by unfold recW;rw[if_neg (by simp[h1,h3];omega)]
    rw[e]at hq2
    rw[decide_eq_true h3]at e3
    simp(disch:=first|assumption|omega|(simp only[LN]<;>omega)|(simp(disch:=first|assumption|omega|(simp only[LN]<;>omega))only[row_alloc,row_set];assumption))only[W_block,P3,↓reduceIte,reduceAdd,reduceEqDiff,reduceCtorEq,initFr,reduceLT,clsA,reduceLeDiff,reduceMul,reduceSub,reduceIte,e3,hw11,s2]
    exact hq2 _ _ ⟨_,rfl,rfl,kk⟩
   ·have e:recW l=(0,[]):=by unfold recW;rw[if_pos (.inr (.inr h3))]
    rw[e]at hq2
    rw[decide_eq_false h3]at e3
    simp(disch:=first|assumption|omega|(simp only[LN]<;>omega)|(simp(disch:=first|assumption|omega|(simp only[LN]<;>omega))only[row_alloc,row_set];assumption))only[W_block,P3,↓reduceIte,reduceAdd,reduceEqDiff,reduceCtorEq,initFr,reduceLT,clsA,reduceLeDiff,reduceMul,reduceSub,reduceIte,e3]
    exact hq2 _ _ ⟨_,rfl,rfl,kk⟩
theorem t75(K:AHeap)(l:List UInt8)(hl:l.length≤1000):∃w K',ARun Go.Proofs.Tryz.prog 0 75 [.string ⟨l.toArray⟩] K w K'∧w=.bool (l.all fun x=>x==0)∧K'=K:=by
 refine walk2 f75_ok f75_n ?_
 intro Q hq1 hq2
 simp(disch:=first|assumption|omega|(simp only[LN]<;>omega)|(simp(disch:=first|assumption|omega|(simp only[LN]<;>omega))only[row_alloc,row_set];assumption))only[f75,P3,↓reduceIte,reduceAdd,reduceEqDiff,reduceCtorEq,initFr,reduceLT,clsA,reduceLeDiff,reduceMul,reduceSub,reduceIte]
 rw[W_block]
 refine W_loop2 (fun k fr X=>∃i x3 x4,fr=[.string ⟨l.toArray⟩,.bool false,.int .i64 (i:Nat),x3,x4]∧X=K∧(l.take i).all (fun x=>x==0)=true∧i≤l.length∧k=l.length-i) l.length ⟨0,_,_,rfl,rfl,by simp,by omega,by omega⟩ ?_
 rintro Q' k fr X ⟨i,x3,x4,rfl,hX,ha,hi,rfl⟩ hn hx hret
 subst hX
 by_cases hlt:i<l.length
 ·have d1:(i:Int)<((l.length:Nat):Int):=by omega
  have e1:=a_idxS (H:=X) (l:=l) (n:=i) (kd:=.i64) hlt
  have hg:l.getD i 0=l[i]:=by simp[List.getD,List.getElem?_eq_getElem hlt]
  rw[hg]at e1
  have hw:IntKind.i64.wrap ((i:Int)+1)=((i+1:Nat):Int):=by rw[wrap_i64 (by omega) (by omega)];simp
  have ht:l.take (i+1)=l.take i++[l[i]]:=by rw[List.take_add_one,List.getElem?_eq_getElem hlt];rfl
  by_cases h0:l[i]=0
  ·have d2:(((l[i].toNat:Nat):Int) != 0)=false:=by rw[h0];rfl
   simp(disch:=first|assumption|omega|(simp only[LN]<;>omega)|(simp(disch:=first|assumption|omega|(simp only[LN]<;>omega))only[row_alloc,row_set];assumption))only[W_block,P3,↓reduceIte,reduceAdd,reduceEqDiff,reduceCtorEq,initFr,reduceLT,clsA,reduceLeDiff,reduceMul,reduceSub,reduceIte,a_lens,e1,d2,hw]
   exact hn _ _ _ ⟨i+1,_,_,rfl,rfl,by rw[ht,List.all_append,ha];simp[h0],by omega,rfl⟩ (by omega)
  ·have d2:(((l[i].toNat:Nat):Int) != 0)=true:=bnei_yes (fun h=>h0 (UInt8.toNat_inj.1 (by simpa using h)))
   simp(disch:=first|assumption|omega|(simp only[LN]<;>omega)|(simp(disch:=first|assumption|omega|(simp only[LN]<;>omega))only[row_alloc,row_set];assumption))only[W_block,P3,↓reduceIte,reduceAdd,reduceEqDiff,reduceCtorEq,initFr,reduceLT,clsA,reduceLeDiff,reduceMul,reduceSub,reduceIte,a_lens,e1,d2]
   have e:(l.all fun x=>x==0)=false:=by
    rw[List.all_eq_false]
    exact⟨l[i],List.getElem_mem _,by simpa using h0⟩
   rw[e]at hq2
   exact hret _ _ (hq2 _ _ ⟨_,rfl,rfl,rfl⟩)
 ·have d1:¬(i:Int)<((l.length:Nat):Int):=by omega
  simp(disch:=first|assumption|omega|(simp only[LN]<;>omega)|(simp(disch:=first|assumption|omega|(simp only[LN]<;>omega))only[row_alloc,row_set];assumption))only[W_block,P3,↓reduceIte,reduceAdd,reduceEqDiff,reduceCtorEq,initFr,reduceLT,clsA,reduceLeDiff,reduceMul,reduceSub,reduceIte,a_lens]
  refine hx 0 _ _ ?_
  simp(disch:=first|assumption|omega|(simp only[LN]<;>omega)|(simp(disch:=first|assumption|omega|(simp only[LN]<;>omega))only[row_alloc,row_set];assumption))only[W_block,P3,↓reduceIte,reduceAdd,reduceEqDiff,reduceCtorEq,initFr,reduceLT,clsA,reduceLeDiff,reduceMul,reduceSub,reduceIte]
  rw[List.take_of_length_le (by omega)]at ha
  rw[ha]at hq2
  exact hq2 _ _ ⟨_,rfl,rfl,rfl⟩
end Go.AM.Fd

set_option linter.unusedSimpArgs false
set_option linter.unusedVariables false
namespace Go.AM.Fd
open Nat (reduceAdd reduceEqDiff reduceLT reduceLeDiff reduceMul reduceSub)
open Go.Proofs Go.AM.F
theorem t117(K:AHeap)(n:Int):∃w K',ARun Go.Proofs.Tryz.prog 0 117 [.int .i64 n] K w K'∧w=.bool (decide (1≤n∧n≤4611686018427387904))∧K'=K:=by
 refine walk2 f117_ok f117_n ?_
 intro Q hq1 hq2
 by_cases h1:1≤n
 ·by_cases h2:n≤4611686018427387904
  ·simp(disch:=first|assumption|omega|(simp only[LN]<;>omega)|(simp(disch:=first|assumption|omega|(simp only[LN]<;>omega))only[row_alloc,row_set];assumption))only[f117,W_block,P3,↓reduceIte,reduceAdd,reduceEqDiff,reduceCtorEq,initFr,reduceLT,clsA,reduceLeDiff,reduceMul,reduceSub,reduceIte]
   exact hq2 _ _ ⟨_,rfl,by simp[h1,h2,tupV],rfl⟩
  ·simp(disch:=first|assumption|omega|(simp only[LN]<;>omega)|(simp(disch:=first|assumption|omega|(simp only[LN]<;>omega))only[row_alloc,row_set];assumption))only[f117,W_block,P3,↓reduceIte,reduceAdd,reduceEqDiff,reduceCtorEq,initFr,reduceLT,clsA,reduceLeDiff,reduceMul,reduceSub,reduceIte]
   exact hq2 _ _ ⟨_,rfl,by simp[h1,h2,tupV],rfl⟩
 ·simp(disch:=first|assumption|omega|(simp only[LN]<;>omega)|(simp(disch:=first|assumption|omega|(simp only[LN]<;>omega))only[row_alloc,row_set];assumption))only[f117,W_block,P3,↓reduceIte,reduceAdd,reduceEqDiff,reduceCtorEq,initFr,reduceLT,clsA,reduceLeDiff,reduceMul,reduceSub,reduceIte]
  exact hq2 _ _ ⟨_,rfl,by simp[h1,tupV],rfl⟩
theorem WS.keeps{H H':AHeap}{b bv:Nat}{l:List UInt8}(h:WS H b bv l)(k:Keeps H H'):WS H' b bv l:=h.chg (k.chg []) (by simp) (by simp)
theorem mksl_z(H:AHeap)(m:Nat)(hm:m≤1000):asem (.mksl 5 1 1 [.int .u8 0] (.int .i64 (m:Nat)) (.int .i64 (m:Nat))) H=some (slc H.n 0 m m,H.alloc (.cells true false 1 (cellsOf (List.replicate m 0)) 5)):=by
 have e:(List.replicate m [Value.int .u8 0]).flatten=cellsOf (List.replicate m 0):=by
  simp only[cellsOf,List.map_replicate]
  induction m with
  |zero=>rfl
  |succ m ih=>rw[List.replicate_succ,List.flatten_cons,ih (by omega),List.replicate_succ];rfl
 simp only[asem,Int.toNat_natCast,e]
 rw[if_pos]
 exact⟨by omega,by omega,by omega,by omega,rfl,rfl⟩
theorem walTail{K X:AHeap}{Q:AQ}{w e bw be' n:Nat}{b:List UInt8}{v y4 y5 y6 y8:Value}(hb:b.length≤244)(hW:WS X w bw b)(hE:WS X e be' (be 8 n))(k:Keeps K X)(h1:K.n≤w)(h2:K.n≤bw)(h3:K.n≤e)(h4:K.n≤be')(d1:w≠e)(d2:bw≠e)(d3:w≠be')(d4:bw≠be')
 (hq2:∀fr H2,(∃v,resO f121.res fr H2=some v∧BS H2 v (tailW b n)∧Keeps K H2∧Fresh K.n v)→Q .ret fr H2):W Go.Proofs.Tryz.prog 0 (cpost 3 f121.body) Q [v,.slice none 0 0,ptr w 0,ptr e 0,y4,y5,y6,undef,y8] X:=by
 have hcl:=crc_lt b
 have le8:=be_length 8 n
 simp(disch:=first|assumption|omega|(simp only[LN]<;>omega)|(simp(disch:=first|assumption|omega|(simp only[LN]<;>omega))only[row_alloc,row_set];assumption))only[f121,P3,↓reduceIte,reduceAdd,reduceEqDiff,reduceCtorEq,initFr,reduceLT,clsA,reduceLeDiff,reduceMul,reduceSub,reduceIte,cpost]
 refine callK (t155 hW (by omega)) ?_
 rintro x1 X1 ⟨ap1,k1,f1⟩
 simp(disch:=first|assumption|omega|(simp only[LN]<;>omega)|(simp(disch:=first|assumption|omega|(simp only[LN]<;>omega))only[row_alloc,row_set];assumption))only[P3,↓reduceIte,reduceAdd,reduceEqDiff,reduceCtorEq,initFr,reduceLT,clsA,reduceLeDiff,reduceMul,reduceSub,reduceIte]
 refine callK (t154 ap1.bs (by omega)) ?_
 rintro _ X2 ⟨rfl,hX2⟩
 rw[hX2]
 simp(disch:=first|assumption|omega|(simp only[LN]<;>omega)|(simp(disch:=first|assumption|omega|(simp only[LN]<;>omega))only[row_alloc,row_set];assumption))only[P3,↓reduceIte,reduceAdd,reduceEqDiff,reduceCtorEq,initFr,reduceLT,clsA,reduceLeDiff,reduceMul,reduceSub,reduceIte]
 refine callK (t153 (hW.keeps k1) (crc b) hcl (by omega)) ?_
 rintro _ X3 ⟨bw',hW3,hbw,c3⟩
 have hE3:=(hE.keeps k1).chg c3 (by simp;exact⟨fun h=>d1 h.symm,fun h=>d2 h.symm⟩) (by simp;exact⟨fun h=>d3 h.symm,fun h=>d4 h.symm⟩)
 have k3:Keeps K X3:=(k.trans k1).chg_trans c3 (by simp;omega)
 have lw:(b++be 4 (crc b)).length=b.length+4:=by simp[be_length]
 simp(disch:=first|assumption|omega|(simp only[LN]<;>omega)|(simp(disch:=first|assumption|omega|(simp only[LN]<;>omega))only[row_alloc,row_set];assumption))only[P3,↓reduceIte,reduceAdd,reduceEqDiff,reduceCtorEq,initFr,reduceLT,clsA,reduceLeDiff,reduceMul,reduceSub,reduceIte]
 refine callK (t155 hW3 (by omega)) ?_
 rintro x4 X4 ⟨ap4,k4,f4⟩
 have l4:lenS x4=b.length+4:=by rw[ap4.bs.lenS,lw]
 have i4:=ap4.bs.isS
 have w4:IntKind.i64.wrap (256-((b.length+4:Nat):Int))=((252-b.length:Nat):Int):=by rw[wrap_i64 (by omega) (by omega)];omega
 simp(disch:=first|assumption|omega|(simp only[LN]<;>omega)|(simp(disch:=first|assumption|omega|(simp only[LN]<;>omega))only[row_alloc,row_set];assumption))only[P3,↓reduceIte,reduceAdd,reduceEqDiff,reduceCtorEq,initFr,reduceLT,clsA,reduceLeDiff,reduceMul,reduceSub,reduceIte,l4,w4]
 refine callK (t155 (hE3.keeps k4) (by omega)) ?_
 rintro x5 X5 ⟨ap5,k5,f5⟩
 have l5:lenS x5=8:=by rw[ap5.bs.lenS,le8]
 have i5:=ap5.bs.isS
 have w5:IntKind.i64.wrap (((252-b.length:Nat):Int)-((8:Nat):Int))=((244-b.length:Nat):Int):=by rw[wrap_i64 (by omega) (by omega)];omega
 have m5:=mksl_z X5 (244-b.length) (by omega)
 simp(disch:=first|assumption|omega|(simp only[LN]<;>omega)|(simp(disch:=first|assumption|omega|(simp only[LN]<;>omega))only[row_alloc,row_set];assumption))only[P3,↓reduceIte,reduceAdd,reduceEqDiff,reduceCtorEq,initFr,reduceLT,clsA,reduceLeDiff,reduceMul,reduceSub,reduceIte,l5,w5,m5]
 have k6:Keeps X5 (X5.alloc (.cells true false 1 (cellsOf (List.replicate (244-b.length) 0)) 5)):=(Keeps.refl X5).alloc _
 have b6:BS (X5.alloc (.cells true false 1 (cellsOf (List.replicate (244-b.length) 0)) 5)) (slc X5.n 0 (244-b.length) (244-b.length)) (List.replicate (244-b.length) 0):=⟨⟨_,_,by rw[List.length_replicate];rfl⟩,elems_new (n:=244-b.length) rfl (by rw[cellsOf_length,List.length_replicate];omega)⟩
 generalize X5.alloc (.cells true false 1 (cellsOf (List.replicate (244-b.length) 0)) 5)=X6 at*
 refine callK (t155 (((hW3.keeps k4).keeps k5).keeps k6) (by omega)) ?_
 rintro x7 X7 ⟨ap7,k7,f7⟩
 simp(disch:=first|assumption|omega|(simp only[LN]<;>omega)|(simp(disch:=first|assumption|omega|(simp only[LN]<;>omega))only[row_alloc,row_set];assumption))only[P3,↓reduceIte,reduceAdd,reduceEqDiff,reduceCtorEq,initFr,reduceLT,clsA,reduceLeDiff,reduceMul,reduceSub,reduceIte]
 refine callK (t155 ((((hE3.keeps k4).keeps k5).keeps k6).keeps k7) (by omega)) ?_
 rintro x8 X8 ⟨ap8,k8,f8⟩
 have o7:=one_isS ap7.bs.isS
 have o8:=one_isS ap8.bs.isS
 have c7:=cells_isS ap7.bs.isS
 have c8:=cells_isS ap8.bs.isS
 have hf:fillA [.slice none 0 0,.slice none 0 0,.slice none 0 0] [(0,1,x7),(1,1,slc X5.n 0 (244-b.length) (244-b.length)),(2,1,x8)]=some [x7,slc X5.n 0 (244-b.length) (244-b.length),x8]:=by
  simp only[fill_cons,c7,c8,cells_slc];rfl
 have oo:[x7,slc X5.n 0 (244-b.length) (244-b.length),x8].all Value.oneCell'=true:=by simp only[List.all_cons,o7,o8];rfl
 simp(disch:=first|assumption|omega|(simp only[LN]<;>omega)|(simp(disch:=first|assumption|omega|(simp only[LN]<;>omega))only[row_alloc,row_set];assumption))only[P3,↓reduceIte,reduceAdd,reduceEqDiff,reduceCtorEq,initFr,reduceLT,clsA,reduceLeDiff,reduceMul,reduceSub,reduceIte,hf,oo]
 refine callK (t156' (vs:=[(x7,b++be 4 (crc b)),(slc X5.n 0 (244-b.length) (244-b.length),List.replicate (244-b.length) 0),(x8,be 8 n)]) ?_ ?_ (by simp) ?_) ?_
 ·refine⟨⟨_,_,rfl⟩,by simp,elems_new (n:=3) rfl rfl⟩
 ·intro x hx
  have k9:=(Keeps.refl X8).alloc (.cells true false 1 [x7,slc X5.n 0 (244-b.length) (244-b.length),x8] 38)
  simp only[List.mem_cons,List.not_mem_nil,or_false]at hx
  rcases hx with rfl|rfl|rfl
  ·exact(ap7.bs.keeps k8).keeps k9
  ·exact((b6.keeps k7).keeps k8).keeps k9
  ·exact ap8.bs.keeps k9
 ·simp[be_length];omega
 rintro x9 X9 ⟨b9,k9,f9⟩
 simp(disch:=first|assumption|omega|(simp only[LN]<;>omega)|(simp(disch:=first|assumption|omega|(simp only[LN]<;>omega))only[row_alloc,row_set];assumption))only[W_block,P3,↓reduceIte,reduceAdd,reduceEqDiff,reduceCtorEq,initFr,reduceLT,clsA,reduceLeDiff,reduceMul,reduceSub,reduceIte]
 have kk:Keeps K X8:=((((k3.trans k4).trans k5).trans k6).trans k7).trans k8
 refine hq2 _ _ ⟨_,rfl,?_,(kk.alloc _).trans k9,fun y hy=>?_⟩
 ·have e:tailW b n=(([(x7,b++be 4 (crc b)),(slc X5.n 0 (244-b.length) (244-b.length),List.replicate (244-b.length) 0),(x8,be 8 n)]:List (Value×List UInt8)).map (·.2)).flatten:=by
   simp only[tailW,List.map_cons,List.map_nil,List.flatten_cons,List.flatten_nil,List.append_nil,List.append_assoc]
   rw[show 248-(b.length+4)=244-b.length by omega]
  rw[e];exact b9
 ·have:=f9 y hy
  rw[alloc_n]at this
  have:=kk.n
  omega
structure W2 (K X:AHeap) (w e:Nat) (b c:List UInt8) (p:Nat) (o:AO):Prop where
 x:∃bw ce,WS X w bw b∧WS X e ce c∧K.n≤w∧K.n≤bw∧K.n≤e∧K.n≤ce∧w≠e∧bw≠e∧w≠ce∧bw≠ce∧(p≠w∧p≠bw)∧p≠e∧p≠ce
 k:Keeps K X
 g:X.get p=some o
section
variable {K X Y:AHeap} {w e p:Nat} {b c:List UInt8} {o:AO}
theorem W2.put(h:W2 K X w e b c p o){f:FuncId}{xs:List Value}{b':List UInt8}(hf:∀bw,WS X w bw b→∃v H',ARun Go.Proofs.Tryz.prog 0 f xs X v H'∧Put X H' w bw b'):∃v H',ARun Go.Proofs.Tryz.prog 0 f xs X v H'∧W2 K H' w e b' c p o:=by
 obtain⟨bw,ce,hw,he,h1,h2,h3,h4,d1,d2,d3,d4,d5,d6,d7⟩:=h.x
 obtain⟨v,H',r,bw',hw',hb,c'⟩:=hf bw hw
 have hn:=c'.n
 have lw:=hw.lt
 have le:=he.lt
 have lp:=AHeap.get_lt h.g
 refine⟨v,H',r,⟨bw',ce,hw',he.chg c' (by simp;exact⟨fun h=>d1 h.symm,fun h=>d2 h.symm⟩) (by simp;exact⟨fun h=>d3 h.symm,fun h=>d4 h.symm⟩),h1,?_,h3,h4,d1,?_,d3,?_,⟨d5.1,?_⟩,d6,d7⟩,h.k.chg_trans c' (by simp;omega),c'.at_ h.g (by simp;exact⟨d5.1,d5.2⟩)⟩
 ·have:=h.k.n;omega
 ·rcases hb with rfl|hb
  ·exact d2
  ·omega
 ·rcases hb with rfl|hb
  ·exact d4
  ·omega
 ·rcases hb with rfl|hb
  ·exact d5.2
  ·omega
theorem W2.put2(h:W2 K X w e b c p o){f:FuncId}{xs:List Value}{c':List UInt8}(hf:∀bw,WS X e bw c→∃v H',ARun Go.Proofs.Tryz.prog 0 f xs X v H'∧Put X H' e bw c'):∃v H',ARun Go.Proofs.Tryz.prog 0 f xs X v H'∧W2 K H' w e b c' p o:=by
 obtain⟨bw,ce,hw,he,h1,h2,h3,h4,d1,d2,d3,d4,d5,d6,d7⟩:=h.x
 obtain⟨v,H',r,ce',he',hb,ch⟩:=hf ce he
 have hn:=ch.n
 have lw:=hw.lt
 have le:=he.lt
 have lp:=AHeap.get_lt h.g
 refine⟨v,H',r,⟨bw,ce',hw.chg ch (by simp;exact⟨d1,d3⟩) (by simp;exact⟨d2,d4⟩),he',h1,h2,h3,?_,d1,d2,?_,?_,d5,d6,?_⟩,h.k.chg_trans ch (by simp;omega),ch.at_ h.g (by simp;exact⟨d6,d7⟩)⟩
 ·have:=h.k.n;omega
 ·rcases hb with rfl|hb
  ·exact d3
  ·omega
 ·rcases hb with rfl|hb
  ·exact d4
  ·omega
 ·rcases hb with rfl|hb
  ·exact d7
  ·omega
theorem W2.new(K:AHeap)(o:AO):W2 K (((K.alloc (.cells true false 1 [.slice none 0 0] 210)).alloc (.cells true false 1 [.slice none 0 0] 210)).alloc o) K.n (K.n+1) [] [] (K.n+2) o:=by
 have k1:=(Keeps.refl K).alloc (.cells true false 1 [.slice none 0 0] 210)
 refine⟨⟨K.n,K.n+1,⟨.slice none 0 0,?_,.inl ⟨rfl,rfl,rfl⟩,.inl ⟨rfl,rfl⟩⟩,⟨.slice none 0 0,?_,.inl ⟨rfl,rfl,rfl⟩,.inl ⟨rfl,rfl⟩⟩,by omega,by omega,by omega,by omega,by omega,by omega,by omega,by omega,by omega,by omega,by omega⟩,(k1.alloc _).alloc _,AHeap.get_alloc_new ((K.alloc _).alloc _) _⟩
 ·rw[AHeap.get_alloc_old _ _ (by rw[alloc_n,alloc_n];omega),AHeap.get_alloc_old _ _ (by rw[alloc_n];omega)]
  exact AHeap.get_alloc_new K _
 ·rw[AHeap.get_alloc_old _ _ (by rw[alloc_n,alloc_n];omega)]
  exact AHeap.get_alloc_new (K.alloc _) _
theorem W2.var(h:W2 K X w e b c p o)(o':AO):W2 K (X.alloc o') w e b c X.n o':=by
 obtain⟨bw,ce,hw,he,h1,h2,h3,h4,d1,d2,d3,d4,d5,d6,d7⟩:=h.x
 have lw:=hw.lt
 have le:=he.lt
 have kk:=(Keeps.refl X).alloc o'
 exact⟨⟨bw,ce,hw.keeps kk,he.keeps kk,h1,h2,h3,h4,d1,d2,d3,d4,by omega,by omega,by omega⟩,h.k.trans kk,AHeap.get_alloc_new X o'⟩
end
theorem t121h(K:AHeap)(t f:Nat)(ht:t≤9223372036854775807)(hf:f≤9223372036854775807):∃w K',ARun Go.Proofs.Tryz.prog 0 121 [.iface 114 (.agg #[.int .i64 (t:Nat),.int .i64 (f:Nat)])] K w K'∧BS K' w (headB t f)∧Keeps K K'∧Fresh K.n w:=by
 refine walk2 f121_ok f121_n ?_
 intro Q hq1 hq2
 have hwt:IntKind.u64.wrap ((t:Nat):Int)=((t:Nat):Int):=by rw[wrap_u64];omega
 have hwf:IntKind.u64.wrap ((f:Nat):Int)=((f:Nat):Int):=by rw[wrap_u64];omega
 refine W_part 3 (fun fr X=>∃y4 y5 y6 y8 p o,fr=[.iface 114 (.agg #[.int .i64 (t:Nat),.int .i64 (f:Nat)]),.slice none 0 0,ptr K.n 0,ptr (K.n+1) 0,y4,y5,y6,undef,y8]∧W2 K X K.n (K.n+1) ([72]++be 8 t++be 8 f) (be 8 t) p o) rfl ?_ ?_
 ·intro Q' p1 p2 p3
  have w0:=W2.new K (.cells true false 2 [.int .i64 (t:Nat),.int .i64 (f:Nat)] 114)
  simp(disch:=first|assumption|omega|(simp only[LN]<;>omega)|(simp(disch:=first|assumption|omega|(simp only[LN]<;>omega))only[row_alloc,row_set];assumption))only[f121,P3,↓reduceIte,reduceAdd,reduceEqDiff,reduceCtorEq,initFr,reduceLT,clsA,reduceLeDiff,reduceMul,reduceSub,reduceIte,cpre]
  generalize((K.alloc (.cells true false 1 [.slice none 0 0] 210)).alloc (.cells true false 1 [.slice none 0 0] 210)).alloc (.cells true false 2 [.int .i64 (t:Nat),.int .i64 (f:Nat)] 114)=X0 at*
  refine callK (w0.put fun bw h=>t149 h 72 (by omega) (by simp)) ?_
  rintro _ X1 w1
  have g1:=w1.g
  simp(disch:=first|assumption|omega|(simp only[LN]<;>omega)|(simp(disch:=first|assumption|omega|(simp only[LN]<;>omega))only[row_alloc,row_set];assumption))only[P3,↓reduceIte,reduceAdd,reduceEqDiff,reduceCtorEq,initFr,reduceLT,clsA,reduceLeDiff,reduceMul,reduceSub,reduceIte,g1,hwt]
  refine callK (w1.put fun bw h=>t150 h t (by omega) (by simp[be_length])) ?_
  rintro _ X2 w2
  have g2:=w2.g
  simp(disch:=first|assumption|omega|(simp only[LN]<;>omega)|(simp(disch:=first|assumption|omega|(simp only[LN]<;>omega))only[row_alloc,row_set];assumption))only[P3,↓reduceIte,reduceAdd,reduceEqDiff,reduceCtorEq,initFr,reduceLT,clsA,reduceLeDiff,reduceMul,reduceSub,reduceIte,g2,hwf]
  refine callK (w2.put fun bw h=>t150 h f (by omega) (by simp[be_length])) ?_
  rintro _ X3 w3
  have g3:=w3.g
  simp(disch:=first|assumption|omega|(simp only[LN]<;>omega)|(simp(disch:=first|assumption|omega|(simp only[LN]<;>omega))only[row_alloc,row_set];assumption))only[P3,↓reduceIte,reduceAdd,reduceEqDiff,reduceCtorEq,initFr,reduceLT,clsA,reduceLeDiff,reduceMul,reduceSub,reduceIte,g3,hwt]
  refine callK (w3.put2 fun bw h=>t150 h t (by omega) (by simp)) ?_
  rintro _ X4 w4
  simp(disch:=first|assumption|omega|(simp only[LN]<;>omega)|(simp(disch:=first|assumption|omega|(simp only[LN]<;>omega))only[row_alloc,row_set];assumption))only[W_block,P3,↓reduceIte,reduceAdd,reduceEqDiff,reduceCtorEq,initFr,reduceLT,clsA,reduceLeDiff,reduceMul,reduceSub,reduceIte]
  exact p1 _ _ ⟨_,_,_,_,_,_,rfl,w4⟩
 ·rintro fr X ⟨y4,y5,y6,y8,p,o,rfl,h⟩
  obtain⟨bw,ce,hw,he,h1,h2,h3,h4,d1,d2,d3,d4,_⟩:=h.x
  exact walTail (by simp[be_length]) hw he h.k h1 h2 h3 h4 d1 d2 d3 d4 hq2
theorem t121r{K:AHeap}{x:Value}{l:List UInt8}(t:Nat)(hx:BS K x l)(ht:t≤9223372036854775807)(hl:l.length≤232):∃w K',ARun Go.Proofs.Tryz.prog 0 121 [.iface 124 (.agg #[.int .i64 (t:Nat),x])] K w K'∧BS K' w (recB t l)∧Keeps K K'∧Fresh K.n w:=by
 refine walk2 f121_ok f121_n ?_
 intro Q hq1 hq2
 have hwt:IntKind.u64.wrap ((t:Nat):Int)=((t:Nat):Int):=by rw[wrap_u64];omega
 have hwl:IntKind.u16.wrap ((l.length:Nat):Int)=((l.length:Nat):Int):=by rw[wrap_u16];omega
 have ox:=one_isS hx.isS
 have hix:=hx.isS
 have hlx:=hx.lenS
 have oo:[Value.int .i64 (t:Nat),x].all Value.oneCell'=true:=by simp only[List.all_cons,ox];rfl
 refine W_part 3 (fun fr X=>∃y4 y5 y6 y8 p o,fr=[.iface 124 (.agg #[.int .i64 (t:Nat),x]),.slice none 0 0,ptr K.n 0,ptr (K.n+1) 0,y4,y5,y6,undef,y8]∧W2 K X K.n (K.n+1) ([82]++be 8 t++be 2 l.length++l) (be 8 t) p o) rfl ?_ ?_
 ·intro Q' p1 p2 p3
  have w0:=(W2.new K (.cells true false 2 [.int .i64 0,.int .i64 0] 114)).var (.cells true false 2 [.int .i64 (t:Nat),x] 124)
  have en:(((K.alloc (.cells true false 1 [.slice none 0 0] 210)).alloc (.cells true false 1 [.slice none 0 0] 210)).alloc (.cells true false 2 [.int .i64 0,.int .i64 0] 114)).n=K.n+1+1+1:=rfl
  rw[en]at w0
  simp(disch:=first|assumption|omega|(simp only[LN]<;>omega)|(simp(disch:=first|assumption|omega|(simp only[LN]<;>omega))only[row_alloc,row_set];assumption))only[f121,P3,↓reduceIte,reduceAdd,reduceEqDiff,reduceCtorEq,initFr,reduceLT,clsA,reduceLeDiff,reduceMul,reduceSub,reduceIte,cpre,oo]
  generalize(((K.alloc (.cells true false 1 [.slice none 0 0] 210)).alloc (.cells true false 1 [.slice none 0 0] 210)).alloc (.cells true false 2 [.int .i64 0,.int .i64 0] 114)).alloc (.cells true false 2 [.int .i64 (t:Nat),x] 124)=X0 at*
  refine callK (w0.put fun bw h=>t149 h 82 (by omega) (by simp)) ?_
  rintro _ X1 w1
  have g1:=w1.g
  simp(disch:=first|assumption|omega|(simp only[LN]<;>omega)|(simp(disch:=first|assumption|omega|(simp only[LN]<;>omega))only[row_alloc,row_set];assumption))only[P3,↓reduceIte,reduceAdd,reduceEqDiff,reduceCtorEq,initFr,reduceLT,clsA,reduceLeDiff,reduceMul,reduceSub,reduceIte,g1,hwt]
  refine callK (w1.put fun bw h=>t150 h t (by omega) (by simp[be_length])) ?_
  rintro _ X2 w2
  have g2:=w2.g
  simp(disch:=first|assumption|omega|(simp only[LN]<;>omega)|(simp(disch:=first|assumption|omega|(simp only[LN]<;>omega))only[row_alloc,row_set];assumption))only[P3,↓reduceIte,reduceAdd,reduceEqDiff,reduceCtorEq,initFr,reduceLT,clsA,reduceLeDiff,reduceMul,reduceSub,reduceIte,g2,hlx,hwl]
  refine callK (w2.put fun bw h=>t151 h l.length (by omega) (by simp[be_length])) ?_
  rintro _ X3 w3
  have g3:=w3.g
  simp(disch:=first|assumption|omega|(simp only[LN]<;>omega)|(simp(disch:=first|assumption|omega|(simp only[LN]<;>omega))only[row_alloc,row_set];assumption))only[P3,↓reduceIte,reduceAdd,reduceEqDiff,reduceCtorEq,initFr,reduceLT,clsA,reduceLeDiff,reduceMul,reduceSub,reduceIte,g3]
  refine callK (w3.put fun bw h=>t152 h (hx.keeps w3.k) (by simp[be_length];omega)) ?_
  rintro _ X4 w4
  have g4:=w4.g
  simp(disch:=first|assumption|omega|(simp only[LN]<;>omega)|(simp(disch:=first|assumption|omega|(simp only[LN]<;>omega))only[row_alloc,row_set];assumption))only[P3,↓reduceIte,reduceAdd,reduceEqDiff,reduceCtorEq,initFr,reduceLT,clsA,reduceLeDiff,reduceMul,reduceSub,reduceIte,g4,hwt]
  refine callK (w4.put2 fun bw h=>t150 h t (by omega) (by simp)) ?_
  rintro _ X5 w5
  simp(disch:=first|assumption|omega|(simp only[LN]<;>omega)|(simp(disch:=first|assumption|omega|(simp only[LN]<;>omega))only[row_alloc,row_set];assumption))only[W_block,P3,↓reduceIte,reduceAdd,reduceEqDiff,reduceCtorEq,initFr,reduceLT,clsA,reduceLeDiff,reduceMul,reduceSub,reduceIte]
  exact p1 _ _ ⟨_,_,_,_,_,_,rfl,w5⟩
 ·rintro fr X ⟨y4,y5,y6,y8,p,o,rfl,h⟩
  obtain⟨bw,ce,hw,he,h1,h2,h3,h4,d1,d2,d3,d4,_⟩:=h.x
  exact walTail (by simp[be_length];omega) hw he h.k h1 h2 h3 h4 d1 d2 d3 d4 hq2
end Go.AM.Fd

set_option linter.unusedSimpArgs false
set_option linter.unusedVariables false
namespace Go.AM.Fd
open Nat (reduceAdd reduceEqDiff reduceLT reduceLeDiff reduceMul reduceSub)
open Go.Proofs Go.AM.F
theorem wrap_big{x:Nat}(h1:9223372036854775808≤x)(h2:x<18446744073709551616):IntKind.i64.wrap ((x:Nat):Int)=((x:Nat):Int)-18446744073709551616:=by
 simp only[IntKind.wrap,IntKind.bits,IntKind.signed]
 simp
 omega
theorem right_iff{x:Nat}(h2:x<18446744073709551616):(1≤IntKind.i64.wrap ((x:Nat):Int)∧IntKind.i64.wrap ((x:Nat):Int)≤4611686018427387904)↔¬(x<1∨4611686018427387904<x):=by
 by_cases h:x≤9223372036854775807
 ·rw[wrap_i64 (by omega) (by omega)];omega
 ·rw[wrap_big (by omega) h2];omega
structure RdW (K X:AHeap) (r:Nat) (l:List UInt8):Prop where
 x:∃bv,RS X r bv l false∧K.n≤bv
 r:K.n≤r
 k:Keeps K X
theorem rd_step{H H':AHeap}{r bv:Nat}{l:List UInt8}{n:Int}(h:Aft H H' r bv l false n)(h0:0≤n)(hn:n≤l.length):∃bv',RS H' r bv' (l.drop n.toNat) false∧(bv'=bv∨bv'=r):=by
 obtain⟨bv',h1,h2⟩:=h
 have hf:¬failB l false n:=by unfold failB;simp;omega
 have e1:restL l false n=l.drop n.toNat:=by unfold restL;rw[if_neg hf]
 have e2:badB l false n=false:=by unfold badB;simp[hf]
 rw[e1,e2]at h1
 exact⟨bv',h1,h2⟩
theorem got_ok{l:List UInt8}{n:Int}(h0:0≤n)(hn:n≤l.length):gotL l false n=l.take n.toNat:=by
 unfold gotL;rw[if_neg (by unfold failB;simp;omega)]
section
variable {K X:AHeap} {r:Nat} {l:List UInt8}
theorem RdW.byte(h:RdW K X r l)(h1:1≤l.length)(h2:l.length≤1000):∃v X',ARun Go.Proofs.Tryz.prog 0 115 [ptr r 0] X v X'∧v=.int .u8 (num (l.take 1):Nat)∧RdW K X' r (l.drop 1)∧Chg [r] X X':=by
 obtain⟨bv,a,b⟩:=h.x
 obtain⟨v,X',q,rfl,p,c⟩:=t115 a (by omega)
 refine⟨_,X',q,by rw[got_ok (by omega) (by omega)];rfl,?_,c⟩
 obtain⟨bv',h3,h4⟩:=rd_step p (by omega) (by omega)
 refine⟨⟨bv',by simpa using h3,?_⟩,h.r,h.k.chg_trans c (by simp;exact h.r)⟩
 rcases h4 with rfl|rfl
 ·exact b
 ·exact h.r
theorem RdW.short(h:RdW K X r l)(h1:2≤l.length)(h2:l.length≤1000):∃v X',ARun Go.Proofs.Tryz.prog 0 118 [ptr r 0] X v X'∧v=.int .u16 (num (l.take 2):Nat)∧RdW K X' r (l.drop 2)∧Chg [r] X X':=by
 obtain⟨bv,a,b⟩:=h.x
 obtain⟨v,X',q,rfl,p,c⟩:=t118 a (by omega)
 refine⟨_,X',q,by rw[got_ok (by omega) (by omega)];rfl,?_,c⟩
 obtain⟨bv',h3,h4⟩:=rd_step p (by omega) (by omega)
 refine⟨⟨bv',by simpa using h3,?_⟩,h.r,h.k.chg_trans c (by simp;exact h.r)⟩
 rcases h4 with rfl|rfl
 ·exact b
 ·exact h.r
theorem RdW.long(h:RdW K X r l)(h1:8≤l.length)(h2:l.length≤1000):∃v X',ARun Go.Proofs.Tryz.prog 0 116 [ptr r 0] X v X'∧v=.int .u64 (num (l.take 8):Nat)∧RdW K X' r (l.drop 8)∧Chg [r] X X':=by
 obtain⟨bv,a,b⟩:=h.x
 obtain⟨v,X',q,rfl,p,c⟩:=t116 a (by omega)
 refine⟨_,X',q,by rw[got_ok (by omega) (by omega)];rfl,?_,c⟩
 obtain⟨bv',h3,h4⟩:=rd_step p (by omega) (by omega)
 refine⟨⟨bv',by simpa using h3,?_⟩,h.r,h.k.chg_trans c (by simp;exact h.r)⟩
 rcases h4 with rfl|rfl
 ·exact b
 ·exact h.r
theorem RdW.raw(h:RdW K X r l)(n:Nat)(h1:n≤l.length)(h2:l.length≤1000):∃v X',ARun Go.Proofs.Tryz.prog 0 119 [ptr r 0,.int .i64 (n:Nat)] X v X'∧BS X' v (l.take n)∧Chg [r] X X':=by
 obtain⟨bv,a,b⟩:=h.x
 obtain⟨v,X',q,p,_,c,_⟩:=t119 a n (by omega)
 rw[got_ok (by omega) (by omega)]at p
 exact⟨_,X',q,by simpa using p,c⟩
end
theorem head_first{l:List UInt8}(h:(headW l).1 ≠0):headB (headW l).1 (headW l).2 =l∧(headW l).1 =longW l 1∧(headW l).2 =longW l 9∧longW l 1≠0∧longW l 9≠0:=by
 unfold headW at*
 split at h
 ·exact absurd rfl h
 ·rename_i hh
  rw[if_neg hh]
  simp only[not_or,Decidable.not_not]at hh
  exact⟨hh.2.2,rfl,rfl,hh.1,hh.2.1⟩
theorem headB_0(t f:Nat):(headB t f).take 1=[72]:=by simp[headB,tailW]
theorem recB_0(t:Nat)(s:List UInt8):(recB t s).take 1=[82]:=by simp[recB,tailW]
def SaidV(K X:AHeap)(l:List UInt8)(w:Value):Prop:=
 ((headW l).1 ≠0∧(recW l).1 =0∧w=.iface 114 (.agg #[.int .i64 ((headW l).1 :Nat),.int .i64 ((headW l).2 :Nat)]))∨
 ((headW l).1 =0∧(recW l).1 ≠0∧∃y,w=.iface 124 (.agg #[.int .i64 ((recW l).1 :Nat),y])∧BS X y (recW l).2 ∧Fresh K.n y∧∀z,blk y=some z→z<X.n)∨
 ((headW l).1 =0∧(recW l).1 =0∧w=.nilIface)
theorem headW_no{l:List UInt8}(h:l.take 1≠[72]):(headW l).1 =0:=by
 apply Classical.byContradiction
 intro hh
 have:=(head_first hh).1
 apply h
 rw[←this];exact headB_0 _ _
theorem recW_no{l:List UInt8}(h:l.take 1≠[82]):recW l=(0,[]):=by
 unfold recW
 split
 ·rfl
 ·rename_i hh
  simp only[not_or,Decidable.not_not]at hh
  exfalso
  apply h
  rw[←hh.2.2];exact recB_0 _ _
theorem num_one(c:UInt8):num [c]=c.toNat:=by
 have:=c.toNat_lt
 simp[num]
theorem t69{K:AHeap}{x:Value}{l:List UInt8}(hx:BS K x l)(hl:l.length=256):∃w K',ARun Go.Proofs.Tryz.prog 0 69 [x] K w K'∧Keeps K K'∧SaidV K K' l w:=by
 refine walk2 f69_ok f69_n ?_
 intro Q hq1 hq2
 simp(disch:=first|assumption|omega|(simp only[LN]<;>omega)|(simp(disch:=first|assumption|omega|(simp only[LN]<;>omega))only[row_alloc,row_set];assumption))only[f69,P3,↓reduceIte,reduceAdd,reduceEqDiff,reduceCtorEq,initFr,reduceLT,clsA,reduceLeDiff,reduceMul,reduceSub,reduceIte]
 refine callK (t114 hx (by omega)) ?_
 rintro _ X1 ⟨r,bv,rfl,rs,hr,hbv,k1⟩
 have R1:RdW K X1 r l:=⟨⟨bv,rs,hbv⟩,hr,k1⟩
 simp(disch:=first|assumption|omega|(simp only[LN]<;>omega)|(simp(disch:=first|assumption|omega|(simp only[LN]<;>omega))only[row_alloc,row_set];assumption))only[P3,↓reduceIte,reduceAdd,reduceEqDiff,reduceCtorEq,initFr,reduceLT,clsA,reduceLeDiff,reduceMul,reduceSub,reduceIte]
 refine callK (R1.byte (by omega) (by omega)) ?_
 rintro _ X2 ⟨rfl,R2,c2⟩
 obtain⟨c,l',hcl⟩:∃c l',l=c::l':=by cases l with|nil=>simp at hl|cons c l'=>exact⟨c,l',rfl⟩
 have ht1:l.take 1=[c]:=by rw[hcl];rfl
 rw[ht1,num_one]
 by_cases h72:c=72
 ·have e2:recW l=(0,[]):=recW_no (by rw[ht1,h72];simp)
  have d1:(((c.toNat:Nat):Int)==72)=true:=by rw[h72];rfl
  have n8:=num_lt' ((l.drop 1).take 8)
  have n9:=num_lt' ((l.drop 9).take 8)
  have l8:((l.drop 1).take 8).length=8:=by rw[List.length_take,List.length_drop];omega
  have l9:((l.drop 9).take 8).length=8:=by rw[List.length_take,List.length_drop];omega
  rw[l8]at n8
  rw[l9]at n9
  have hl1:longW l 1=if num ((l.drop 1).take 8)<1∨4611686018427387904<num ((l.drop 1).take 8)then 0 else num ((l.drop 1).take 8):=rfl
  have hl9:longW l 9=if num ((l.drop 9).take 8)<1∨4611686018427387904<num ((l.drop 9).take 8)then 0 else num ((l.drop 9).take 8):=rfl
  simp(disch:=first|assumption|omega|(simp only[LN]<;>omega)|(simp(disch:=first|assumption|omega|(simp only[LN]<;>omega))only[row_alloc,row_set];assumption))only[W_block,P3,↓reduceIte,reduceAdd,reduceEqDiff,reduceCtorEq,initFr,reduceLT,clsA,reduceLeDiff,reduceMul,reduceSub,reduceIte,d1]
  refine callK (R2.long (by rw[List.length_drop];omega) (by rw[List.length_drop];omega)) ?_
  rintro _ X3 ⟨rfl,R3,c3⟩
  simp(disch:=first|assumption|omega|(simp only[LN]<;>omega)|(simp(disch:=first|assumption|omega|(simp only[LN]<;>omega))only[row_alloc,row_set];assumption))only[P3,↓reduceIte,reduceAdd,reduceEqDiff,reduceCtorEq,initFr,reduceLT,clsA,reduceLeDiff,reduceMul,reduceSub,reduceIte]
  rw[List.drop_drop]at R3
  refine callK (R3.long (by rw[List.length_drop];omega) (by rw[List.length_drop];omega)) ?_
  rintro _ X4 ⟨rfl,R4,c4⟩
  generalize num ((l.drop 1).take 8)=a at*
  have e19:(l.drop (1+8)).take 8=(l.drop 9).take 8:=rfl
  rw[e19]
  generalize num ((l.drop 9).take 8)=b at*
  have ra:=right_iff (x:=a) (by omega)
  have rb:=right_iff (x:=b) (by omega)
  have hab:∀a b:Int,fillA [.int .i64 0,.int .i64 0] [(0,1,.int .i64 a),(1,1,.int .i64 b)]=some [.int .i64 a,.int .i64 b]:=fun a b=>rfl
  have kv:∀a b:Int,Keeps X4 (X4.alloc (.cells true false 2 [.int .i64 a,.int .i64 b] 114)):=fun a b=>(Keeps.refl X4).alloc _
  simp(disch:=first|assumption|omega|(simp only[LN]<;>omega)|(simp(disch:=first|assumption|omega|(simp only[LN]<;>omega))only[row_alloc,row_set];assumption))only[P3,↓reduceIte,reduceAdd,reduceEqDiff,reduceCtorEq,initFr,reduceLT,clsA,reduceLeDiff,reduceMul,reduceSub,reduceIte,hab]
  refine callK (t117 _ _) ?_
  rintro _ X ⟨rfl,hX⟩
  rw[hX]
  by_cases ha:a<1∨4611686018427387904<a
  ·rw[if_pos ha]at hl1
   rw[decide_eq_false (by rw[ra];exact fun h=>h ha)]
   have e1:(headW l).1 =0:=by unfold headW;rw[if_pos (.inl hl1)]
   simp(disch:=first|assumption|omega|(simp only[LN]<;>omega)|(simp(disch:=first|assumption|omega|(simp only[LN]<;>omega))only[row_alloc,row_set];assumption))only[W_block,P3,↓reduceIte,reduceAdd,reduceEqDiff,reduceCtorEq,initFr,reduceLT,clsA,reduceLeDiff,reduceMul,reduceSub,reduceIte]
   exact hq2 _ _ ⟨_,rfl,R4.k.trans (kv _ _),.inr (.inr ⟨e1,by rw[e2],rfl⟩)⟩
  ·rw[if_neg ha]at hl1
   rw[decide_eq_true (ra.2 ha)]
   simp(disch:=first|assumption|omega|(simp only[LN]<;>omega)|(simp(disch:=first|assumption|omega|(simp only[LN]<;>omega))only[row_alloc,row_set];assumption))only[P3,↓reduceIte,reduceAdd,reduceEqDiff,reduceCtorEq,initFr,reduceLT,clsA,reduceLeDiff,reduceMul,reduceSub,reduceIte]
   refine callK (t117 _ _) ?_
   rintro _ X ⟨rfl,hX⟩
   rw[hX]
   by_cases hb:b<1∨4611686018427387904<b
   ·rw[if_pos hb]at hl9
    rw[decide_eq_false (by rw[rb];exact fun h=>h hb)]
    have e1:(headW l).1 =0:=by unfold headW;rw[if_pos (.inr (.inl hl9))]
    simp(disch:=first|assumption|omega|(simp only[LN]<;>omega)|(simp(disch:=first|assumption|omega|(simp only[LN]<;>omega))only[row_alloc,row_set];assumption))only[W_block,P3,↓reduceIte,reduceAdd,reduceEqDiff,reduceCtorEq,initFr,reduceLT,clsA,reduceLeDiff,reduceMul,reduceSub,reduceIte]
    exact hq2 _ _ ⟨_,rfl,R4.k.trans (kv _ _),.inr (.inr ⟨e1,by rw[e2],rfl⟩)⟩
   ·rw[if_neg hb]at hl9
    rw[decide_eq_true (rb.2 hb)]
    have wa:IntKind.i64.wrap ((a:Nat):Int)=((a:Nat):Int):=wrap_i64 (by omega) (by omega)
    have wb:IntKind.i64.wrap ((b:Nat):Int)=((b:Nat):Int):=wrap_i64 (by omega) (by omega)
    rw[wa,wb]
    simp(disch:=first|assumption|omega|(simp only[LN]<;>omega)|(simp(disch:=first|assumption|omega|(simp only[LN]<;>omega))only[row_alloc,row_set];assumption))only[P3,↓reduceIte,reduceAdd,reduceEqDiff,reduceCtorEq,initFr,reduceLT,clsA,reduceLeDiff,reduceMul,reduceSub,reduceIte]
    refine callK (t121h _ a b (by omega) (by omega)) ?_
    rintro y X5 ⟨b5,k5,f5⟩
    simp(disch:=first|assumption|omega|(simp only[LN]<;>omega)|(simp(disch:=first|assumption|omega|(simp only[LN]<;>omega))only[row_alloc,row_set];assumption))only[P3,↓reduceIte,reduceAdd,reduceEqDiff,reduceCtorEq,initFr,reduceLT,clsA,reduceLeDiff,reduceMul,reduceSub,reduceIte]
    refine callK (t120 b5 (((hx.keeps R4.k).keeps (kv _ _)).keeps k5)) ?_
    rintro _ X ⟨rfl,hX⟩
    rw[hX]
    have hhd:headW l=if longW l 1=0∨longW l 9=0∨headB (longW l 1) (longW l 9)≠l then(0,0)else(longW l 1,longW l 9):=rfl
    rw[hl1,hl9]at hhd
    by_cases he:headB a b=l
    ·rw[decide_eq_true he]
     rw[if_neg (by simp[he];omega)]at hhd
     simp(disch:=first|assumption|omega|(simp only[LN]<;>omega)|(simp(disch:=first|assumption|omega|(simp only[LN]<;>omega))only[row_alloc,row_set];assumption))only[W_block,P3,↓reduceIte,reduceAdd,reduceEqDiff,reduceCtorEq,initFr,reduceLT,clsA,reduceLeDiff,reduceMul,reduceSub,reduceIte]
     exact hq2 _ _ ⟨_,rfl,(R4.k.trans (kv _ _)).trans k5,.inl ⟨by rw[hhd];show a≠0;omega,by rw[e2],by rw[hhd];rfl⟩⟩
    ·rw[decide_eq_false he]
     rw[if_pos (.inr (.inr he))]at hhd
     simp(disch:=first|assumption|omega|(simp only[LN]<;>omega)|(simp(disch:=first|assumption|omega|(simp only[LN]<;>omega))only[row_alloc,row_set];assumption))only[W_block,P3,↓reduceIte,reduceAdd,reduceEqDiff,reduceCtorEq,initFr,reduceLT,clsA,reduceLeDiff,reduceMul,reduceSub,reduceIte]
     exact hq2 _ _ ⟨_,rfl,(R4.k.trans (kv _ _)).trans k5,.inr (.inr ⟨by rw[hhd],by rw[e2],rfl⟩)⟩
 ·by_cases h82:c=82
  ·have e1:(headW l).1 =0:=headW_no (by rw[ht1,h82];simp)
   have d1:(((c.toNat:Nat):Int)==72)=false:=beqi_no (fun h=>h72 (UInt8.toNat_inj.1 (by show c.toNat=72;omega)))
   have d2:(((c.toNat:Nat):Int)==82)=true:=by rw[h82];rfl
   have n8:=num_lt' ((l.drop 1).take 8)
   have n9:=num_lt' ((l.drop 9).take 2)
   have l8:((l.drop 1).take 8).length=8:=by rw[List.length_take,List.length_drop];omega
   have l9:((l.drop 9).take 2).length=2:=by rw[List.length_take,List.length_drop];omega
   rw[l8]at n8
   rw[l9]at n9
   have hl1:longW l 1=if num ((l.drop 1).take 8)<1∨4611686018427387904<num ((l.drop 1).take 8)then 0 else num ((l.drop 1).take 8):=rfl
   have hln:lenW l=num ((l.drop 9).take 2):=rfl
   simp(disch:=first|assumption|omega|(simp only[LN]<;>omega)|(simp(disch:=first|assumption|omega|(simp only[LN]<;>omega))only[row_alloc,row_set];assumption))only[W_block,P3,↓reduceIte,reduceAdd,reduceEqDiff,reduceCtorEq,initFr,reduceLT,clsA,reduceLeDiff,reduceMul,reduceSub,reduceIte,d1,d2]
   refine callK (R2.long (by rw[List.length_drop];omega) (by rw[List.length_drop];omega)) ?_
   rintro _ X3 ⟨rfl,R3,c3⟩
   rw[List.drop_drop]at R3
   generalize num ((l.drop 1).take 8)=a at*
   have ra:=right_iff (x:=a) (by omega)
   have hab:∀a:Int,fillA [.int .i64 0,.slice none 0 0] [(0,1,.int .i64 a)]=some [.int .i64 a,.slice none 0 0]:=fun a=>rfl
   simp(disch:=first|assumption|omega|(simp only[LN]<;>omega)|(simp(disch:=first|assumption|omega|(simp only[LN]<;>omega))only[row_alloc,row_set];assumption))only[P3,↓reduceIte,reduceAdd,reduceEqDiff,reduceCtorEq,initFr,reduceLT,clsA,reduceLeDiff,reduceMul,reduceSub,reduceIte,hab]
   have kv:=(Keeps.refl X3).alloc (.cells true false 2 [.int .i64 (IntKind.i64.wrap (a:Nat)),.slice none 0 0] 124)
   have R4:RdW K (X3.alloc (.cells true false 2 [.int .i64 (IntKind.i64.wrap (a:Nat)),.slice none 0 0] 124)) r (l.drop (1+8)):=by
    obtain⟨bv,h1,h2⟩:=R3.x
    exact⟨⟨bv,h1.chg (kv.chg []) (by simp) (by simp),h2⟩,R3.r,R3.k.trans kv⟩
   have gv:(X3.alloc (.cells true false 2 [.int .i64 (IntKind.i64.wrap (a:Nat)),.slice none 0 0] 124)).get X3.n=some (.cells true false 2 [.int .i64 (IntKind.i64.wrap (a:Nat)),.slice none 0 0] 124):=AHeap.get_alloc_new X3 _
   have hrn:r<X3.n:=by obtain⟨bv,h1,_⟩:=R3.x;exact h1.lt.1
   have n4:(X3.alloc (.cells true false 2 [.int .i64 (IntKind.i64.wrap (a:Nat)),.slice none 0 0] 124)).n=X3.n+1:=rfl
   have kn3:=R3.k.n
   generalize X3.alloc (.cells true false 2 [.int .i64 (IntKind.i64.wrap (a:Nat)),.slice none 0 0] 124)=X4 at*
   refine callK (R4.short (by rw[List.length_drop];omega) (by rw[List.length_drop];omega)) ?_
   rintro _ X5 ⟨rfl,R5,c5⟩
   rw[List.drop_drop]at R5
   have e19:(l.drop (1+8)).take 2=(l.drop 9).take 2:=rfl
   rw[e19,←hln]
   have wln:IntKind.i64.wrap ((lenW l:Nat):Int)=((lenW l:Nat):Int):=wrap_i64 (by omega) (by omega)
   have gv5:=c5.at_ gv (by simp;omega)
   have n5:=c5.n
   simp(disch:=first|assumption|omega|(simp only[LN]<;>omega)|(simp(disch:=first|assumption|omega|(simp only[LN]<;>omega))only[row_alloc,row_set];assumption))only[P3,↓reduceIte,reduceAdd,reduceEqDiff,reduceCtorEq,initFr,reduceLT,clsA,reduceLeDiff,reduceMul,reduceSub,reduceIte,wln,gv5]
   refine callK (t117 _ _) ?_
   rintro _ X ⟨rfl,hX⟩
   rw[hX]
   by_cases ha:a<1∨4611686018427387904<a
   ·rw[if_pos ha]at hl1
    rw[decide_eq_false (by rw[ra];exact fun h=>h ha)]
    have e2:recW l=(0,[]):=by unfold recW;rw[if_pos (.inl hl1)]
    simp(disch:=first|assumption|omega|(simp only[LN]<;>omega)|(simp(disch:=first|assumption|omega|(simp only[LN]<;>omega))only[row_alloc,row_set];assumption))only[W_block,P3,↓reduceIte,reduceAdd,reduceEqDiff,reduceCtorEq,initFr,reduceLT,clsA,reduceLeDiff,reduceMul,reduceSub,reduceIte]
    exact hq2 _ _ ⟨_,rfl,R5.k,.inr (.inr ⟨e1,by rw[e2],rfl⟩)⟩
   ·rw[if_neg ha]at hl1
    rw[decide_eq_true (ra.2 ha)]
    by_cases hb:232<lenW l
    ·have e2:recW l=(0,[]):=by unfold recW;rw[if_pos (.inr (.inl hb))]
     have d3:(232:Int)<((lenW l:Nat):Int):=by omega
     simp(disch:=first|assumption|omega|(simp only[LN]<;>omega)|(simp(disch:=first|assumption|omega|(simp only[LN]<;>omega))only[row_alloc,row_set];assumption))only[W_block,P3,↓reduceIte,reduceAdd,reduceEqDiff,reduceCtorEq,initFr,reduceLT,clsA,reduceLeDiff,reduceMul,reduceSub,reduceIte]
     exact hq2 _ _ ⟨_,rfl,R5.k,.inr (.inr ⟨e1,by rw[e2],rfl⟩)⟩
    ·have d3:¬(232:Int)<((lenW l:Nat):Int):=by omega
     have wa:IntKind.i64.wrap ((a:Nat):Int)=((a:Nat):Int):=wrap_i64 (by omega) (by omega)
     rw[wa]at gv5
     simp(disch:=first|assumption|omega|(simp only[LN]<;>omega)|(simp(disch:=first|assumption|omega|(simp only[LN]<;>omega))only[row_alloc,row_set];assumption))only[P3,↓reduceIte,reduceAdd,reduceEqDiff,reduceCtorEq,initFr,reduceLT,clsA,reduceLeDiff,reduceMul,reduceSub,reduceIte]
     refine callK (R5.raw (lenW l) (by rw[List.length_drop];omega) (by rw[List.length_drop];omega)) ?_
     rintro x6 X6 ⟨b6,c6⟩
     have k6:Keeps K X6:=R5.k.chg_trans c6 (by simp;exact R5.r)
     have e11:(l.drop (1+8+2)).take (lenW l)=(l.drop 11).take (lenW l):=rfl
     rw[e11]at b6
     have hlen:((l.drop 11).take (lenW l)).length≤232:=by rw[List.length_take];omega
     simp(disch:=first|assumption|omega|(simp only[LN]<;>omega)|(simp(disch:=first|assumption|omega|(simp only[LN]<;>omega))only[row_alloc,row_set];assumption))only[P3,↓reduceIte,reduceAdd,reduceEqDiff,reduceCtorEq,initFr,reduceLT,clsA,reduceLeDiff,reduceMul,reduceSub,reduceIte]
     refine callK (t91 b6 (by omega)) ?_
     rintro x7 X7 ⟨ap7,k7,f7⟩
     have n6:=c6.n
     have n7:=k7.n
     have gv7:=k7.at_ (c6.at_ gv5 (by simp;omega))
     have lv7:=AHeap.get_lt gv7
     have o7:=one_isS ap7.bs.isS
     have oo7:[Value.int .i64 (a:Nat),x7].all Value.oneCell'=true:=by simp only[List.all_cons,o7];rfl
     simp(disch:=first|assumption|omega|(simp only[LN]<;>omega)|(simp(disch:=first|assumption|omega|(simp only[LN]<;>omega))only[row_alloc,row_set];assumption))only[P3,↓reduceIte,reduceAdd,reduceEqDiff,reduceCtorEq,initFr,reduceLT,clsA,reduceLeDiff,reduceMul,reduceSub,reduceIte,gv7,o7]
     have K8:Keeps K (X7.set X3.n (.cells true false 2 [.int .i64 (a:Nat),x7] 124)):=(k6.trans k7).chg_trans (Chg.set X7 lv7 _) (by simp;omega)
     have b8:BS (X7.set X3.n (.cells true false 2 [.int .i64 (a:Nat),x7] 124)) x7 ((l.drop 11).take (lenW l)):=ap7.bs.chg (Chg.set X7 lv7 _) (fun y hy=>by
      have:=f7 y (mem_blkL.1 hy)
      simp;omega)
     have f8:Fresh K.n x7:=fun y hy=>by have:=f7 y hy;have:=k6.n;omega
     have n8':(X7.set X3.n (.cells true false 2 [.int .i64 (a:Nat),x7] 124)).n=X7.n:=rfl
     have gv8:(X7.set X3.n (.cells true false 2 [.int .i64 (a:Nat),x7] 124)).get X3.n=some (.cells true false 2 [.int .i64 (a:Nat),x7] 124):=AHeap.get_set_same gv7 _
     generalize X7.set X3.n (.cells true false 2 [.int .i64 (a:Nat),x7] 124)=X8 at*
     refine callK (t121r a b8 (by omega) hlen) ?_
     rintro y X9 ⟨b9,k9,f9⟩
     simp(disch:=first|assumption|omega|(simp only[LN]<;>omega)|(simp(disch:=first|assumption|omega|(simp only[LN]<;>omega))only[row_alloc,row_set];assumption))only[P3,↓reduceIte,reduceAdd,reduceEqDiff,reduceCtorEq,initFr,reduceLT,clsA,reduceLeDiff,reduceMul,reduceSub,reduceIte]
     refine callK (t120 b9 ((hx.keeps K8).keeps k9)) ?_
     rintro _ X ⟨rfl,hX⟩
     rw[hX]
     have hrd:recW l=if longW l 1=0∨232<lenW l∨recB (longW l 1) ((l.drop 11).take (lenW l))≠l then(0,[])else(longW l 1,(l.drop 11).take (lenW l)):=rfl
     rw[hl1]at hrd
     by_cases he:recB a ((l.drop 11).take (lenW l))=l
     ·rw[decide_eq_true he]
      rw[if_neg (by simp[he];omega)]at hrd
      simp(disch:=first|assumption|omega|(simp only[LN]<;>omega)|(simp(disch:=first|assumption|omega|(simp only[LN]<;>omega))only[row_alloc,row_set];assumption))only[W_block,P3,↓reduceIte,reduceAdd,reduceEqDiff,reduceCtorEq,initFr,reduceLT,clsA,reduceLeDiff,reduceMul,reduceSub,reduceIte]
      exact hq2 _ _ ⟨_,rfl,K8.trans k9,.inr (.inl ⟨e1,by rw[hrd];show a≠0;omega,x7,by rw[hrd];rfl,by rw[hrd];exact b8.keeps k9,f8,fun z hz=>by have:=ap7.lt hz;have:=k9.n;omega⟩)⟩
     ·rw[decide_eq_false he]
      rw[if_pos (.inr (.inr he))]at hrd
      simp(disch:=first|assumption|omega|(simp only[LN]<;>omega)|(simp(disch:=first|assumption|omega|(simp only[LN]<;>omega))only[row_alloc,row_set];assumption))only[W_block,P3,↓reduceIte,reduceAdd,reduceEqDiff,reduceCtorEq,initFr,reduceLT,clsA,reduceLeDiff,reduceMul,reduceSub,reduceIte]
      exact hq2 _ _ ⟨_,rfl,K8.trans k9,.inr (.inr ⟨e1,by rw[hrd],rfl⟩)⟩
  ·have e1:(headW l).1 =0:=headW_no (by rw[ht1];simpa using h72)
   have e2:recW l=(0,[]):=recW_no (by rw[ht1];simpa using h82)
   have d1:(((c.toNat:Nat):Int)==72)=false:=beqi_no (fun h=>h72 (UInt8.toNat_inj.1 (by show c.toNat=72;omega)))
   have d2:(((c.toNat:Nat):Int)==82)=false:=beqi_no (fun h=>h82 (UInt8.toNat_inj.1 (by show c.toNat=82;omega)))
   simp(disch:=first|assumption|omega|(simp only[LN]<;>omega)|(simp(disch:=first|assumption|omega|(simp only[LN]<;>omega))only[row_alloc,row_set];assumption))only[W_block,P3,↓reduceIte,reduceAdd,reduceEqDiff,reduceCtorEq,initFr,reduceLT,clsA,reduceLeDiff,reduceMul,reduceSub,reduceIte,d1,d2]
   exact hq2 _ _ ⟨_,rfl,R2.k,.inr (.inr ⟨e1,by rw[e2],rfl⟩)⟩
end Go.AM.Fd

set_option linter.unusedSimpArgs false
set_option linter.unusedVariables false
namespace Go.AM.Fd
open Nat (reduceAdd reduceEqDiff reduceLT reduceLeDiff reduceMul reduceSub)
open Go.Proofs Go.AM.F
structure Lg where
 turn:Nat
 first:Nat
 rs:List (List UInt8)
 br:Int
def Lg.next(L:Lg):Nat:=L.first+L.rs.length
def atW(D:Dk)(k:Nat):Nat:=2+(k-1) % (D.bl.length-2)
def wlD(D:Dk)(i:Nat)(b:List UInt8):Dk×Int:=if(wrD D i b).2 =0 then syD (wrD D i b).1 else wrD D i b
def appW(D:Dk)(L:Lg)(l:List UInt8):Dk×Lg×Int:=if L.br≠0 then(D,L,L.br)else if 232<l.length then(D,L,3)else if D.bl.length-2≤L.rs.length then(D,L,150)else
 ((wlD D (atW D L.next) (recB L.next l)).1,if(wlD D (atW D L.next) (recB L.next l)).2 =0 then⟨L.turn,L.first,L.rs++[l],0⟩else⟨L.turn,L.first,L.rs,(wlD D (atW D L.next) (recB L.next l)).2⟩,(wlD D (atW D L.next) (recB L.next l)).2)
def truncW(D:Dk)(L:Lg)(k:Int):Dk×Lg×Int:=if L.br≠0 then(D,L,L.br)else if k<L.first∨(L.next:Int)<k then(D,L,2)else
 ((wlD D ((L.turn+1) % 2) (headB (L.turn+1) k.toNat)).1,if(wlD D ((L.turn+1) % 2) (headB (L.turn+1) k.toNat)).2 =0 then⟨L.turn+1,k.toNat,L.rs.drop (k.toNat-L.first),0⟩else⟨L.turn,L.first,L.rs,(wlD D ((L.turn+1) % 2) (headB (L.turn+1) k.toNat)).2⟩,(wlD D ((L.turn+1) % 2) (headB (L.turn+1) k.toNat)).2)
structure Lg.ok (L:Lg):Prop where
 t:L.turn≤9000000000000000000
 f:1≤L.first∧L.first≤9000000000000000000
 r:L.rs.length≤4096∧∀s∈L.rs,s.length≤232
def thI(items:List (Value×List UInt8)):Th where
 P K:=∀x∈items,BS K x.1 x.2∧∀z∈blkL x.1,z<K.n
 F:=items.flatMap fun x=>blkL x.1
 lt K h y hy:=by
  obtain⟨x,hx,h1⟩:=List.mem_flatMap.1 hy
  exact(h x hx).2 y h1
 st K K' h hn k:=fun x hx=>by
  obtain⟨h1,h2⟩:=h x hx
  refine⟨⟨h1.sh,?_⟩,fun z hz=>Nat.lt_of_lt_of_le (h2 z hz) hn⟩
  have:=(h1.sl.get' (H':=K') fun b hb _=>k b (List.mem_flatMap.2 ⟨x,hx,mem_blkL.2 hb⟩)).el
  rw[this,←h1.sl.el];exact h1.el
def lgC(b:Nat)(rv:Value)(L:Lg):List Value:=[ptr b 0,.int .i64 (L.turn:Nat),.int .i64 (L.first:Nat),rv,.int .i64 L.br]
def lgT(lb b:Nat)(rv:Value)(items:List (Value×List UInt8))(L:Lg):List Th:=
 [thB lb (.cells true false 5 (lgC b rv L) 116),thO 38 1 rv items.length (items.map (·.1)),thI items]
structure LgR (K:AHeap) (lb b sb:Nat) (v:Value) (ab:Option Nat) (rv:Value) (items:List (Value×List UInt8)) (D:Dk) (L:Lg):Prop where
 s:Sep K (lgT lb b rv items L++dkT b sb v ab D)
 ok:D.ok
 n3:3≤D.bl.length
 it:items.map (·.2)=L.rs
 lok:L.ok
section
variable {K:AHeap} {lb b sb:Nat} {v rv:Value} {ab:Option Nat} {items:List (Value×List UInt8)} {D:Dk} {L:Lg}
theorem LgR.d(h:LgR K lb b sb v ab rv items D L):DkR K b sb v ab D:=⟨h.s.right,h.ok⟩
theorem LgR.g(h:LgR K lb b sb v ab rv items D L):K.get lb=some (.cells true false 5 [ptr b 0,.int .i64 (L.turn:Nat),.int .i64 (L.first:Nat),rv,.int .i64 L.br] 116):=h.s.get 0 rfl
theorem LgR.w(h:LgR K lb b sb v ab rv items D L):WO K 38 1 rv items.length (items.map (·.1)):=h.s.get 1 rfl
theorem LgR.i(h:LgR K lb b sb v ab rv items D L):(thI items).P K:=h.s.get 2 rfl
theorem LgR.lt(h:LgR K lb b sb v ab rv items D L):lb<K.n:=AHeap.get_lt h.g
theorem LgR.il(h:LgR K lb b sb v ab rv items D L):items.length=L.rs.length:=by rw[←h.it];simp
theorem LgR.keeps{K':AHeap}(h:LgR K lb b sb v ab rv items D L)(k:Keeps K K'):LgR K' lb b sb v ab rv items D L:=⟨h.s.keeps k,h.ok,h.n3,h.it,h.lok⟩
theorem LgR.lr(h:LgR K lb b sb v ab rv items D L):lenS rv=L.rs.length:=by rw[h.w.lenS,h.il]
theorem t29(h:LgR K lb b sb v ab rv items D L):∃w K',ARun Go.Proofs.Tryz.prog 0 29 [ptr lb 0] K w K'∧w=.int .i64 ((D.bl.length-2:Nat):Nat)∧K'=K:=by
 refine walk2 f29_ok f29_n ?_
 intro Q hq1 hq2
 have g:=h.g
 have n3:=h.n3
 have n4:=h.ok.n
 have hw:IntKind.i64.wrap (((D.bl.length:Nat):Int)-2)=((D.bl.length-2:Nat):Int):=by rw[wrap_i64 (by omega) (by omega)];omega
 simp(disch:=first|assumption|omega|(simp only[LN]<;>omega)|(simp(disch:=first|assumption|omega|(simp only[LN]<;>omega))only[row_alloc,row_set];assumption))only[f29,W_block,P3,↓reduceIte,reduceAdd,reduceEqDiff,reduceCtorEq,initFr,reduceLT,clsA,reduceLeDiff,reduceMul,reduceSub,reduceIte,g]
 refine callK (t65 h.d) ?_
 rintro _ X ⟨rfl,hX⟩
 rw[hX]
 simp(disch:=first|assumption|omega|(simp only[LN]<;>omega)|(simp(disch:=first|assumption|omega|(simp only[LN]<;>omega))only[row_alloc,row_set];assumption))only[W_block,P3,↓reduceIte,reduceAdd,reduceEqDiff,reduceCtorEq,initFr,reduceLT,clsA,reduceLeDiff,reduceMul,reduceSub,reduceIte,hw]
 exact hq2 _ _ ⟨_,rfl,rfl,rfl⟩
theorem t28(h:LgR K lb b sb v ab rv items D L):∃w K',ARun Go.Proofs.Tryz.prog 0 28 [ptr lb 0] K w K'∧w=.int .i64 (L.next:Nat)∧K'=K:=by
 refine walk2 f28_ok f28_n ?_
 intro Q hq1 hq2
 have g:=h.g
 have lr:=h.lr
 have ir:=h.w.is
 have ok:=h.lok
 have hw:IntKind.i64.wrap (((L.first:Nat):Int)+((L.rs.length:Nat):Int))=((L.next:Nat):Int):=by have:=ok.f;have:=ok.r;unfold Lg.next;rw[wrap_i64 (by omega) (by omega)];simp
 simp(disch:=first|assumption|omega|(simp only[LN]<;>omega)|(simp(disch:=first|assumption|omega|(simp only[LN]<;>omega))only[row_alloc,row_set];assumption))only[f28,W_block,P3,↓reduceIte,reduceAdd,reduceEqDiff,reduceCtorEq,initFr,reduceLT,clsA,reduceLeDiff,reduceMul,reduceSub,reduceIte,g,lr,hw]
 exact hq2 _ _ ⟨_,rfl,rfl,rfl⟩
theorem t27(h:LgR K lb b sb v ab rv items D L):∃w K',ARun Go.Proofs.Tryz.prog 0 27 [ptr lb 0] K w K'∧w=.int .i64 (L.first:Nat)∧K'=K:=by
 refine walk2 f27_ok f27_n ?_
 intro Q hq1 hq2
 have g:=h.g
 simp(disch:=first|assumption|omega|(simp only[LN]<;>omega)|(simp(disch:=first|assumption|omega|(simp only[LN]<;>omega))only[row_alloc,row_set];assumption))only[f27,W_block,P3,↓reduceIte,reduceAdd,reduceEqDiff,reduceCtorEq,initFr,reduceLT,clsA,reduceLeDiff,reduceMul,reduceSub,reduceIte,g]
 exact hq2 _ _ ⟨_,rfl,rfl,rfl⟩
theorem t30(h:LgR K lb b sb v ab rv items D L):∃w K',ARun Go.Proofs.Tryz.prog 0 30 [ptr lb 0] K w K'∧w=.int .i64 L.br∧K'=K:=by
 refine walk2 f30_ok f30_n ?_
 intro Q hq1 hq2
 have g:=h.g
 simp(disch:=first|assumption|omega|(simp only[LN]<;>omega)|(simp(disch:=first|assumption|omega|(simp only[LN]<;>omega))only[row_alloc,row_set];assumption))only[f30,W_block,P3,↓reduceIte,reduceAdd,reduceEqDiff,reduceCtorEq,initFr,reduceLT,clsA,reduceLeDiff,reduceMul,reduceSub,reduceIte,g]
 exact hq2 _ _ ⟨_,rfl,rfl,rfl⟩
theorem t92(h:LgR K lb b sb v ab rv items D L)(k:Nat)(h1:1≤k)(h2:k≤9223372036854775807):∃w K',ARun Go.Proofs.Tryz.prog 0 92 [ptr lb 0,.int .i64 (k:Nat)] K w K'∧w=.int .i64 (atW D k:Nat)∧K'=K:=by
 refine walk2 f92_ok f92_n ?_
 intro Q hq1 hq2
 have n3:=h.n3
 have n4:=h.ok.n
 have hm:=Nat.mod_lt (k-1) (show 0<D.bl.length-2 by omega)
 have hw:IntKind.i64.wrap (((k:Nat):Int)-1)=((k-1:Nat):Int):=by rw[wrap_i64 (by omega) (by omega)];omega
 have hr:=b_remn (kd:=.i64) (n:=k-1) (m:=D.bl.length-2) (by omega)
 have hw2:IntKind.i64.wrap (2+(((k-1) % (D.bl.length-2):Nat):Int))=((atW D k:Nat):Int):=by unfold atW;rw[wrap_i64 (by omega) (by omega)];simp
 simp(disch:=first|assumption|omega|(simp only[LN]<;>omega)|(simp(disch:=first|assumption|omega|(simp only[LN]<;>omega))only[row_alloc,row_set];assumption))only[f92,P3,↓reduceIte,reduceAdd,reduceEqDiff,reduceCtorEq,initFr,reduceLT,clsA,reduceLeDiff,reduceMul,reduceSub,reduceIte,hw]
 refine callK (t29 h) ?_
 rintro _ X ⟨rfl,hX⟩
 rw[hX]
 simp(disch:=first|assumption|omega|(simp only[LN]<;>omega)|(simp(disch:=first|assumption|omega|(simp only[LN]<;>omega))only[row_alloc,row_set];assumption))only[W_block,P3,↓reduceIte,reduceAdd,reduceEqDiff,reduceCtorEq,initFr,reduceLT,clsA,reduceLeDiff,reduceMul,reduceSub,reduceIte,hr,hw2]
 exact hq2 _ _ ⟨_,rfl,rfl,rfl⟩
theorem atW_lt(h:LgR K lb b sb v ab rv items D L)(k:Nat):atW D k<D.bl.length:=by
 have n3:=h.n3
 have hm:=Nat.mod_lt (k-1) (show 0<D.bl.length-2 by omega)
 unfold atW;omega
theorem askD_in{i:Nat}(h:D.off=false)(hi:i<D.bl.length):askD D (i:Nat)=0:=by
 unfold askD
 rw[if_neg (by simp[h]),if_neg (by omega)]
theorem resR{H:AHeap}{fr:List Value}{b e:Nat}{own room:Bool}{c:List Value}{y:Value}(h1:fr.getD 2 undef=ptr b 0)(h2:fr.getD 3 undef=y)(hg:H.get b=some (.cells own room 2 c e))(hl:c.length=2):
 resO [.cn 2 2,.t 3] fr H=some (.tuple #[.agg c.toArray,y]):=by
 simp only[resO,resVs,RX.get,h1,h2,cellnp,rangeA_e,hg,rng_full hl,Option.map_some]
 rfl
theorem t71(h:LgR K lb b sb v ab rv items D L)(ho:D.off=false)(k:Nat)(h1:1≤k)(h2:k≤9223372036854775807):∃w K',ARun Go.Proofs.Tryz.prog 0 71 [ptr lb 0,.int .i64 (k:Nat)] K w K'∧Keeps K K'∧
 (((recW (rdB D (atW D k))).1 ≠0∧∃y,w=.tuple #[.agg #[.int .i64 ((recW (rdB D (atW D k))).1 :Nat),y],.bool true]∧isS y=true∧BS K' y (recW (rdB D (atW D k))).2 ∧Fresh K.n y∧∀z,blk y=some z→z<K'.n)∨
  ((recW (rdB D (atW D k))).1 =0∧w=.tuple #[.agg #[.int .i64 0,.slice none 0 0],.bool false])):=by
 refine walk2 f71_ok f71_n ?_
 intro Q hq1 hq2
 have g:=h.g
 have hlt:=atW_lt h k
 have ha:=askD_in ho hlt
 obtain⟨K0,hK0⟩:∃Y,Y=K.alloc (.cells true false 2 [.int .i64 0,.slice none 0 0] 124):=⟨_,rfl⟩
 have k0:Keeps K K0:=by rw[hK0];exact(Keeps.refl K).alloc _
 have n0:K0.n=K.n+1:=by rw[hK0];rfl
 have g0:=k0.at_ g
 have gr:K0.get K.n=some (.cells true false 2 [.int .i64 0,.slice none 0 0] 124):=by rw[hK0];exact AHeap.get_alloc_new K _
 simp(disch:=first|assumption|omega|(simp only[LN]<;>omega)|(simp(disch:=first|assumption|omega|(simp only[LN]<;>omega))only[row_alloc,row_set];assumption))only[f71,P3,↓reduceIte,reduceAdd,reduceEqDiff,reduceCtorEq,initFr,reduceLT,clsA,reduceLeDiff,reduceMul,reduceSub,reduceIte]
 rw[←hK0]
 simp(disch:=first|assumption|omega|(simp only[LN]<;>omega)|(simp(disch:=first|assumption|omega|(simp only[LN]<;>omega))only[row_alloc,row_set];assumption))only[P3,↓reduceIte,reduceAdd,reduceEqDiff,reduceCtorEq,initFr,reduceLT,clsA,reduceLeDiff,reduceMul,reduceSub,reduceIte,g0]
 refine callK (t92 (h.keeps k0) k h1 h2) ?_
 rintro _ X ⟨rfl,hX⟩
 rw[hX]
 simp(disch:=first|assumption|omega|(simp only[LN]<;>omega)|(simp(disch:=first|assumption|omega|(simp only[LN]<;>omega))only[row_alloc,row_set];assumption))only[P3,↓reduceIte,reduceAdd,reduceEqDiff,reduceCtorEq,initFr,reduceLT,clsA,reduceLeDiff,reduceMul,reduceSub,reduceIte,g0]
 refine⟨by simp,?_⟩
 refine callK (t67 (h.keeps k0).d ((atW D k:Nat):Int)) ?_
 rintro _ K1 ⟨k1,x,rfl,_,hx⟩
 obtain⟨bx,vb,hvb,hfx⟩:=hx ha
 rw[ha]
 simp only[Int.toNat_natCast]at bx
 have hlen:=h.ok.rd hlt
 simp(disch:=first|assumption|omega|(simp only[LN]<;>omega)|(simp(disch:=first|assumption|omega|(simp only[LN]<;>omega))only[row_alloc,row_set];assumption))only[P3,↓reduceIte,reduceAdd,reduceEqDiff,reduceCtorEq,initFr,reduceLT,clsA,reduceLeDiff,reduceMul,reduceSub,reduceIte]
 refine callK (t69 bx hlen) ?_
 rintro w K2 ⟨k2,hs⟩
 have gr2:=k2.at_ (k1.at_ gr)
 have lr2:=AHeap.get_lt gr2
 have kk2:Keeps K K2:=(k0.trans k1).trans k2
 have nn1:=k1.n
 have nn2:=k2.n
 generalize rdB D (atW D k)=l at*
 have fin:∀c:List Value,c.length=2→((K2.set K.n (.cells true false 2 c 124)).alloc (.cells true false 2 c 124)).get K.n=some (.cells true false 2 c 124)∧Keeps K2 K2∧Keeps K ((K2.set K.n (.cells true false 2 c 124)).alloc (.cells true false 2 c 124)):=fun c hc=>by
  refine⟨?_,Keeps.refl _,(kk2.chg_trans (Chg.set K2 lr2 _) (by simp)).alloc _⟩
  rw[AHeap.get_alloc_old _ _ (by rw[set_n];exact lr2)]
  exact AHeap.get_set_same gr2 _
 rcases hs with⟨c1,c2,rfl⟩|⟨c1,c2,y,rfl,by_,fy,ly⟩|⟨c1,c2,rfl⟩
 ·simp(disch:=first|assumption|omega|(simp only[LN]<;>omega)|(simp(disch:=first|assumption|omega|(simp only[LN]<;>omega))only[row_alloc,row_set];assumption))only[W_block,P3,↓reduceIte,reduceAdd,reduceEqDiff,reduceCtorEq,initFr,reduceLT,clsA,reduceLeDiff,reduceMul,reduceSub,reduceIte,gr2]
  obtain⟨f1,_,f3⟩:=fin [.int .i64 0,.slice none 0 0] rfl
  exact hq2 _ _ ⟨_,resR rfl rfl f1 rfl,f3,.inr ⟨c2,rfl⟩⟩
 ·have iy:=by_.isS
  have oy:=one_isS iy
  have oo:[Value.int .i64 ((recW l).1 :Nat),y].all Value.oneCell'=true:=by simp only[List.all_cons,oy];rfl
  simp(disch:=first|assumption|omega|(simp only[LN]<;>omega)|(simp(disch:=first|assumption|omega|(simp only[LN]<;>omega))only[row_alloc,row_set];assumption))only[W_block,P3,↓reduceIte,reduceAdd,reduceEqDiff,reduceCtorEq,initFr,reduceLT,clsA,reduceLeDiff,reduceMul,reduceSub,reduceIte,gr2,oo]
  obtain⟨f1,_,f3⟩:=fin [.int .i64 ((recW l).1 :Nat),y] rfl
  have hyk:∀z∈blkL y,z∉[K.n]:=fun z hz=>by have:=fy z (mem_blkL.1 hz);simp;omega
  exact hq2 _ _ ⟨_,resR rfl rfl f1 rfl,f3,.inl ⟨c2,y,rfl,iy,(by_.chg (Chg.set K2 lr2 _) hyk).keeps ((Keeps.refl _).alloc _),fun z hz=>by have:=fy z hz;omega,fun z hz=>by have:=ly z hz;rw[alloc_n,set_n];omega⟩⟩
 ·have an:asem (.assert 124 (.agg #[.int .i64 0,.slice none 0 0]) true .nilIface) K2=some (.tuple #[.agg #[.int .i64 0,.slice none 0 0],.bool false],K2):=rfl
  simp(disch:=first|assumption|omega|(simp only[LN]<;>omega)|(simp(disch:=first|assumption|omega|(simp only[LN]<;>omega))only[row_alloc,row_set];assumption))only[W_block,P3,↓reduceIte,reduceAdd,reduceEqDiff,reduceCtorEq,initFr,reduceLT,clsA,reduceLeDiff,reduceMul,reduceSub,reduceIte,gr2,an]
  obtain⟨f1,_,f3⟩:=fin [.int .i64 0,.slice none 0 0] rfl
  exact hq2 _ _ ⟨_,resR rfl rfl f1 rfl,f3,.inr ⟨c2,rfl⟩⟩
theorem LgR.cell{K1:AHeap}{L':Lg}(h:LgR K lb b sb v ab rv items D L)(k:Keeps K K1):Upd (lgT lb b rv items L++dkT b sb v ab D) (lgT lb b rv items L'++dkT b sb v ab D) K (K1.set lb (.cells true false 5 (lgC b rv L') 116)):=by
 have hl:lb<K1.n:=Nat.lt_of_lt_of_le h.lt k.n
 exact Upd.next (l:=[]) (t':=thB lb (.cells true false 5 (lgC b rv L') 116)) (Upd.keeps h.s k) (Chg.set K1 hl _) (AHeap.get_set_same (k.at_ h.g) _) (by simp[thB])
theorem wlD_ok{D:Dk}(h:D.ok)(hs:D.st<999999)(hm:D.op.length<999999)(i:Nat)(bs:List UInt8):(wlD D i bs).1.ok∧(wlD D i bs).1.bl.length=D.bl.length∧(wrD D i bs).1.ok∧(wrD D i bs).1.st<1000000:=by
 have h1:=h.wr (i:=(i:Nat)) (b:=bs) (by omega) (by omega)
 have e1:(wrD D i bs).1.bl.length=D.bl.length∧(wrD D i bs).1.st≤D.st+1:=by
  unfold wrD
  split
  ·exact⟨rfl,by simp⟩
  ·split
   ·exact⟨rfl,by simp⟩
   ·obtain⟨a,_,c⟩:=stepD_bl ⟨D.bl,D.op++[((i:Nat):Int).toNat |> fun k=>(k,padB bs)],D.st,D.ar,D.off⟩
    exact⟨by rw[a],by rw[c];exact Nat.le_refl _⟩
 have h2:=h1.sy (by omega)
 have e2:(syD (wrD D i bs).1).1.bl.length=(wrD D i bs).1.bl.length:=by
  unfold syD
  split
  ·rfl
  ·obtain⟨a,_,_⟩:=stepD_bl (wrD D i bs).1
   split
   ·rw[a]
   ·simp only[settD,setl_len,a]
 unfold wlD
 split
 ·exact⟨h2,by rw[e2,e1.1],h1,by omega⟩
 ·exact⟨h1,e1.1,h1,by omega⟩
theorem t70(h:LgR K lb b sb v ab rv items D L)(hs:D.st<999999)(hm:D.op.length<999999)(i:Nat){val:Value}{bs:List UInt8}(hb:∀K1,Keeps K K1→∃w K2,ARun Go.Proofs.Tryz.prog 0 121 [val] K1 w K2∧BS K2 w bs∧Keeps K1 K2∧Fresh K1.n w):
 ∃w K',ARun Go.Proofs.Tryz.prog 0 70 [ptr lb 0,.int .i64 (i:Nat),val] K w K'∧w=.int .i64 (wlD D i bs).2 ∧∃v' ab',LgR K' lb b sb v' ab' rv items (wlD D i bs).1 ⟨L.turn,L.first,L.rs,(wlD D i bs).2⟩∧Upd (lgT lb b rv items L++dkT b sb v ab D) (lgT lb b rv items ⟨L.turn,L.first,L.rs,(wlD D i bs).2⟩++dkT b sb v' ab' (wlD D i bs).1) K K':=by
 refine walk2 f70_ok f70_n ?_
 intro Q hq1 hq2
 have g:=h.g
 obtain⟨o1,o2,o3,o4⟩:=wlD_ok h.ok hs hm i bs
 simp(disch:=first|assumption|omega|(simp only[LN]<;>omega)|(simp(disch:=first|assumption|omega|(simp only[LN]<;>omega))only[row_alloc,row_set];assumption))only[f70,P3,↓reduceIte,reduceAdd,reduceEqDiff,reduceCtorEq,initFr,reduceLT,clsA,reduceLeDiff,reduceMul,reduceSub,reduceIte,g]
 refine callK (hb K (Keeps.refl K)) ?_
 rintro w K1 ⟨b1,k1,f1⟩
 have g1:=k1.at_ g
 simp(disch:=first|assumption|omega|(simp only[LN]<;>omega)|(simp(disch:=first|assumption|omega|(simp only[LN]<;>omega))only[row_alloc,row_set];assumption))only[P3,↓reduceIte,reduceAdd,reduceEqDiff,reduceCtorEq,initFr,reduceLT,clsA,reduceLeDiff,reduceMul,reduceSub,reduceIte,g1]
 refine⟨by simp[g],?_⟩
 refine callK (t23 (h.keeps k1).d (by omega) (by omega) ((i:Nat):Int) b1) ?_
 rintro _ K2 ⟨rfl,v2,ab2,u2⟩
 have U2:=(Upd.keeps h.s k1).trans (u2.extR (h.s.keeps k1))
 have h2:LgR K2 lb b sb v2 ab2 rv items (wrD D i bs).1 L:=⟨U2.sep,o3,by
  have:=h.n3
  have e:(wrD D i bs).1.bl.length=D.bl.length:=by
   unfold wrD
   split
   ·rfl
   ·split
    ·rfl
    ·rw[(stepD_bl _).1]
  rw[e];exact this,h.it,h.lok⟩
 have g2:=h2.g
 have lb2:=h2.lt
 simp(disch:=first|assumption|omega|(simp only[LN]<;>omega)|(simp(disch:=first|assumption|omega|(simp only[LN]<;>omega))only[row_alloc,row_set];assumption))only[P3,↓reduceIte,reduceAdd,reduceEqDiff,reduceCtorEq,initFr,reduceLT,clsA,reduceLeDiff,reduceMul,reduceSub,reduceIte,g2]
 have c3:=h2.cell (L':=⟨L.turn,L.first,L.rs,(wrD D i bs).2⟩) (Keeps.refl K2)
 have h3:LgR (K2.set lb (.cells true false 5 (lgC b rv ⟨L.turn,L.first,L.rs,(wrD D i bs).2⟩) 116)) lb b sb v2 ab2 rv items (wrD D i bs).1 ⟨L.turn,L.first,L.rs,(wrD D i bs).2⟩:=⟨c3.sep,o3,h2.n3,h.it,⟨h.lok.t,h.lok.f,h.lok.r⟩⟩
 have U3:=U2.trans c3
 simp only[lgC]at h3 U3
 generalize K2.set lb (.cells true false 5 [ptr b 0,.int .i64 (L.turn:Nat),.int .i64 (L.first:Nat),rv,.int .i64 (wrD D i bs).2] 116)=K3 at*
 have g3:=h3.g
 have lb3:=h3.lt
 by_cases he:(wrD D i bs).2 =0
 ·have ew:wlD D i bs=syD (wrD D i bs).1 :=by unfold wlD;rw[if_pos he]
  have d1:((wrD D i bs).2 ==0)=true:=beqi_yes he
  rw[ew]at hq2 o1 o2
  simp(disch:=first|assumption|omega|(simp only[LN]<;>omega)|(simp(disch:=first|assumption|omega|(simp only[LN]<;>omega))only[row_alloc,row_set];assumption))only[P3,↓reduceIte,reduceAdd,reduceEqDiff,reduceCtorEq,initFr,reduceLT,clsA,reduceLeDiff,reduceMul,reduceSub,reduceIte,g3,d1]
  refine callK (t96 h3.d o4) ?_
  rintro _ K4 ⟨rfl,v4,ab4,u4⟩
  have U4:=U3.trans (u4.extR h3.s)
  have h4:LgR K4 lb b sb v4 ab4 rv items (syD (wrD D i bs).1).1 ⟨L.turn,L.first,L.rs,(wrD D i bs).2⟩:=⟨U4.sep,o1,by rw[o2];exact h.n3,h.it,⟨h.lok.t,h.lok.f,h.lok.r⟩⟩
  have g4:=h4.g
  have lb4:=h4.lt
  simp(disch:=first|assumption|omega|(simp only[LN]<;>omega)|(simp(disch:=first|assumption|omega|(simp only[LN]<;>omega))only[row_alloc,row_set];assumption))only[W_block,P3,↓reduceIte,reduceAdd,reduceEqDiff,reduceCtorEq,initFr,reduceLT,clsA,reduceLeDiff,reduceMul,reduceSub,reduceIte,g4]
  have c5:=h4.cell (L':=⟨L.turn,L.first,L.rs,(syD (wrD D i bs).1).2⟩) (Keeps.refl K4)
  exact hq2 _ _ ⟨_,rfl,rfl,v4,ab4,⟨c5.sep,o1,h4.n3,h.it,⟨h.lok.t,h.lok.f,h.lok.r⟩⟩,U4.trans c5⟩
 ·have ew:wlD D i bs=wrD D i bs:=by unfold wlD;rw[if_neg he]
  have d1:((wrD D i bs).2 ==0)=false:=beqi_no he
  rw[ew]at hq2
  simp(disch:=first|assumption|omega|(simp only[LN]<;>omega)|(simp(disch:=first|assumption|omega|(simp only[LN]<;>omega))only[row_alloc,row_set];assumption))only[W_block,P3,↓reduceIte,reduceAdd,reduceEqDiff,reduceCtorEq,initFr,reduceLT,clsA,reduceLeDiff,reduceMul,reduceSub,reduceIte,g3,d1]
  exact hq2 _ _ ⟨_,rfl,rfl,v2,ab2,h3,U3⟩
end
end Go.AM.Fd

set_option linter.unusedSimpArgs false
set_option linter.unusedVariables false
namespace Go.AM.Fd
open Nat (reduceAdd reduceEqDiff reduceLT reduceLeDiff reduceMul reduceSub)
open Go.Proofs Go.AM.F
section
variable {K:AHeap} {lb b sb:Nat} {v rv:Value} {ab:Option Nat} {items:List (Value×List UInt8)} {D:Dk} {L:Lg}
theorem LgR.si(h:LgR K lb b sb v ab rv items D L):Sl K 1 rv (items.map fun x=>[x.1]):=by
 have e:(items.map fun x=>[x.1]).flatten=items.map (·.1):=by
  generalize items=l
  induction l with
  |nil=>rfl
  |cons a l ih=>simp only[List.map_cons,List.flatten_cons,ih,List.singleton_append]
 exact WO.sl (by rw[e];exact h.w) (by intro r hr;obtain⟨y,_,rfl⟩:=List.mem_map.1 hr;rfl) (by simp)
theorem t26(h:LgR K lb b sb v ab rv items D L)(k:Int)(h1: -9223372036854775808≤k)(h2:k≤9223372036854775807):∃w K',ARun Go.Proofs.Tryz.prog 0 26 [ptr lb 0,.int .i64 k] K w K'∧Keeps K K'∧
 ∃y,w=.tuple #[y,.bool (decide ((L.first:Int)≤k∧k<L.next))]∧AP K' 5 1 y (if(L.first:Int)≤k∧k<L.next then L.rs.getD (k.toNat-L.first) []else[]).length (cellsOf (if(L.first:Int)≤k∧k<L.next then L.rs.getD (k.toNat-L.first) []else[]))∧Fresh K.n y:=by
 refine walk2 f26_ok f26_n ?_
 intro Q hq1 hq2
 have g:=h.g
 have lok:=h.lok
 have hnx:L.next=L.first+L.rs.length:=rfl
 by_cases c1:k<(L.first:Nat)
 ·rw[if_neg (by omega),decide_eq_false (by omega)]at hq2
  simp(disch:=first|assumption|omega|(simp only[LN]<;>omega)|(simp(disch:=first|assumption|omega|(simp only[LN]<;>omega))only[row_alloc,row_set];assumption))only[f26,W_block,P3,↓reduceIte,reduceAdd,reduceEqDiff,reduceCtorEq,initFr,reduceLT,clsA,reduceLeDiff,reduceMul,reduceSub,reduceIte,g]
  exact hq2 _ _ ⟨_,rfl,Keeps.refl _,_,rfl,.inl ⟨rfl,rfl,rfl⟩,fun z hz=>by cases hz⟩
 ·by_cases c2:((L.next:Nat):Int)≤k
  ·rw[if_neg (by omega),decide_eq_false (by omega)]at hq2
   simp(disch:=first|assumption|omega|(simp only[LN]<;>omega)|(simp(disch:=first|assumption|omega|(simp only[LN]<;>omega))only[row_alloc,row_set];assumption))only[f26,W_block,P3,↓reduceIte,reduceAdd,reduceEqDiff,reduceCtorEq,initFr,reduceLT,clsA,reduceLeDiff,reduceMul,reduceSub,reduceIte,g]
   refine callK (t28 h) ?_
   rintro _ X ⟨rfl,hX⟩
   rw[hX]
   simp(disch:=first|assumption|omega|(simp only[LN]<;>omega)|(simp(disch:=first|assumption|omega|(simp only[LN]<;>omega))only[row_alloc,row_set];assumption))only[W_block,P3,↓reduceIte,reduceAdd,reduceEqDiff,reduceCtorEq,initFr,reduceLT,clsA,reduceLeDiff,reduceMul,reduceSub,reduceIte]
   exact hq2 _ _ ⟨_,rfl,Keeps.refl _,_,rfl,.inl ⟨rfl,rfl,rfl⟩,fun z hz=>by cases hz⟩
  ·rw[if_pos (by omega),decide_eq_true (by omega)]at hq2
   have hi:k.toNat-L.first<items.length:=by rw[h.il];omega
   obtain⟨na,ra⟩:=Sl.at_ h.si (by omega) (i:=k.toNat-L.first) (by simpa using hi)
   simp only[List.getElem_map]at ra
   have hbs:=(h.i _ (List.getElem_mem hi)).1
   have hgd:L.rs.getD (k.toNat-L.first) []=items[k.toNat-L.first].2 :=by
    have:L.rs=items.map (·.2):=h.it.symm
    rw[this]
    simp[List.getD,List.getElem?_eq_getElem hi]
   rw[hgd]at hq2
   have hlen:items[k.toNat-L.first].2.length≤232:=h.lok.r.2 _ (by rw[←h.it];exact List.mem_map_of_mem (List.getElem_mem hi))
   have lr:=h.lr
   have hw:IntKind.i64.wrap (k-((L.first:Nat):Int))=((k.toNat-L.first:Nat):Int):=by rw[wrap_i64 (by omega) (by omega)];omega
   have hlt:((k.toNat-L.first:Nat):Int)<((lenS rv:Nat):Int):=by rw[lr];rw[h.il]at hi;omega
   have h0:(0:Int)≤((k.toNat-L.first:Nat):Int):=by omega
   simp(disch:=first|assumption|omega|(simp only[LN]<;>omega)|(simp(disch:=first|assumption|omega|(simp only[LN]<;>omega))only[row_alloc,row_set];assumption))only[f26,W_block,P3,↓reduceIte,reduceAdd,reduceEqDiff,reduceCtorEq,initFr,reduceLT,clsA,reduceLeDiff,reduceMul,reduceSub,reduceIte,g]
   refine callK (t28 h) ?_
   rintro _ X ⟨rfl,hX⟩
   rw[hX]
   simp(disch:=first|assumption|omega|(simp only[LN]<;>omega)|(simp(disch:=first|assumption|omega|(simp only[LN]<;>omega))only[row_alloc,row_set];assumption))only[W_block,P3,↓reduceIte,reduceAdd,reduceEqDiff,reduceCtorEq,initFr,reduceLT,clsA,reduceLeDiff,reduceMul,reduceSub,reduceIte,g,hw,na,ra]
   refine callK (t91 hbs (by omega)) ?_
   rintro y K2 ⟨ap,k2,f2⟩
   simp(disch:=first|assumption|omega|(simp only[LN]<;>omega)|(simp(disch:=first|assumption|omega|(simp only[LN]<;>omega))only[row_alloc,row_set];assumption))only[W_block,P3,↓reduceIte,reduceAdd,reduceEqDiff,reduceCtorEq,initFr,reduceLT,clsA,reduceLeDiff,reduceMul,reduceSub,reduceIte]
   exact hq2 _ _ ⟨_,rfl,k2,_,rfl,ap,f2⟩
theorem t31(h:LgR K lb b sb v ab rv items D L)(hs:D.st<999999)(hm:D.op.length<999999){x:Value}{l:List UInt8}(hx:BS K x l)(hl:l.length≤1000000):∃w K',ARun Go.Proofs.Tryz.prog 0 31 [ptr lb 0,x] K w K'∧w=.int .i64 (appW D L l).2.2 ∧
 ∃v' ab' rv' items',LgR K' lb b sb v' ab' rv' items' (appW D L l).1 (appW D L l).2.1 ∧Upd (lgT lb b rv items L++dkT b sb v ab D) (lgT lb b rv' items' (appW D L l).2.1 ++dkT b sb v' ab' (appW D L l).1) K K':=by
 refine walk2 f31_ok f31_n ?_
 intro Q hq1 hq2
 have g:=h.g
 have lok:=h.lok
 have hix:=hx.isS
 have hlx:=hx.lenS
 have n3:=h.n3
 have n4:=h.ok.n
 simp(disch:=first|assumption|omega|(simp only[LN]<;>omega)|(simp(disch:=first|assumption|omega|(simp only[LN]<;>omega))only[row_alloc,row_set];assumption))only[f31,P3,↓reduceIte,reduceAdd,reduceEqDiff,reduceCtorEq,initFr,reduceLT,clsA,reduceLeDiff,reduceMul,reduceSub,reduceIte]
 refine callK (t30 h) ?_
 rintro _ X ⟨rfl,hX⟩
 rw[hX]
 by_cases hb:L.br=0
 ·have d1:(L.br != 0)=false:=bnei_no hb
  by_cases h2:232<l.length
  ·have e:appW D L l=(D,L,3):=by unfold appW;rw[if_neg (by simp[hb]),if_pos h2]
   rw[e]at hq2
   have d2:(232:Int)<((l.length:Nat):Int):=by omega
   simp(disch:=first|assumption|omega|(simp only[LN]<;>omega)|(simp(disch:=first|assumption|omega|(simp only[LN]<;>omega))only[row_alloc,row_set];assumption))only[W_block,P3,↓reduceIte,reduceAdd,reduceEqDiff,reduceCtorEq,initFr,reduceLT,clsA,reduceLeDiff,reduceMul,reduceSub,reduceIte,d1,hlx]
   exact hq2 _ _ ⟨_,rfl,rfl,_,_,_,_,h,Upd.refl h.s⟩
  ·have d2:¬(232:Int)<((l.length:Nat):Int):=by omega
   have ir:=h.w.is
   have lr:=h.lr
   simp(disch:=first|assumption|omega|(simp only[LN]<;>omega)|(simp(disch:=first|assumption|omega|(simp only[LN]<;>omega))only[row_alloc,row_set];assumption))only[W_block,P3,↓reduceIte,reduceAdd,reduceEqDiff,reduceCtorEq,initFr,reduceLT,clsA,reduceLeDiff,reduceMul,reduceSub,reduceIte,d1,hlx,g,lr]
   refine callK (t29 h) ?_
   rintro _ X ⟨rfl,hX⟩
   rw[hX]
   by_cases h3:D.bl.length-2≤L.rs.length
   ·have e:appW D L l=(D,L,150):=by unfold appW;rw[if_neg (by simp[hb]),if_neg h2,if_pos h3]
    rw[e]at hq2
    have d3:((D.bl.length-2:Nat):Int)≤((L.rs.length:Nat):Int):=by omega
    simp(disch:=first|assumption|omega|(simp only[LN]<;>omega)|(simp(disch:=first|assumption|omega|(simp only[LN]<;>omega))only[row_alloc,row_set];assumption))only[W_block,P3,↓reduceIte,reduceAdd,reduceEqDiff,reduceCtorEq,initFr,reduceLT,clsA,reduceLeDiff,reduceMul,reduceSub,reduceIte,g]
    refine⟨by simp,?_⟩
    exact hq2 _ _ ⟨_,rfl,rfl,_,_,_,_,h,Upd.refl h.s⟩
   ·have d3:¬((D.bl.length-2:Nat):Int)≤((L.rs.length:Nat):Int):=by omega
    simp(disch:=first|assumption|omega|(simp only[LN]<;>omega)|(simp(disch:=first|assumption|omega|(simp only[LN]<;>omega))only[row_alloc,row_set];assumption))only[W_block,P3,↓reduceIte,reduceAdd,reduceEqDiff,reduceCtorEq,initFr,reduceLT,clsA,reduceLeDiff,reduceMul,reduceSub,reduceIte,g]
    refine⟨by simp,?_⟩
    refine callK (t28 h) ?_
    rintro _ X ⟨rfl,hX⟩
    rw[hX]
    have hnx:L.next=L.first+L.rs.length:=rfl
    simp(disch:=first|assumption|omega|(simp only[LN]<;>omega)|(simp(disch:=first|assumption|omega|(simp only[LN]<;>omega))only[row_alloc,row_set];assumption))only[P3,↓reduceIte,reduceAdd,reduceEqDiff,reduceCtorEq,initFr,reduceLT,clsA,reduceLeDiff,reduceMul,reduceSub,reduceIte]
    refine callK (t91 hx (by omega)) ?_
    rintro y K1 ⟨apy,k1,fy⟩
    have iy:=apy.bs.isS
    have oy:=one_isS iy
    have cy:=cells_isS iy
    have hf:fillA [.int .i64 0,.slice none 0 0] [(0,1,.int .i64 (L.next:Nat)),(1,1,y)]=some [.int .i64 (L.next:Nat),y]:=by
     simp only[fill_cons,cy,cells_int];rfl
    have oo:[Value.int .i64 (L.next:Nat),y].all Value.oneCell'=true:=by simp only[List.all_cons,oy];rfl
    simp(disch:=first|assumption|omega|(simp only[LN]<;>omega)|(simp(disch:=first|assumption|omega|(simp only[LN]<;>omega))only[row_alloc,row_set];assumption))only[P3,↓reduceIte,reduceAdd,reduceEqDiff,reduceCtorEq,initFr,reduceLT,clsA,reduceLeDiff,reduceMul,reduceSub,reduceIte,hf,oo]
    obtain⟨K2,hK2⟩:∃Y,Y=K1.alloc (.cells true false 2 [.int .i64 (L.next:Nat),y] 124):=⟨_,rfl⟩
    have k2:Keeps K1 K2:=by rw[hK2];exact(Keeps.refl K1).alloc _
    have gv:K2.get K1.n=some (.cells true false 2 [.int .i64 (L.next:Nat),y] 124):=by rw[hK2];exact AHeap.get_alloc_new K1 _
    have n2:K2.n=K1.n+1:=by rw[hK2];rfl
    rw[←hK2]
    have hh:=(h.keeps k1).keeps k2
    refine callK (t92 hh L.next (by have:=lok.f;omega) (by have:=lok.f;have:=lok.r;omega)) ?_
    rintro _ X ⟨rfl,hX⟩
    rw[hX]
    simp(disch:=first|assumption|omega|(simp only[LN]<;>omega)|(simp(disch:=first|assumption|omega|(simp only[LN]<;>omega))only[row_alloc,row_set];assumption))only[P3,↓reduceIte,reduceAdd,reduceEqDiff,reduceCtorEq,initFr,reduceLT,clsA,reduceLeDiff,reduceMul,reduceSub,reduceIte,gv]
    refine callK (t70 hh hs hm (atW D L.next) (bs:=recB L.next l) fun K3 k3=>t121r L.next ((apy.bs.keeps k2).keeps k3) (by have:=lok.f;have:=lok.r;omega) (by omega)) ?_
    rintro _ K3 ⟨rfl,v3,ab3,h3',u3⟩
    have kn3:=u3.chg.n
    have nfp:∀z,K.n≤z→z∉fp (lgT lb b rv items L++dkT b sb v ab D):=fun z hz hz2=>by have:=h.s.lt hz2;omega
    have gv3:=u3.chg.at_ gv (nfp _ k1.n)
    have by3:BS K3 y l:=(apy.bs.keeps k2).chg u3.chg fun z hz=>nfp z (fy z (mem_blkL.1 hz))
    have U3:=(Upd.keeps h.s (k1.trans k2)).trans u3
    by_cases he:(wlD D (atW D L.next) (recB L.next l)).2 =0
    ·have e:appW D L l=((wlD D (atW D L.next) (recB L.next l)).1,⟨L.turn,L.first,L.rs++[l],0⟩,0):=by unfold appW;rw[if_neg (by simp[hb]),if_neg h2,if_neg h3,if_pos he,he]
     rw[e]at hq2
     have d4:((wlD D (atW D L.next) (recB L.next l)).2 != 0)=false:=bnei_no he
     have g3:=h3'.g
     rw[he]at g3 h3' U3
     have lb3:=h3'.lt
     have hfy:fillA [.slice none 0 0] [(0,1,y)]=some [y]:=by simp only[fill_cons,cy];rfl
     have oy1:[y].all Value.oneCell'=true:=by simp only[List.all_cons,oy];rfl
     simp(disch:=first|assumption|omega|(simp only[LN]<;>omega)|(simp(disch:=first|assumption|omega|(simp only[LN]<;>omega))only[row_alloc,row_set];assumption))only[W_block,P3,↓reduceIte,reduceAdd,reduceEqDiff,reduceCtorEq,initFr,reduceLT,clsA,reduceLeDiff,reduceMul,reduceSub,reduceIte,d4,g3,gv3,hfy,oy1]
     have kk3:=(Keeps.refl K3).alloc (.cells true false 1 [y] 38)
     refine WO.appD (h3'.w.keeps kk3) ⟨_,_,rfl⟩ (elems_new (n:=1) rfl rfl) rfl (by rw[h.il];omega) ?_
     rintro rv' K4 hwo hch hbl
     generalize K3.alloc (.cells true false 1 [y] 38)=X3 at*
     have c4:Chg (blkL rv) K3 K4:=(kk3.chg _).trans hch (fun z hz=>.inl hz)
     have nlb:lb∉blkL rv:=fun hz=>h.s.apart 0 1 (by omega) rfl rfl lb (by simp[thB]) hz
     have g4:=c4.at_ g3 nlb
     have lb4:=AHeap.get_lt g4
     have orv:=hwo.one
     simp(disch:=first|assumption|omega|(simp only[LN]<;>omega)|(simp(disch:=first|assumption|omega|(simp only[LN]<;>omega))only[row_alloc,row_set];assumption))only[W_block,P3,↓reduceIte,reduceAdd,reduceEqDiff,reduceCtorEq,initFr,reduceLT,clsA,reduceLeDiff,reduceMul,reduceSub,reduceIte,g4,orv]
     have nz:∀z∈blkL y,z∉fp (lgT lb b rv items ⟨L.turn,L.first,L.rs,0⟩++dkT b sb v3 ab3 (wlD D (atW D L.next) (recB L.next l)).1):=fun z hz hz2=>by
      rcases U3.fr z hz2 with h5|h5
      ·exact nfp z (fy z (mem_blkL.1 hz)) h5
      ·rw[he]at u3
       rcases u3.fr z hz2 with h6|h6
       ·exact nfp z (fy z (mem_blkL.1 hz)) h6
       ·have:=apy.lt (mem_blkL.1 hz);omega
     have s1:=Upd.next (l:=[_]) (t':=thO 38 1 rv' (items.length+1) (items.map (·.1)++[y])) U3 c4 hwo (fun z hz=>by
      rcases hbl with h5|h5
      ·exact .inl (by show z∈blkL rv;rw[mem_blkL,←h5];exact mem_blkL.1 hz)
      ·have:z=X3.n:=by have:=mem_blkL.1 hz;rw[h5]at this;cases this;rfl
       exact .inr (.inl (by have:=kk3.n;omega)))
     have s2:=Upd.next (l:=[_,_]) (t':=thI (items++[(y,l)])) s1 (Chg.refl _ K4) (by
      intro z hz
      rcases List.mem_append.1 hz with hz|hz
      ·exact(s1.sep.get 2 rfl:(thI items).P K4) z hz
      ·simp only[List.mem_singleton]at hz
       subst hz
       refine⟨by3.chg c4 fun q hq hq2=>nz q hq (mem_fp.2 ⟨thO 38 1 rv items.length (items.map (·.1)),by simp[lgT],hq2⟩),fun q hq=>?_⟩
       have:=apy.lt (mem_blkL.1 hq)
       have:=c4.n
       omega) (fun z hz=>by
      simp only[thI,List.flatMap_append,List.mem_append]at hz
      rcases hz with hz|hz
      ·exact .inl hz
      ·have hzy:z∈blkL y:=by simpa using hz
       refine .inr (.inr ⟨fy z (mem_blkL.1 hzy),fun q hq hq2=>?_⟩)
       simp only[List.cons_append,List.nil_append,List.mem_cons]at hq
       rcases hq with rfl|rfl|hq
       ·exact nz z hzy (mem_fp.2 ⟨thB lb (.cells true false 5 (lgC b rv ⟨L.turn,L.first,L.rs,0⟩) 116),by simp[lgT],hq2⟩)
       ·rcases hbl with h5|h5
        ·exact nz z hzy (mem_fp.2 ⟨thO 38 1 rv items.length (items.map (·.1)),by simp[lgT],by show z∈blkL rv;rw[mem_blkL,←h5];exact mem_blkL.1 hq2⟩)
        ·have e1:z=X3.n:=by have:=mem_blkL.1 hq2;rw[h5]at this;cases this;rfl
         have:=apy.lt (mem_blkL.1 hzy)
         have:=kk3.n
         omega
       ·exact nz z hzy (mem_fp.2 ⟨q,by simp only[lgT,List.cons_append,List.nil_append,List.mem_cons];exact .inr (.inr (.inr hq)),hq2⟩))
     have s3:=Upd.next (l:=[]) (t':=thB lb (.cells true false 5 (lgC b rv' ⟨L.turn,L.first,L.rs++[l],0⟩) 116)) s2 (Chg.set K4 lb4 _) (AHeap.get_set_same g4 _) (by simp[thB])
     refine hq2 _ _ ⟨_,rfl,rfl,v3,ab3,rv',items++[(y,l)],⟨?_,h3'.ok,h3'.n3,by rw[List.map_append,h.it];rfl,⟨lok.t,lok.f,by simp only[List.length_append,List.length_cons,List.length_nil];omega,fun q hq=>?_⟩⟩,?_⟩
     ·have:=s3.sep
      simp only[lgT,List.length_append,List.length_cons,List.length_nil,List.map_append,List.map_cons,List.map_nil]
      exact this
     ·rcases List.mem_append.1 hq with hq|hq
      ·exact lok.r.2 q hq
      ·simp only[List.mem_singleton]at hq;subst hq;omega
     ·simp only[lgT,List.length_append,List.length_cons,List.length_nil,List.map_append,List.map_cons,List.map_nil]
      exact s3
    ·have e:appW D L l=((wlD D (atW D L.next) (recB L.next l)).1,⟨L.turn,L.first,L.rs,(wlD D (atW D L.next) (recB L.next l)).2⟩,(wlD D (atW D L.next) (recB L.next l)).2):=by unfold appW;rw[if_neg (by simp[hb]),if_neg h2,if_neg h3,if_neg he]
     rw[e]at hq2
     have d4:((wlD D (atW D L.next) (recB L.next l)).2 != 0)=true:=bnei_yes he
     simp(disch:=first|assumption|omega|(simp only[LN]<;>omega)|(simp(disch:=first|assumption|omega|(simp only[LN]<;>omega))only[row_alloc,row_set];assumption))only[W_block,P3,↓reduceIte,reduceAdd,reduceEqDiff,reduceCtorEq,initFr,reduceLT,clsA,reduceLeDiff,reduceMul,reduceSub,reduceIte,d4]
     exact hq2 _ _ ⟨_,rfl,rfl,_,_,_,_,h3',U3⟩
 ·have d1:(L.br != 0)=true:=bnei_yes hb
  have e:appW D L l=(D,L,L.br):=by unfold appW;rw[if_pos hb]
  rw[e]at hq2
  simp(disch:=first|assumption|omega|(simp only[LN]<;>omega)|(simp(disch:=first|assumption|omega|(simp only[LN]<;>omega))only[row_alloc,row_set];assumption))only[W_block,P3,↓reduceIte,reduceAdd,reduceEqDiff,reduceCtorEq,initFr,reduceLT,clsA,reduceLeDiff,reduceMul,reduceSub,reduceIte,d1]
  exact hq2 _ _ ⟨_,rfl,rfl,_,_,_,_,h,Upd.refl h.s⟩
end
end Go.AM.Fd

set_option linter.unusedSimpArgs false
set_option linter.unusedVariables false
namespace Go.AM.Fd
open Nat (reduceAdd reduceEqDiff reduceLT reduceLeDiff reduceMul reduceSub)
open Go.Proofs Go.AM.F
section
variable {K:AHeap} {lb b sb:Nat} {v rv:Value} {ab:Option Nat} {items:List (Value×List UInt8)} {D:Dk} {L:Lg}
theorem b_rem2(n:Nat):binA .rem (.int .i64 (n:Int)) (.int .i64 2)=some (.int .i64 ((n % 2:Nat):Int)):=b_remn (m:=2) (by omega)
theorem t32(h:LgR K lb b sb v ab rv items D L)(hs:D.st<999999)(hm:D.op.length<999999)(hT:L.turn<8999999999999999999)(hF:L.next≤9000000000000000000)(k:Int):∃w K',ARun Go.Proofs.Tryz.prog 0 32 [ptr lb 0,.int .i64 k] K w K'∧w=.int .i64 (truncW D L k).2.2 ∧
 ∃v' ab' rv' items',LgR K' lb b sb v' ab' rv' items' (truncW D L k).1 (truncW D L k).2.1 ∧Upd (lgT lb b rv items L++dkT b sb v ab D) (lgT lb b rv' items' (truncW D L k).2.1 ++dkT b sb v' ab' (truncW D L k).1) K K':=by
 refine walk2 f32_ok f32_n ?_
 intro Q hq1 hq2
 have g:=h.g
 have lok:=h.lok
 have hnx:L.next=L.first+L.rs.length:=rfl
 simp(disch:=first|assumption|omega|(simp only[LN]<;>omega)|(simp(disch:=first|assumption|omega|(simp only[LN]<;>omega))only[row_alloc,row_set];assumption))only[f32,P3,↓reduceIte,reduceAdd,reduceEqDiff,reduceCtorEq,initFr,reduceLT,clsA,reduceLeDiff,reduceMul,reduceSub,reduceIte]
 refine callK (t30 h) ?_
 rintro _ X ⟨rfl,hX⟩
 rw[hX]
 by_cases hb:L.br=0
 ·have d1:(L.br != 0)=false:=bnei_no hb
  by_cases c1:k<(L.first:Nat)
  ·have e:truncW D L k=(D,L,2):=by unfold truncW;rw[if_neg (by simp[hb]),if_pos (.inl c1)]
   rw[e]at hq2
   simp(disch:=first|assumption|omega|(simp only[LN]<;>omega)|(simp(disch:=first|assumption|omega|(simp only[LN]<;>omega))only[row_alloc,row_set];assumption))only[W_block,P3,↓reduceIte,reduceAdd,reduceEqDiff,reduceCtorEq,initFr,reduceLT,clsA,reduceLeDiff,reduceMul,reduceSub,reduceIte,d1,g]
   exact hq2 _ _ ⟨_,rfl,rfl,_,_,_,_,h,Upd.refl h.s⟩
  ·simp(disch:=first|assumption|omega|(simp only[LN]<;>omega)|(simp(disch:=first|assumption|omega|(simp only[LN]<;>omega))only[row_alloc,row_set];assumption))only[W_block,P3,↓reduceIte,reduceAdd,reduceEqDiff,reduceCtorEq,initFr,reduceLT,clsA,reduceLeDiff,reduceMul,reduceSub,reduceIte,d1,g]
   refine callK (t28 h) ?_
   rintro _ X ⟨rfl,hX⟩
   rw[hX]
   by_cases c2:((L.next:Nat):Int)<k
   ·have e:truncW D L k=(D,L,2):=by unfold truncW;rw[if_neg (by simp[hb]),if_pos (.inr c2)]
    rw[e]at hq2
    simp(disch:=first|assumption|omega|(simp only[LN]<;>omega)|(simp(disch:=first|assumption|omega|(simp only[LN]<;>omega))only[row_alloc,row_set];assumption))only[W_block,P3,↓reduceIte,reduceAdd,reduceEqDiff,reduceCtorEq,initFr,reduceLT,clsA,reduceLeDiff,reduceMul,reduceSub,reduceIte,g]
    exact hq2 _ _ ⟨_,rfl,rfl,_,_,_,_,h,Upd.refl h.s⟩
   ·obtain⟨kn,rfl⟩:∃kn:Nat,k=(kn:Nat):=⟨k.toNat,by omega⟩
    have hwt:IntKind.i64.wrap (((L.turn:Nat):Int)+1)=((L.turn+1:Nat):Int):=by rw[wrap_i64 (by omega) (by omega)];simp
    have hf:∀a c:Int,fillA [.int .i64 0,.int .i64 0] [(0,1,.int .i64 a),(1,1,.int .i64 c)]=some [.int .i64 a,.int .i64 c]:=fun a c=>rfl
    have hrem:=b_rem2 (L.turn+1)
    simp(disch:=first|assumption|omega|(simp only[LN]<;>omega)|(simp(disch:=first|assumption|omega|(simp only[LN]<;>omega))only[row_alloc,row_set];assumption))only[W_block,P3,↓reduceIte,reduceAdd,reduceEqDiff,reduceCtorEq,initFr,reduceLT,clsA,reduceLeDiff,reduceMul,reduceSub,reduceIte,g,hwt,hf,hrem]
    obtain⟨K2,hK2⟩:∃Y,Y=K.alloc (.cells true false 2 [.int .i64 ((L.turn+1:Nat):Int),.int .i64 (kn:Nat)] 114):=⟨_,rfl⟩
    have k2:Keeps K K2:=by rw[hK2];exact(Keeps.refl K).alloc _
    have gv:K2.get K.n=some (.cells true false 2 [.int .i64 ((L.turn+1:Nat):Int),.int .i64 (kn:Nat)] 114):=by rw[hK2];exact AHeap.get_alloc_new K _
    rw[←hK2]
    refine callK (t70 (h.keeps k2) hs hm ((L.turn+1) % 2) (bs:=headB (L.turn+1) kn) fun K3 k3=>t121h K3 (L.turn+1) kn (by omega) (by omega)) ?_
    rintro _ K3 ⟨rfl,v3,ab3,h3',u3⟩
    have nfp:K.n∉fp (lgT lb b rv items L++dkT b sb v ab D):=fun hz2=>by have:=h.s.lt hz2;omega
    have gv3:=u3.chg.at_ gv nfp
    have U3:=(Upd.keeps h.s k2).trans u3
    have tn:((kn:Nat):Int).toNat=kn:=rfl
    by_cases he:(wlD D ((L.turn+1) % 2) (headB (L.turn+1) kn)).2 =0
    ·have e:truncW D L ((kn:Nat):Int)=((wlD D ((L.turn+1) % 2) (headB (L.turn+1) kn)).1,⟨L.turn+1,kn,L.rs.drop (kn-L.first),0⟩,0):=by unfold truncW;rw[if_neg (by simp[hb]),if_neg (by omega),tn,if_pos he,he]
     rw[e]at hq2
     have d4:((wlD D ((L.turn+1) % 2) (headB (L.turn+1) kn)).2 != 0)=false:=bnei_no he
     have g3:=h3'.g
     rw[he]at g3 h3' U3
     have lb3:=h3'.lt
     have hw:IntKind.i64.wrap (((kn:Nat):Int)-((L.first:Nat):Int))=((kn-L.first:Nat):Int):=by rw[wrap_i64 (by omega) (by omega)];omega
     obtain⟨w,hcut,hwo,hbl⟩:=h3'.w.cut (kd:=.i64) (i:=kn-L.first) (by rw[h.il];omega)
     have ow:=hwo.one
     have nl:=h.lt
     have ne1:K.n≠lb:=by omega
     have oh:[Value.int .i64 ((L.turn+1:Nat):Int),.int .i64 (kn:Nat)].all Value.oneCell'=true:=rfl
     simp(disch:=first|assumption|omega|(simp only[LN]<;>omega)|(simp(disch:=first|assumption|omega|(simp only[LN]<;>omega))only[row_alloc,row_set];assumption))only[W_block,P3,↓reduceIte,reduceAdd,reduceEqDiff,reduceCtorEq,initFr,reduceLT,clsA,reduceLeDiff,reduceMul,reduceSub,reduceIte,d4,g3,gv3,hw,hcut,ow,oh]
     rw[Nat.mul_one]at hwo
     have e1:items.length-(kn-L.first)=(items.drop (kn-L.first)).length:=by simp
     have e2:(items.map (·.1)).drop (kn-L.first)=(items.drop (kn-L.first)).map (·.1):=by simp
     rw[e1,e2]at hwo
     have s1:=Upd.next (l:=[_]) (t':=thO 38 1 w (items.drop (kn-L.first)).length ((items.drop (kn-L.first)).map fun(x:Value×List UInt8)=>x.1)) U3 (Chg.refl _ K3) hwo (fun z hz=>by
      rcases hbl with h5|h5
      ·exact .inl (by show z∈blkL rv;rw[mem_blkL,←h5];exact mem_blkL.1 hz)
      ·have:=mem_blkL.1 hz;rw[h5]at this;cases this)
     have s2:=Upd.next (l:=[_,_]) (t':=thI (items.drop (kn-L.first))) s1 (Chg.refl _ K3) (fun z hz=>(s1.sep.get 2 rfl:(thI items).P K3) z (List.mem_of_mem_drop hz)) (fun z hz=>by
      obtain⟨q,hq,hq2⟩:=List.mem_flatMap.1 hz
      exact .inl (List.mem_flatMap.2 ⟨q,List.mem_of_mem_drop hq,hq2⟩))
     have s3:=Upd.next (l:=[]) (t':=thB lb (.cells true false 5 (lgC b w ⟨L.turn+1,kn,L.rs.drop (kn-L.first),0⟩) 116)) s2 (Chg.set K3 lb3 _) (AHeap.get_set_same g3 _) (by simp[thB])
     refine hq2 _ _ ⟨_,rfl,rfl,v3,ab3,w,items.drop (kn-L.first),⟨s3.sep,h3'.ok,h3'.n3,by rw[List.map_drop,h.it],⟨by show L.turn+1≤_;omega,by have:=lok.f;show 1≤kn∧kn≤_;omega,by have:=lok.r.1;simp only[List.length_drop];omega,fun q hq=>lok.r.2 q (List.mem_of_mem_drop hq)⟩⟩,s3⟩
    ·have e:truncW D L ((kn:Nat):Int)=((wlD D ((L.turn+1) % 2) (headB (L.turn+1) kn)).1,⟨L.turn,L.first,L.rs,(wlD D ((L.turn+1) % 2) (headB (L.turn+1) kn)).2⟩,(wlD D ((L.turn+1) % 2) (headB (L.turn+1) kn)).2):=by unfold truncW;rw[if_neg (by simp[hb]),if_neg (by omega),tn,if_neg he]
     rw[e]at hq2
     have d4:((wlD D ((L.turn+1) % 2) (headB (L.turn+1) kn)).2 != 0)=true:=bnei_yes he
     simp(disch:=first|assumption|omega|(simp only[LN]<;>omega)|(simp(disch:=first|assumption|omega|(simp only[LN]<;>omega))only[row_alloc,row_set];assumption))only[W_block,P3,↓reduceIte,reduceAdd,reduceEqDiff,reduceCtorEq,initFr,reduceLT,clsA,reduceLeDiff,reduceMul,reduceSub,reduceIte,d4]
     exact hq2 _ _ ⟨_,rfl,rfl,_,_,_,_,h3',U3⟩
 ·have d1:(L.br != 0)=true:=bnei_yes hb
  have e:truncW D L k=(D,L,L.br):=by unfold truncW;rw[if_pos hb]
  rw[e]at hq2
  simp(disch:=first|assumption|omega|(simp only[LN]<;>omega)|(simp(disch:=first|assumption|omega|(simp only[LN]<;>omega))only[row_alloc,row_set];assumption))only[W_block,P3,↓reduceIte,reduceAdd,reduceEqDiff,reduceCtorEq,initFr,reduceLT,clsA,reduceLeDiff,reduceMul,reduceSub,reduceIte,d1]
  exact hq2 _ _ ⟨_,rfl,rfl,_,_,_,_,h,Upd.refl h.s⟩
end
end Go.AM.Fd

set_option linter.unusedSimpArgs false
set_option linter.unusedVariables false
namespace Go.AM.Fd
open Nat (reduceAdd reduceEqDiff reduceLT reduceLeDiff reduceMul reduceSub)
open Go.Proofs Go.AM.F
def rlC(b:Nat)(vl:Value)(L:Lg):List Value:=[ptr b 0,.int .i64 (L.turn:Nat),.int .i64 (L.first:Nat),vl,.int .i64 L.br]
def rlT(lb b:Nat)(vl:Value)(L:Lg):List Th:=[thB lb (.cells true false 5 (rlC b vl L) 133),thA 9 1 vl L.rs.length (L.rs.map sV)]
structure RlR (K:AHeap) (lb b:Nat) (vb vo:Value) (inn:Int) (vl:Value) (D:Dk) (L:Lg):Prop where
 s:Sep K (rlT lb b vl L++ekT b vb vo inn D)
 ok:D.ok
 i:∀n,D.ar=some n→inn=(n:Nat)
 n3:3≤D.bl.length
 lok:L.ok
section
variable {K:AHeap} {lb b:Nat} {vb vo vl:Value} {inn:Int} {D:Dk} {L:Lg}
theorem RlR.e(h:RlR K lb b vb vo inn vl D L):EkR K b vb vo inn D:=⟨h.s.right,h.ok,h.i⟩
theorem RlR.g(h:RlR K lb b vb vo inn vl D L):K.get lb=some (.cells true false 5 [ptr b 0,.int .i64 (L.turn:Nat),.int .i64 (L.first:Nat),vl,.int .i64 L.br] 133):=h.s.get 0 rfl
theorem RlR.a(h:RlR K lb b vb vo inn vl D L):AP K 9 1 vl L.rs.length (L.rs.map sV):=h.s.get 1 rfl
theorem RlR.sl(h:RlR K lb b vb vo inn vl D L):Sl K 1 vl (L.rs.map fun s=>[sV s]):=AP.sl (n:=L.rs.length) (by rw[map_sV];exact h.a) (by intro r hr;obtain⟨y,_,rfl⟩:=List.mem_map.1 hr;rfl) (by simp)
theorem RlR.lt(h:RlR K lb b vb vo inn vl D L):lb<K.n:=AHeap.get_lt h.g
theorem RlR.lr(h:RlR K lb b vb vo inn vl D L):lenS vl=L.rs.length:=by have:=Sl.len h.sl;simpa using this
theorem RlR.ln(h:RlR K lb b vb vo inn vl D L):lb∉blkL vl:=fun e=>h.s.apart 0 1 (by omega) rfl rfl lb (by simp[thB]) e
theorem RlR.keeps{K':AHeap}(h:RlR K lb b vb vo inn vl D L)(k:Keeps K K'):RlR K' lb b vb vo inn vl D L:=⟨h.s.keeps k,h.ok,h.i,h.n3,h.lok⟩
theorem t77(h:RlR K lb b vb vo inn vl D L):∃w K',ARun Go.Proofs.Tryz.prog 0 77 [ptr lb 0] K w K'∧w=.int .i64 ((D.bl.length-2:Nat):Nat)∧K'=K:=by
 refine walk2 f77_ok f77_n ?_
 intro Q hq1 hq2
 have g:=h.g
 have g2:=h.e.g
 have n3:=h.n3
 have n4:=h.ok.n
 have ib:=Sl.is h.e.sb
 have lb2:lenS vb=D.bl.length:=by have:=Sl.len h.e.sb;simpa using this
 have hw:IntKind.i64.wrap (((D.bl.length:Nat):Int)-2)=((D.bl.length-2:Nat):Int):=by rw[wrap_i64 (by omega) (by omega)];omega
 simp(disch:=first|assumption|omega|(simp only[LN]<;>omega)|(simp(disch:=first|assumption|omega|(simp only[LN]<;>omega))only[row_alloc,row_set];assumption))only[f77,W_block,P3,↓reduceIte,reduceAdd,reduceEqDiff,reduceCtorEq,initFr,reduceLT,clsA,reduceLeDiff,reduceMul,reduceSub,reduceIte,g,g2,lb2,hw]
 exact hq2 _ _ ⟨_,rfl,rfl,rfl⟩
theorem t79(h:RlR K lb b vb vo inn vl D L):∃w K',ARun Go.Proofs.Tryz.prog 0 79 [ptr lb 0] K w K'∧w=.int .i64 (L.next:Nat)∧K'=K:=by
 refine walk2 f79_ok f79_n ?_
 intro Q hq1 hq2
 have g:=h.g
 have lr:=h.lr
 have ir:=Sl.is h.sl
 have ok:=h.lok
 have hw:IntKind.i64.wrap (((L.first:Nat):Int)+((L.rs.length:Nat):Int))=((L.next:Nat):Int):=by have:=ok.f;have:=ok.r;unfold Lg.next;rw[wrap_i64 (by omega) (by omega)];simp
 simp(disch:=first|assumption|omega|(simp only[LN]<;>omega)|(simp(disch:=first|assumption|omega|(simp only[LN]<;>omega))only[row_alloc,row_set];assumption))only[f79,W_block,P3,↓reduceIte,reduceAdd,reduceEqDiff,reduceCtorEq,initFr,reduceLT,clsA,reduceLeDiff,reduceMul,reduceSub,reduceIte,g,lr,hw]
 exact hq2 _ _ ⟨_,rfl,rfl,rfl⟩
theorem t78(h:RlR K lb b vb vo inn vl D L)(k:Nat)(h1:1≤k)(h2:k≤9223372036854775807):∃w K',ARun Go.Proofs.Tryz.prog 0 78 [ptr lb 0,.int .i64 (k:Nat)] K w K'∧w=.int .i64 (atW D k:Nat)∧K'=K:=by
 refine walk2 f78_ok f78_n ?_
 intro Q hq1 hq2
 have n3:=h.n3
 have n4:=h.ok.n
 have hm:=Nat.mod_lt (k-1) (show 0<D.bl.length-2 by omega)
 have hw:IntKind.i64.wrap (((k:Nat):Int)-1)=((k-1:Nat):Int):=by rw[wrap_i64 (by omega) (by omega)];omega
 have hr:=b_remn (kd:=.i64) (n:=k-1) (m:=D.bl.length-2) (by omega)
 have hw2:IntKind.i64.wrap (2+(((k-1) % (D.bl.length-2):Nat):Int))=((atW D k:Nat):Int):=by unfold atW;rw[wrap_i64 (by omega) (by omega)];simp
 simp(disch:=first|assumption|omega|(simp only[LN]<;>omega)|(simp(disch:=first|assumption|omega|(simp only[LN]<;>omega))only[row_alloc,row_set];assumption))only[f78,P3,↓reduceIte,reduceAdd,reduceEqDiff,reduceCtorEq,initFr,reduceLT,clsA,reduceLeDiff,reduceMul,reduceSub,reduceIte,hw]
 refine callK (t77 h) ?_
 rintro _ X ⟨rfl,hX⟩
 rw[hX]
 simp(disch:=first|assumption|omega|(simp only[LN]<;>omega)|(simp(disch:=first|assumption|omega|(simp only[LN]<;>omega))only[row_alloc,row_set];assumption))only[W_block,P3,↓reduceIte,reduceAdd,reduceEqDiff,reduceCtorEq,initFr,reduceLT,clsA,reduceLeDiff,reduceMul,reduceSub,reduceIte,hr,hw2]
 exact hq2 _ _ ⟨_,rfl,rfl,rfl⟩
theorem RlR.cell{K1:AHeap}{L':Lg}(h:RlR K lb b vb vo inn vl D L)(k:Keeps K K1)(hr:L'.rs=L.rs):Upd (rlT lb b vl L++ekT b vb vo inn D) (rlT lb b vl L'++ekT b vb vo inn D) K (K1.set lb (.cells true false 5 (rlC b vl L') 133)):=by
 have hl:lb<K1.n:=Nat.lt_of_lt_of_le h.lt k.n
 simp only[rlT,hr]
 exact Upd.next (l:=[]) (t':=thB lb (.cells true false 5 (rlC b vl L') 133)) (Upd.keeps h.s k) (Chg.set K1 hl _) (AHeap.get_set_same (k.at_ h.g) _) (by simp[thB])
theorem wrD_bl(D:Dk)(i:Int)(bs:List UInt8):(wrD D i bs).1.bl.length=D.bl.length:=by
 unfold wrD
 split
 ·rfl
 ·split
  ·rfl
  ·rw[(stepD_bl _).1]
theorem t124(h:RlR K lb b vb vo inn vl D L)(hs:D.st<999999)(hm:D.op.length<999999)(i:Nat)(bs:List UInt8):
 ∃w K',ARun Go.Proofs.Tryz.prog 0 124 [ptr lb 0,.int .i64 (i:Nat),.string ⟨bs.toArray⟩] K w K'∧w=.int .i64 (wlD D i bs).2 ∧∃vo' inn',RlR K' lb b vb vo' inn' vl (wlD D i bs).1 ⟨L.turn,L.first,L.rs,(wlD D i bs).2⟩∧Upd (rlT lb b vl L++ekT b vb vo inn D) (rlT lb b vl ⟨L.turn,L.first,L.rs,(wlD D i bs).2⟩++ekT b vb vo' inn' (wlD D i bs).1) K K':=by
 refine walk2 f124_ok f124_n ?_
 intro Q hq1 hq2
 have g:=h.g
 obtain⟨o1,o2,o3,o4⟩:=wlD_ok h.ok hs hm i bs
 simp(disch:=first|assumption|omega|(simp only[LN]<;>omega)|(simp(disch:=first|assumption|omega|(simp only[LN]<;>omega))only[row_alloc,row_set];assumption))only[f124,P3,↓reduceIte,reduceAdd,reduceEqDiff,reduceCtorEq,initFr,reduceLT,clsA,reduceLeDiff,reduceMul,reduceSub,reduceIte,g]
 refine callK (t24 h.e (by omega) (by omega) ((i:Nat):Int) bs) ?_
 rintro _ K2 ⟨rfl,vo2,in2,e2,u2⟩
 have U2:=u2.extR h.s
 have h2:RlR K2 lb b vb vo2 in2 vl (wrD D i bs).1 L:=⟨U2.sep,e2.ok,e2.i,by rw[wrD_bl];exact h.n3,h.lok⟩
 have g2:=h2.g
 have lb2:=h2.lt
 by_cases he:(wrD D i bs).2 =0
 ·have ew:wlD D i bs=syD (wrD D i bs).1 :=by unfold wlD;rw[if_pos he]
  have d1:((wrD D i bs).2 ==0)=true:=beqi_yes he
  rw[ew]at hq2 o1 o2
  simp(disch:=first|assumption|omega|(simp only[LN]<;>omega)|(simp(disch:=first|assumption|omega|(simp only[LN]<;>omega))only[row_alloc,row_set];assumption))only[P3,↓reduceIte,reduceAdd,reduceEqDiff,reduceCtorEq,initFr,reduceLT,clsA,reduceLeDiff,reduceMul,reduceSub,reduceIte,g2,d1]
  refine callK (t76 h2.e o4) ?_
  rintro _ K4 ⟨rfl,vo4,in4,e4,u4⟩
  have U4:=U2.trans (u4.extR h2.s)
  have h4:RlR K4 lb b vb vo4 in4 vl (syD (wrD D i bs).1).1 L:=⟨U4.sep,o1,e4.i,by rw[o2];exact h.n3,h.lok⟩
  have g4:=h4.g
  have lb4:=h4.lt
  simp(disch:=first|assumption|omega|(simp only[LN]<;>omega)|(simp(disch:=first|assumption|omega|(simp only[LN]<;>omega))only[row_alloc,row_set];assumption))only[W_block,P3,↓reduceIte,reduceAdd,reduceEqDiff,reduceCtorEq,initFr,reduceLT,clsA,reduceLeDiff,reduceMul,reduceSub,reduceIte,g4]
  have c5:=h4.cell (L':=⟨L.turn,L.first,L.rs,(syD (wrD D i bs).1).2⟩) (Keeps.refl K4) rfl
  exact hq2 _ _ ⟨_,rfl,rfl,_,_,⟨c5.sep,o1,e4.i,h4.n3,⟨h.lok.t,h.lok.f,h.lok.r⟩⟩,U4.trans c5⟩
 ·have ew:wlD D i bs=wrD D i bs:=by unfold wlD;rw[if_neg he]
  have d1:((wrD D i bs).2 ==0)=false:=beqi_no he
  rw[ew]at hq2
  simp(disch:=first|assumption|omega|(simp only[LN]<;>omega)|(simp(disch:=first|assumption|omega|(simp only[LN]<;>omega))only[row_alloc,row_set];assumption))only[W_block,P3,↓reduceIte,reduceAdd,reduceEqDiff,reduceCtorEq,initFr,reduceLT,clsA,reduceLeDiff,reduceMul,reduceSub,reduceIte,g2,d1]
  have c5:=h2.cell (L':=⟨L.turn,L.first,L.rs,(wrD D i bs).2⟩) (Keeps.refl K2) rfl
  exact hq2 _ _ ⟨_,rfl,rfl,_,_,⟨c5.sep,e2.ok,e2.i,h2.n3,⟨h.lok.t,h.lok.f,h.lok.r⟩⟩,U2.trans c5⟩
theorem RlR.recs{K0 K1:AHeap}{vl':Value}{L':Lg}{A:List Th}(u:Upd A (rlT lb b vl L++ekT b vb vo inn D) K0 K)(hg:∃o,K1.get lb=some o)(c:Chg (blkL vl) K K1)(hp:AP K1 9 1 vl' L'.rs.length (L'.rs.map sV))(hf:∀y∈blkL vl',y∈blkL vl∨K.n≤y):
 Upd A (rlT lb b vl' L'++ekT b vb vo inn D) K0 (K1.set lb (.cells true false 5 (rlC b vl' L') 133)):=by
 obtain⟨o,ho⟩:=hg
 have s1:=Upd.next (l:=[_]) (t':=thA 9 1 vl' L'.rs.length (L'.rs.map sV)) u c hp (fun z hz=>by
  rcases hf z hz with h1|h1
  ·exact .inl h1
  ·exact .inr (.inl h1))
 exact Upd.next (l:=[]) (t':=thB lb (.cells true false 5 (rlC b vl' L') 133)) s1 (Chg.set K1 (AHeap.get_lt ho) _) (AHeap.get_set_same ho _) (by simp[thB])
theorem t90(h:RlR K lb b vb vo inn vl D L)(hs:D.st<999999)(hm:D.op.length<999999)(l:List UInt8)(hl:l.length≤1000000):∃w K',ARun Go.Proofs.Tryz.prog 0 90 [ptr lb 0,.string ⟨l.toArray⟩] K w K'∧w=.int .i64 (appW D L l).2.2 ∧
 ∃vo' inn' vl',RlR K' lb b vb vo' inn' vl' (appW D L l).1 (appW D L l).2.1 ∧Upd (rlT lb b vl L++ekT b vb vo inn D) (rlT lb b vl' (appW D L l).2.1 ++ekT b vb vo' inn' (appW D L l).1) K K':=by
 refine walk2 f90_ok f90_n ?_
 intro Q hq1 hq2
 have g:=h.g
 have lok:=h.lok
 have n3:=h.n3
 have n4:=h.ok.n
 have hnx:L.next=L.first+L.rs.length:=rfl
 by_cases hb:L.br=0
 ·have d1:(L.br != 0)=false:=bnei_no hb
  by_cases h2:232<l.length
  ·have e:appW D L l=(D,L,3):=by unfold appW;rw[if_neg (by simp[hb]),if_pos h2]
   rw[e]at hq2
   have d2:(232:Int)<((l.length:Nat):Int):=by omega
   simp(disch:=first|assumption|omega|(simp only[LN]<;>omega)|(simp(disch:=first|assumption|omega|(simp only[LN]<;>omega))only[row_alloc,row_set];assumption))only[f90,W_block,P3,↓reduceIte,reduceAdd,reduceEqDiff,reduceCtorEq,initFr,reduceLT,clsA,reduceLeDiff,reduceMul,reduceSub,reduceIte,d1,g,a_lens]
   exact hq2 _ _ ⟨_,rfl,rfl,_,_,_,h,Upd.refl h.s⟩
  ·have d2:¬(232:Int)<((l.length:Nat):Int):=by omega
   have ir:=Sl.is h.sl
   have lr:=h.lr
   simp(disch:=first|assumption|omega|(simp only[LN]<;>omega)|(simp(disch:=first|assumption|omega|(simp only[LN]<;>omega))only[row_alloc,row_set];assumption))only[f90,W_block,P3,↓reduceIte,reduceAdd,reduceEqDiff,reduceCtorEq,initFr,reduceLT,clsA,reduceLeDiff,reduceMul,reduceSub,reduceIte,d1,g,a_lens,lr]
   refine callK (t77 h) ?_
   rintro _ X ⟨rfl,hX⟩
   rw[hX]
   by_cases h3:D.bl.length-2≤L.rs.length
   ·have e:appW D L l=(D,L,150):=by unfold appW;rw[if_neg (by simp[hb]),if_neg h2,if_pos h3]
    rw[e]at hq2
    have d3:((D.bl.length-2:Nat):Int)≤((L.rs.length:Nat):Int):=by omega
    simp(disch:=first|assumption|omega|(simp only[LN]<;>omega)|(simp(disch:=first|assumption|omega|(simp only[LN]<;>omega))only[row_alloc,row_set];assumption))only[W_block,P3,↓reduceIte,reduceAdd,reduceEqDiff,reduceCtorEq,initFr,reduceLT,clsA,reduceLeDiff,reduceMul,reduceSub,reduceIte,g]
    refine⟨by simp,?_⟩
    exact hq2 _ _ ⟨_,rfl,rfl,_,_,_,h,Upd.refl h.s⟩
   ·have d3:¬((D.bl.length-2:Nat):Int)≤((L.rs.length:Nat):Int):=by omega
    simp(disch:=first|assumption|omega|(simp only[LN]<;>omega)|(simp(disch:=first|assumption|omega|(simp only[LN]<;>omega))only[row_alloc,row_set];assumption))only[W_block,P3,↓reduceIte,reduceAdd,reduceEqDiff,reduceCtorEq,initFr,reduceLT,clsA,reduceLeDiff,reduceMul,reduceSub,reduceIte,g]
    refine⟨by simp,?_⟩
    refine callK (t79 h) ?_
    rintro _ X ⟨rfl,hX⟩
    rw[hX]
    simp(disch:=first|assumption|omega|(simp only[LN]<;>omega)|(simp(disch:=first|assumption|omega|(simp only[LN]<;>omega))only[row_alloc,row_set];assumption))only[P3,↓reduceIte,reduceAdd,reduceEqDiff,reduceCtorEq,initFr,reduceLT,clsA,reduceLeDiff,reduceMul,reduceSub,reduceIte]
    refine callK (t78 h L.next (by have:=lok.f;omega) (by have:=lok.f;have:=lok.r;omega)) ?_
    rintro _ X ⟨rfl,hX⟩
    rw[hX]
    simp(disch:=first|assumption|omega|(simp only[LN]<;>omega)|(simp(disch:=first|assumption|omega|(simp only[LN]<;>omega))only[row_alloc,row_set];assumption))only[P3,↓reduceIte,reduceAdd,reduceEqDiff,reduceCtorEq,initFr,reduceLT,clsA,reduceLeDiff,reduceMul,reduceSub,reduceIte]
    refine callK (t79 h) ?_
    rintro _ X ⟨rfl,hX⟩
    rw[hX]
    simp(disch:=first|assumption|omega|(simp only[LN]<;>omega)|(simp(disch:=first|assumption|omega|(simp only[LN]<;>omega))only[row_alloc,row_set];assumption))only[P3,↓reduceIte,reduceAdd,reduceEqDiff,reduceCtorEq,initFr,reduceLT,clsA,reduceLeDiff,reduceMul,reduceSub,reduceIte]
    refine callK (t34 K L.next l (by have:=lok.f;have:=lok.r;omega) (by omega)) ?_
    rintro _ X ⟨rfl,hX⟩
    rw[hX]
    simp(disch:=first|assumption|omega|(simp only[LN]<;>omega)|(simp(disch:=first|assumption|omega|(simp only[LN]<;>omega))only[row_alloc,row_set];assumption))only[P3,↓reduceIte,reduceAdd,reduceEqDiff,reduceCtorEq,initFr,reduceLT,clsA,reduceLeDiff,reduceMul,reduceSub,reduceIte]
    refine callK (t124 h hs hm (atW D L.next) (recB L.next l)) ?_
    rintro _ K3 ⟨rfl,vo3,in3,h3',U3⟩
    by_cases he:(wlD D (atW D L.next) (recB L.next l)).2 =0
    ·have e:appW D L l=((wlD D (atW D L.next) (recB L.next l)).1,⟨L.turn,L.first,L.rs++[l],0⟩,(wlD D (atW D L.next) (recB L.next l)).2):=by unfold appW;rw[if_neg (by simp[hb]),if_neg h2,if_neg h3,if_pos he]
     rw[e]at hq2
     have d4:((wlD D (atW D L.next) (recB L.next l)).2 ==0)=true:=beqi_yes he
     have g3:=h3'.g
     have hfy:∀s:ByteArray,fillA [.string ByteArray.empty] [(0,1,.string s)]=some [.string s]:=fun s=>rfl
     simp(disch:=first|assumption|omega|(simp only[LN]<;>omega)|(simp(disch:=first|assumption|omega|(simp only[LN]<;>omega))only[row_alloc,row_set];assumption))only[W_block,P3,↓reduceIte,reduceAdd,reduceEqDiff,reduceCtorEq,initFr,reduceLT,clsA,reduceLeDiff,reduceMul,reduceSub,reduceIte,d4,g3,hfy]
     have kk3:=(Keeps.refl K3).alloc (.cells true false 1 [.string ⟨l.toArray⟩] 9)
     refine appG (bytes:=16) (h3'.a.keeps kk3) ⟨_,_,rfl⟩ (elems_new (n:=1) rfl rfl) rfl (by simp only;omega) ?_
     rintro vl' K4 hap hch hbl
     generalize K3.alloc (.cells true false 1 [.string ⟨l.toArray⟩] 9)=X3 at*
     have c4:Chg (blkL vl) K3 K4:=(kk3.chg _).trans hch (fun z hz=>.inl hz)
     have g4:=c4.at_ g3 h.ln
     have lb4:=AHeap.get_lt g4
     obtain⟨av,hav⟩:=hap.shape
     have orv:vl'.oneCell'=true:=by rw[hav];rfl
     simp(disch:=first|assumption|omega|(simp only[LN]<;>omega)|(simp(disch:=first|assumption|omega|(simp only[LN]<;>omega))only[row_alloc,row_set];assumption))only[W_block,P3,↓reduceIte,reduceAdd,reduceEqDiff,reduceCtorEq,initFr,reduceLT,clsA,reduceLeDiff,reduceMul,reduceSub,reduceIte,g4,orv]
     have R:=RlR.recs (L':=⟨L.turn,L.first,L.rs++[l],0⟩) U3 ⟨_,g4⟩ c4 (by
      simp only[List.length_append,List.length_cons,List.length_nil,List.map_append]
      exact hap) (fun z hz=>by
      rcases hbl with h5|h5
      ·exact .inl (by rw[mem_blkL,←h5];exact mem_blkL.1 hz)
      ·have:z=X3.n:=by have:=mem_blkL.1 hz;rw[h5]at this;cases this;rfl
       exact .inr (by have:=kk3.n;omega))
     have hcell:rlC b vl' ⟨L.turn,L.first,L.rs++[l],0⟩=[ptr b 0,.int .i64 (L.turn:Nat),.int .i64 (L.first:Nat),vl',.int .i64 0]:=rfl
     rw[hcell]at R
     rw[he]at hq2 ⊢
     exact hq2 _ _ ⟨_,rfl,rfl,_,_,vl',⟨R.sep,h3'.ok,h3'.i,h3'.n3,⟨lok.t,lok.f,by simp only[List.length_append,List.length_cons,List.length_nil];omega,fun q hq=>by
      rcases List.mem_append.1 hq with hq|hq
      ·exact lok.r.2 q hq
      ·simp only[List.mem_singleton]at hq;subst hq;omega⟩⟩,R⟩
    ·have e:appW D L l=((wlD D (atW D L.next) (recB L.next l)).1,⟨L.turn,L.first,L.rs,(wlD D (atW D L.next) (recB L.next l)).2⟩,(wlD D (atW D L.next) (recB L.next l)).2):=by unfold appW;rw[if_neg (by simp[hb]),if_neg h2,if_neg h3,if_neg he]
     rw[e]at hq2
     have d4:((wlD D (atW D L.next) (recB L.next l)).2 ==0)=false:=beqi_no he
     simp(disch:=first|assumption|omega|(simp only[LN]<;>omega)|(simp(disch:=first|assumption|omega|(simp only[LN]<;>omega))only[row_alloc,row_set];assumption))only[W_block,P3,↓reduceIte,reduceAdd,reduceEqDiff,reduceCtorEq,initFr,reduceLT,clsA,reduceLeDiff,reduceMul,reduceSub,reduceIte,d4]
     exact hq2 _ _ ⟨_,rfl,rfl,_,_,_,h3',U3⟩
 ·have d1:(L.br != 0)=true:=bnei_yes hb
  have e:appW D L l=(D,L,L.br):=by unfold appW;rw[if_pos hb]
  rw[e]at hq2
  simp(disch:=first|assumption|omega|(simp only[LN]<;>omega)|(simp(disch:=first|assumption|omega|(simp only[LN]<;>omega))only[row_alloc,row_set];assumption))only[f90,W_block,P3,↓reduceIte,reduceAdd,reduceEqDiff,reduceCtorEq,initFr,reduceLT,clsA,reduceLeDiff,reduceMul,reduceSub,reduceIte,d1,g]
  exact hq2 _ _ ⟨_,rfl,rfl,_,_,_,h,Upd.refl h.s⟩
theorem t89(h:RlR K lb b vb vo inn vl D L)(hs:D.st<999999)(hm:D.op.length<999999)(hT:L.turn<8999999999999999999)(hF:L.next≤9000000000000000000)(k:Int):∃w K',ARun Go.Proofs.Tryz.prog 0 89 [ptr lb 0,.int .i64 k] K w K'∧w=.int .i64 (truncW D L k).2.2 ∧
 ∃vo' inn' vl',RlR K' lb b vb vo' inn' vl' (truncW D L k).1 (truncW D L k).2.1 ∧Upd (rlT lb b vl L++ekT b vb vo inn D) (rlT lb b vl' (truncW D L k).2.1 ++ekT b vb vo' inn' (truncW D L k).1) K K':=by
 refine walk2 f89_ok f89_n ?_
 intro Q hq1 hq2
 have g:=h.g
 have lok:=h.lok
 have hnx:L.next=L.first+L.rs.length:=rfl
 by_cases hb:L.br=0
 ·have d1:(L.br != 0)=false:=bnei_no hb
  by_cases c1:k<(L.first:Nat)
  ·have e:truncW D L k=(D,L,2):=by unfold truncW;rw[if_neg (by simp[hb]),if_pos (.inl c1)]
   rw[e]at hq2
   simp(disch:=first|assumption|omega|(simp only[LN]<;>omega)|(simp(disch:=first|assumption|omega|(simp only[LN]<;>omega))only[row_alloc,row_set];assumption))only[f89,W_block,P3,↓reduceIte,reduceAdd,reduceEqDiff,reduceCtorEq,initFr,reduceLT,clsA,reduceLeDiff,reduceMul,reduceSub,reduceIte,d1,g]
   exact hq2 _ _ ⟨_,rfl,rfl,_,_,_,h,Upd.refl h.s⟩
  ·simp(disch:=first|assumption|omega|(simp only[LN]<;>omega)|(simp(disch:=first|assumption|omega|(simp only[LN]<;>omega))only[row_alloc,row_set];assumption))only[f89,W_block,P3,↓reduceIte,reduceAdd,reduceEqDiff,reduceCtorEq,initFr,reduceLT,clsA,reduceLeDiff,reduceMul,reduceSub,reduceIte,d1,g]
   refine callK (t79 h) ?_
   rintro _ X ⟨rfl,hX⟩
   rw[hX]
   by_cases c2:((L.next:Nat):Int)<k
   ·have e:truncW D L k=(D,L,2):=by unfold truncW;rw[if_neg (by simp[hb]),if_pos (.inr c2)]
    rw[e]at hq2
    simp(disch:=first|assumption|omega|(simp only[LN]<;>omega)|(simp(disch:=first|assumption|omega|(simp only[LN]<;>omega))only[row_alloc,row_set];assumption))only[W_block,P3,↓reduceIte,reduceAdd,reduceEqDiff,reduceCtorEq,initFr,reduceLT,clsA,reduceLeDiff,reduceMul,reduceSub,reduceIte,g]
    exact hq2 _ _ ⟨_,rfl,rfl,_,_,_,h,Upd.refl h.s⟩
   ·obtain⟨kn,rfl⟩:∃kn:Nat,k=(kn:Nat):=⟨k.toNat,by omega⟩
    have hwt:IntKind.i64.wrap (((L.turn:Nat):Int)+1)=((L.turn+1:Nat):Int):=by rw[wrap_i64 (by omega) (by omega)];simp
    have hrem:=b_rem2 (L.turn+1)
    simp(disch:=first|assumption|omega|(simp only[LN]<;>omega)|(simp(disch:=first|assumption|omega|(simp only[LN]<;>omega))only[row_alloc,row_set];assumption))only[W_block,P3,↓reduceIte,reduceAdd,reduceEqDiff,reduceCtorEq,initFr,reduceLT,clsA,reduceLeDiff,reduceMul,reduceSub,reduceIte,g,hwt,hrem]
    refine callK (t33 K (L.turn+1) kn (by omega) (by omega)) ?_
    rintro _ X ⟨rfl,hX⟩
    rw[hX]
    simp(disch:=first|assumption|omega|(simp only[LN]<;>omega)|(simp(disch:=first|assumption|omega|(simp only[LN]<;>omega))only[row_alloc,row_set];assumption))only[W_block,P3,↓reduceIte,reduceAdd,reduceEqDiff,reduceCtorEq,initFr,reduceLT,clsA,reduceLeDiff,reduceMul,reduceSub,reduceIte]
    refine⟨by simp,?_⟩
    refine callK (t124 h hs hm ((L.turn+1) % 2) (headB (L.turn+1) kn)) ?_
    rintro _ K3 ⟨rfl,vo3,in3,h3',U3⟩
    have tn:((kn:Nat):Int).toNat=kn:=rfl
    by_cases he:(wlD D ((L.turn+1) % 2) (headB (L.turn+1) kn)).2 =0
    ·have e:truncW D L ((kn:Nat):Int)=((wlD D ((L.turn+1) % 2) (headB (L.turn+1) kn)).1,⟨L.turn+1,kn,L.rs.drop (kn-L.first),0⟩,(wlD D ((L.turn+1) % 2) (headB (L.turn+1) kn)).2):=by unfold truncW;rw[if_neg (by simp[hb]),if_neg (by omega),tn,if_pos he]
     rw[e]at hq2
     have d4:((wlD D ((L.turn+1) % 2) (headB (L.turn+1) kn)).2 ==0)=true:=beqi_yes he
     have g3:=h3'.g
     have lb3:=h3'.lt
     have hw:IntKind.i64.wrap (((kn:Nat):Int)-((L.first:Nat):Int))=((kn-L.first:Nat):Int):=by rw[wrap_i64 (by omega) (by omega)];omega
     have hfz:fillA ([]:List Value) []=some []:=rfl
     have c5:=h3'.cell (L':=⟨L.turn+1,L.first,L.rs,(wlD D ((L.turn+1) % 2) (headB (L.turn+1) kn)).2⟩) (Keeps.refl K3) rfl
     have h5:RlR _ lb b vb vo3 in3 vl (wlD D ((L.turn+1) % 2) (headB (L.turn+1) kn)).1 ⟨L.turn+1,L.first,L.rs,(wlD D ((L.turn+1) % 2) (headB (L.turn+1) kn)).2⟩:=⟨c5.sep,h3'.ok,h3'.i,h3'.n3,⟨by show L.turn+1≤_;omega,lok.f,lok.r⟩⟩
     have hcell:rlC b vl ⟨L.turn+1,L.first,L.rs,(wlD D ((L.turn+1) % 2) (headB (L.turn+1) kn)).2⟩=[ptr b 0,.int .i64 ((L.turn+1:Nat):Int),.int .i64 (L.first:Nat),vl,.int .i64 (wlD D ((L.turn+1) % 2) (headB (L.turn+1) kn)).2]:=rfl
     rw[hcell]at c5 h5
     have U5:=U3.trans c5
     have n5:(K3.set lb (.cells true false 5 [ptr b 0,.int .i64 ((L.turn+1:Nat):Int),.int .i64 (L.first:Nat),vl,.int .i64 (wlD D ((L.turn+1) % 2) (headB (L.turn+1) kn)).2] 133)).n=K3.n:=rfl
     simp(disch:=first|assumption|omega|(simp only[LN]<;>omega)|(simp(disch:=first|assumption|omega|(simp only[LN]<;>omega))only[row_alloc,row_set];assumption))only[W_block,P3,↓reduceIte,reduceAdd,reduceEqDiff,reduceCtorEq,initFr,reduceLT,clsA,reduceLeDiff,reduceMul,reduceSub,reduceIte,d4,g3,hwt,hw,hfz]
     generalize K3.set lb (.cells true false 5 [ptr b 0,.int .i64 ((L.turn+1:Nat):Int),.int .i64 (L.first:Nat),vl,.int .i64 (wlD D ((L.turn+1) % 2) (headB (L.turn+1) kn)).2] 133)=K5 at*
     have kk5:=(Keeps.refl K5).alloc (.cells true false 1 [] 9)
     have ap0:AP (K5.alloc (.cells true false 1 [] 9)) 9 1 (slc K3.n 0 0 0) 0 []:=.inr ⟨K3.n,false,rfl,rfl,by rw[←n5];exact AHeap.get_alloc_new K5 _⟩
     have g5:=kk5.at_ h5.g
     obtain⟨w,hcut,hwo,hbl⟩:=(h5.a.keeps kk5).wo.cut (kd:=.i64) (i:=kn-L.first) (by simp only;omega)
     have n6:(K5.alloc (.cells true false 1 [] 9)).n=K3.n+1:=by rw[alloc_n,n5]
     generalize K5.alloc (.cells true false 1 [] 9)=K6 at*
     simp(disch:=first|assumption|omega|(simp only[LN]<;>omega)|(simp(disch:=first|assumption|omega|(simp only[LN]<;>omega))only[row_alloc,row_set];assumption))only[W_block,P3,↓reduceIte,reduceAdd,reduceEqDiff,reduceCtorEq,initFr,reduceLT,clsA,reduceLeDiff,reduceMul,reduceSub,reduceIte,hcut]
     have hdl:L.rs.length-(kn-L.first)=(L.rs.drop (kn-L.first)).length:=by simp
     refine appGD (bytes:=16) ap0 hwo.shape hwo.elems (by rw[hwo.len]) (by simp only;have:=lok.r.1;omega) ?_
     rintro v7 K7 hap hch hbl7
     have c7:Chg (blkL vl) K5 K7:=(kk5.chg _).trans hch (fun z hz=>by
      have:z=K3.n:=by have:=mem_blkL.1 hz;cases this;rfl
      exact .inr (by omega))
     have g7:=c7.at_ h5.g h5.ln
     have lb7:=AHeap.get_lt g7
     obtain⟨av,hav⟩:=hap.shape
     have o7:v7.oneCell'=true:=by rw[hav];rfl
     simp(disch:=first|assumption|omega|(simp only[LN]<;>omega)|(simp(disch:=first|assumption|omega|(simp only[LN]<;>omega))only[row_alloc,row_set];assumption))only[W_block,P3,↓reduceIte,reduceAdd,reduceEqDiff,reduceCtorEq,initFr,reduceLT,clsA,reduceLeDiff,reduceMul,reduceSub,reduceIte,g7,o7]
     have R:=RlR.recs (L':=⟨L.turn+1,kn,L.rs.drop (kn-L.first),(wlD D ((L.turn+1) % 2) (headB (L.turn+1) kn)).2⟩) U5 ⟨_,g7⟩ c7 (by
      have e9:([]++(L.rs.map sV).drop ((kn-L.first)*1):List Value)=(L.rs.drop (kn-L.first)).map sV:=by simp
      have e10:0+(L.rs.length-(kn-L.first))=(L.rs.drop (kn-L.first)).length:=by simp
      simp only at hap
      rw[e9,e10]at hap
      exact hap) (fun z hz=>by
      rcases hbl7 with h6|h6
      ·have:z=K3.n:=by have:=mem_blkL.1 hz;rw[h6]at this;cases this;rfl
       exact .inr (by omega)
      ·have:z=K6.n:=by have:=mem_blkL.1 hz;rw[h6]at this;cases this;rfl
       exact .inr (by omega))
     have hcell2:rlC b v7 ⟨L.turn+1,kn,L.rs.drop (kn-L.first),(wlD D ((L.turn+1) % 2) (headB (L.turn+1) kn)).2⟩=[ptr b 0,.int .i64 ((L.turn+1:Nat):Int),.int .i64 (kn:Nat),v7,.int .i64 (wlD D ((L.turn+1) % 2) (headB (L.turn+1) kn)).2]:=rfl
     rw[hcell2]at R
     rw[he]at hq2 R ⊢
     exact hq2 _ _ ⟨_,rfl,rfl,_,_,v7,⟨R.sep,h3'.ok,h3'.i,h3'.n3,⟨by show L.turn+1≤_;omega,by have:=lok.f;show 1≤kn∧kn≤_;omega,by have:=lok.r.1;simp only[List.length_drop];omega,fun q hq=>lok.r.2 q (List.mem_of_mem_drop hq)⟩⟩,R⟩
    ·have e:truncW D L ((kn:Nat):Int)=((wlD D ((L.turn+1) % 2) (headB (L.turn+1) kn)).1,⟨L.turn,L.first,L.rs,(wlD D ((L.turn+1) % 2) (headB (L.turn+1) kn)).2⟩,(wlD D ((L.turn+1) % 2) (headB (L.turn+1) kn)).2):=by unfold truncW;rw[if_neg (by simp[hb]),if_neg (by omega),tn,if_neg he]
     rw[e]at hq2
     have d4:((wlD D ((L.turn+1) % 2) (headB (L.turn+1) kn)).2 ==0)=false:=beqi_no he
     simp(disch:=first|assumption|omega|(simp only[LN]<;>omega)|(simp(disch:=first|assumption|omega|(simp only[LN]<;>omega))only[row_alloc,row_set];assumption))only[W_block,P3,↓reduceIte,reduceAdd,reduceEqDiff,reduceCtorEq,initFr,reduceLT,clsA,reduceLeDiff,reduceMul,reduceSub,reduceIte,d4]
     exact hq2 _ _ ⟨_,rfl,rfl,_,_,_,h3',U3⟩
 ·have d1:(L.br != 0)=true:=bnei_yes hb
  have e:truncW D L k=(D,L,L.br):=by unfold truncW;rw[if_pos hb]
  rw[e]at hq2
  simp(disch:=first|assumption|omega|(simp only[LN]<;>omega)|(simp(disch:=first|assumption|omega|(simp only[LN]<;>omega))only[row_alloc,row_set];assumption))only[f89,W_block,P3,↓reduceIte,reduceAdd,reduceEqDiff,reduceCtorEq,initFr,reduceLT,clsA,reduceLeDiff,reduceMul,reduceSub,reduceIte,d1,g]
  exact hq2 _ _ ⟨_,rfl,rfl,_,_,_,h,Upd.refl h.s⟩
end
end Go.AM.Fd

set_option linter.unusedSimpArgs false
set_option linter.unusedVariables false
namespace Go.AM
open Nat (reduceAdd reduceEqDiff reduceLT reduceLeDiff reduceMul reduceSub)
theorem Upd.dropL{A B C:List Th}{K K':AHeap}(u:Upd A (B++C) K K'):Upd A C K K':=⟨u.sep.right,u.chg,fun y hy=>u.fr y (by rw[fp_app];exact List.mem_append_right _ hy)⟩
theorem Upd.add{A B:List Th}{K K1 K2:AHeap}{t:Th}(u:Upd A B K K1)(k:Keeps K1 K2)(hp:t.P K2)(hf:∀y∈t.F,K1.n≤y):Upd A (t::B) K K2:=by
 refine⟨u.sep.add k hp hf,u.chg.trans (k.chg []) (by simp),fun y hy=>?_⟩
 obtain⟨x,hx,h1⟩:=mem_fp.1 hy
 rcases List.mem_cons.1 hx with rfl|hx
 ·have:=hf y h1;have:=u.chg.n;exact .inr (by omega)
 ·exact u.fr y (mem_fp.2 ⟨x,hx,h1⟩)
end Go.AM
namespace Go.AM.Fd
open Nat (reduceAdd reduceEqDiff reduceLT reduceLeDiff reduceMul reduceSub)
open Go.Proofs Go.AM.F
def recsW(D:Dk)(first:Nat):Nat→List (List UInt8)→List (List UInt8)
 |0,acc=>acc
 |n+1,acc=>if(recW (rdB D (atW D (first+acc.length)))).1 =first+acc.length then recsW D first n (acc++[(recW (rdB D (atW D (first+acc.length)))).2])else acc
def headsW(D:Dk):Nat×Nat:=if(headW (rdB D 0)).1 <(headW (rdB D 1)).1 then headW (rdB D 1)else headW (rdB D 0)
def zeroW(l:List UInt8):Bool:=l.all fun x=>x==0
def anyW(D:Dk)(next:Nat)(n:Nat):Bool:=(List.range n).any fun i=>decide (next<(recW (rdB D (2+i))).1)
def open2(D:Dk)(t f:Nat):Dk×Option Lg×Int:=if anyW D (f+(recsW D f (D.bl.length-2) []).length) (D.bl.length-2)=true then(D,none,151)else(D,some ⟨t,f,recsW D f (D.bl.length-2) [],0⟩,0)
def openW(D:Dk):Dk×Option Lg×Int:=if D.bl.length<3 then(D,none,2)else if D.off=true then(D,none,140)else
 if(headsW D).1 =0 then(if(zeroW (rdB D 0)&&zeroW (rdB D 1))=false then(D,none,151)else if(wlD D 1 (headB 1 1)).2 ≠0 then((wlD D 1 (headB 1 1)).1,none,(wlD D 1 (headB 1 1)).2)else open2 (wlD D 1 (headB 1 1)).1 1 1)
 else open2 D (headsW D).1 (headsW D).2
section
variable {K:AHeap} {lb b sb:Nat} {v rv:Value} {ab:Option Nat} {items:List (Value×List UInt8)} {D:Dk} {L:Lg}
theorem atW_ring(D:Dk){i:Nat}(h:i<D.bl.length-2):atW D (i+1)=2+i:=by
 unfold atW;rw[Nat.add_sub_cancel,Nat.mod_eq_of_lt h]
theorem t72(ho:D.off=false)(J:Nat→AHeap→Prop)(Jx:AHeap→Prop){yb:Nat}{X0:AHeap}(h0:J 0 X0)
 (hL:∀i X,J i X→LgR X lb b sb v ab rv items D L) (hk:∀i X X',J i X→Keeps X X'→J i X')
 (hn:∀i X,i<D.bl.length-2→J i X→(recW (rdB D (2+i))).1 =0→J (i+1) X)
 (hy:∀i X y,i<D.bl.length-2→J i X→isS y=true→(recW (rdB D (2+i))).1 ≠0→∃w X',AYield Go.Proofs.Tryz.prog 0 yb [.agg #[.int .i64 ((recW (rdB D (2+i))).1 :Nat),y]] X w X'∧((w=.bool true∧J (i+1) X')∨(w=.bool false∧Jx X'))):
 ∃w X',ARun Go.Proofs.Tryz.prog 0 72 [ptr lb 0,.chan (some yb)] X0 w X'∧(J (D.bl.length-2) X'∨Jx X'):=by
 refine walk2 f72_ok f72_n ?_
 intro Q hq1 hq2
 have n4:=(hL _ _ h0).ok.n
 simp(disch:=first|assumption|omega|(simp only[LN]<;>omega)|(simp(disch:=first|assumption|omega|(simp only[LN]<;>omega))only[row_alloc,row_set];assumption))only[f72,P3,↓reduceIte,reduceAdd,reduceEqDiff,reduceCtorEq,initFr,reduceLT,clsA,reduceLeDiff,reduceMul,reduceSub,reduceIte]
 refine callK (t29 (hL _ _ h0)) ?_
 rintro _ X ⟨rfl,hX⟩
 rw[hX]
 simp(disch:=first|assumption|omega|(simp only[LN]<;>omega)|(simp(disch:=first|assumption|omega|(simp only[LN]<;>omega))only[row_alloc,row_set];assumption))only[P3,↓reduceIte,reduceAdd,reduceEqDiff,reduceCtorEq,initFr,reduceLT,clsA,reduceLeDiff,reduceMul,reduceSub,reduceIte]
 rw[W_block]
 refine W_loop2 (fun k fr X=>∃i x2 x3 x4 x7 x8,fr=[ptr lb 0,.chan (some yb),x2,x3,x4,.int .i64 ((D.bl.length-2:Nat):Nat),.int .i64 (i:Nat),x7,x8]∧J i X∧i≤D.bl.length-2∧k=D.bl.length-2-i) (D.bl.length-2) ⟨0,_,_,_,_,_,rfl,h0,by omega,by omega⟩ ?_
 rintro Q' k fr X ⟨i,x2,x3,x4,x7,x8,rfl,hJ,hi,rfl⟩ hnx hx hret
 by_cases hlt:i<D.bl.length-2
 ·have d1:(i:Int)<((D.bl.length-2:Nat):Int):=by omega
  have hw:IntKind.i64.wrap ((i:Int)+1)=((i+1:Nat):Int):=by rw[wrap_i64 (by omega) (by omega)];simp
  simp(disch:=first|assumption|omega|(simp only[LN]<;>omega)|(simp(disch:=first|assumption|omega|(simp only[LN]<;>omega))only[row_alloc,row_set];assumption))only[W_block,P3,↓reduceIte,reduceAdd,reduceEqDiff,reduceCtorEq,initFr,reduceLT,clsA,reduceLeDiff,reduceMul,reduceSub,reduceIte,hw]
  refine callK (t71 (hL _ _ hJ) ho (i+1) (by omega) (by omega)) ?_
  rintro w K1 ⟨k1,hr⟩
  rw[atW_ring D hlt]at hr
  have hJ1:=hk _ _ _ hJ k1
  rcases hr with⟨c1,y,rfl,iy,by_,fy,ly⟩|⟨c1,rfl⟩
  ·have oy:=one_isS iy
   have oo:[Value.int .i64 ((recW (rdB D (2+i))).1 :Nat),y].all Value.oneCell'=true:=by simp only[List.all_cons,oy];rfl
   have kv:=(Keeps.refl K1).alloc (.cells true false 2 [.int .i64 ((recW (rdB D (2+i))).1 :Nat),y] 124)
   simp(disch:=first|assumption|omega|(simp only[LN]<;>omega)|(simp(disch:=first|assumption|omega|(simp only[LN]<;>omega))only[row_alloc,row_set];assumption))only[W_block,P3,↓reduceIte,reduceAdd,reduceEqDiff,reduceCtorEq,initFr,reduceLT,clsA,reduceLeDiff,reduceMul,reduceSub,reduceIte,oo]
   refine yieldK (hy i _ y hlt (hk _ _ _ hJ1 kv) iy c1) ?_
   rintro w X' (⟨rfl,h⟩|⟨rfl,h⟩)
   ·simp(disch:=first|assumption|omega|(simp only[LN]<;>omega)|(simp(disch:=first|assumption|omega|(simp only[LN]<;>omega))only[row_alloc,row_set];assumption))only[W_block,P3,↓reduceIte,reduceAdd,reduceEqDiff,reduceCtorEq,initFr,reduceLT,clsA,reduceLeDiff,reduceMul,reduceSub,reduceIte,hw]
    exact hnx _ _ _ ⟨i+1,_,_,_,_,_,rfl,h,by omega,rfl⟩ (by omega)
   ·simp(disch:=first|assumption|omega|(simp only[LN]<;>omega)|(simp(disch:=first|assumption|omega|(simp only[LN]<;>omega))only[row_alloc,row_set];assumption))only[W_block,P3,↓reduceIte,reduceAdd,reduceEqDiff,reduceCtorEq,initFr,reduceLT,clsA,reduceLeDiff,reduceMul,reduceSub,reduceIte]
    exact hret _ _ (hq2 _ _ ⟨_,rfl,.inr h⟩)
  ·have kv:=(Keeps.refl K1).alloc (.cells true false 2 [.int .i64 0,.slice none 0 0] 124)
   simp(disch:=first|assumption|omega|(simp only[LN]<;>omega)|(simp(disch:=first|assumption|omega|(simp only[LN]<;>omega))only[row_alloc,row_set];assumption))only[W_block,P3,↓reduceIte,reduceAdd,reduceEqDiff,reduceCtorEq,initFr,reduceLT,clsA,reduceLeDiff,reduceMul,reduceSub,reduceIte,hw]
   exact hnx _ _ _ ⟨i+1,_,_,_,_,_,rfl,hn i _ hlt (hk _ _ _ hJ1 kv) c1,by omega,rfl⟩ (by omega)
 ·have d1:¬(i:Int)<((D.bl.length-2:Nat):Int):=by omega
  have e:i=D.bl.length-2:=by omega
  subst e
  simp(disch:=first|assumption|omega|(simp only[LN]<;>omega)|(simp(disch:=first|assumption|omega|(simp only[LN]<;>omega))only[row_alloc,row_set];assumption))only[W_block,P3,↓reduceIte,reduceAdd,reduceEqDiff,reduceCtorEq,initFr,reduceLT,clsA,reduceLeDiff,reduceMul,reduceSub,reduceIte]
  refine hx 0 _ _ ?_
  exact hq1 _ _ ⟨_,rfl,.inl hJ⟩
end
end Go.AM.Fd

set_option linter.unusedSimpArgs false
set_option linter.unusedVariables false
namespace Go.AM.Fd
open Nat (reduceAdd reduceEqDiff reduceLT reduceLeDiff reduceMul reduceSub)
open Go.Proofs Go.AM.F
def voT(n:Nat)(p e:Value):List Th:=[thB n (.cells true false 1 [p] 29),thB (n+1) (.cells true false 1 [e] 30),thB (n+3) (.cells true false 1 [ptr (n+2) 0] 29)]
structure OS (A:List Th) (K X:AHeap) (b sb:Nat) (v:Value) (ab:Option Nat) (rv:Value) (items:List (Value×List UInt8)) (D:Dk) (L:Lg):Prop where
 u:Upd A (voT K.n (.pointer none) (.int .i64 0)++(lgT (K.n+2) b rv items L++dkT b sb v ab D)) K X
 ok:D.ok
 n3:3≤D.bl.length
 it:items.map (·.2)=L.rs
def OpenR(A:List Th)(K H:AHeap)(b sb:Nat)(res:Dk×Option Lg×Int)(w:Value):Prop:=match res.2.1 with
 |none=>w=.tuple #[.pointer none,.int .i64 res.2.2]∧res.1.ok∧∃v' ab',Upd A (dkT b sb v' ab' res.1) K H
 |some L=>∃lb v' ab' rv items,w=.tuple #[ptr lb 0,.int .i64 0]∧K.n≤lb∧LgR H lb b sb v' ab' rv items res.1 L∧Upd A (lgT lb b rv items L++dkT b sb v' ab' res.1) K H
section
variable {A:List Th} {K X:AHeap} {b sb:Nat} {v rv:Value} {ab:Option Nat} {items:List (Value×List UInt8)} {D:Dk} {L:Lg}
theorem OS.g0(h:OS A K X b sb v ab rv items D L):X.get K.n=some (.cells true false 1 [.pointer none] 29):=h.u.sep.get 0 rfl
theorem OS.g1(h:OS A K X b sb v ab rv items D L):X.get (K.n+1)=some (.cells true false 1 [.int .i64 0] 30):=h.u.sep.get 1 rfl
theorem OS.g3(h:OS A K X b sb v ab rv items D L):X.get (K.n+3)=some (.cells true false 1 [ptr (K.n+2) 0] 29):=h.u.sep.get 2 rfl
theorem OS.gl(h:OS A K X b sb v ab rv items D L):X.get (K.n+2)=some (.cells true false 5 [ptr b 0,.int .i64 (L.turn:Nat),.int .i64 (L.first:Nat),rv,.int .i64 L.br] 116):=h.u.sep.get 3 rfl
theorem OS.d(h:OS A K X b sb v ab rv items D L):DkR X b sb v ab D:=⟨h.u.sep.right.right,h.ok⟩
theorem OS.lg(h:OS A K X b sb v ab rv items D L)(lok:L.ok):LgR X (K.n+2) b sb v ab rv items D L:=⟨h.u.sep.right,h.ok,h.n3,h.it,lok⟩
theorem OS.keeps{Y:AHeap}(h:OS A K X b sb v ab rv items D L)(k:Keeps X Y):OS A K Y b sb v ab rv items D L:=⟨h.u.keeps' k,h.ok,h.n3,h.it⟩
theorem OS.fail(h:OS A K X b sb v ab rv items D L){Y:AHeap}(c:Chg [K.n,K.n+1] X Y):Upd A (dkT b sb v ab D) K Y:=by
 have u1:=(h.u.dropL).dropL
 refine⟨u1.sep.chg c fun y hy hy2=>?_,h.u.chg.trans c fun x hx=>?_,u1.fr⟩
 ·simp only[List.mem_cons,List.not_mem_nil,or_false]at hy2
  refine h.u.sep.cross (A:=voT K.n (.pointer none) (.int .i64 0)) (y:=y) ?_ (by rw[fp_app];exact List.mem_append_right _ hy)
  rcases hy2 with rfl|rfl
  ·exact mem_fp.2 ⟨thB K.n (.cells true false 1 [.pointer none] 29),by simp[voT],by simp[thB]⟩
  ·exact mem_fp.2 ⟨thB (K.n+1) (.cells true false 1 [.int .i64 0] 30),by simp[voT],by simp[thB]⟩
 ·simp only[List.mem_cons,List.not_mem_nil,or_false]at hx
  exact .inr (by omega)
theorem OS.done(h:OS A K X b sb v ab rv items D L){Y:AHeap}(c:Chg [K.n,K.n+1] X Y)(lok:L.ok):LgR Y (K.n+2) b sb v ab rv items D L∧Upd A (lgT (K.n+2) b rv items L++dkT b sb v ab D) K Y:=by
 have u1:=h.u.dropL
 have s:Sep Y (lgT (K.n+2) b rv items L++dkT b sb v ab D):=u1.sep.chg c fun y hy hy2=>by
  simp only[List.mem_cons,List.not_mem_nil,or_false]at hy2
  refine h.u.sep.cross (A:=voT K.n (.pointer none) (.int .i64 0)) (y:=y) ?_ hy
  rcases hy2 with rfl|rfl
  ·exact mem_fp.2 ⟨thB K.n (.cells true false 1 [.pointer none] 29),by simp[voT],by simp[thB]⟩
  ·exact mem_fp.2 ⟨thB (K.n+1) (.cells true false 1 [.int .i64 0] 30),by simp[voT],by simp[thB]⟩
 refine⟨⟨s,h.ok,h.n3,h.it,lok⟩,⟨s,h.u.chg.trans c fun x hx=>?_,u1.fr⟩⟩
 simp only[List.mem_cons,List.not_mem_nil,or_false]at hx
 exact .inr (by omega)
theorem resW{H:AHeap}{fr:List Value}{n e1 e2:Nat}{p e:Value}(h1:fr.getD 1 undef=ptr n 0)(h2:fr.getD 2 undef=ptr (n+1) 0)(g1:H.get n=some (.cells true false 1 [p] e1))(g2:H.get (n+1)=some (.cells true false 1 [e] e2)):
 resO [.c1 1,.c1 2] fr H=some (.tuple #[p,e]):=by
 simp only[resO,resVs,RX.get,h1,h2,cell1p,cellA_e,g1,g2,cellO_c,List.getElem?_cons_zero]
 rfl
structure RJ (K X:AHeap) (L:LRec):Prop where
 n:K.n<X.n
 keep:∀y,y<K.n→X.get y=K.get y
 rec_:X.get K.n=some (.loop true .ready none L)
theorem RJ.kp{K X:AHeap}{L:LRec}(h:RJ K X L):Keeps K X:=⟨Nat.le_of_lt h.n,h.keep⟩
set_option maxRecDepth 20000 in
theorem openRing{Q:AQ}{x4 x5 x6 x7 x8 x9 x10 x11 x12 x13 x14 x15 x16 x17 x18 x19 x20 x21 x22 x23 x24 x25 x26 x27 x28:Value}(h:OS A K X b sb v ab rv items D L)(lok:L.ok)(ho:D.off=false)
 (hq2:∀fr H2,(∃w,resO f13.res fr H2=some w∧OpenR A K H2 b sb (if anyW D L.next (D.bl.length-2)=true then(D,none,151)else(D,some L,0)) w)→Q .ret fr H2):
 W Go.Proofs.Tryz.prog 0 (cpost 7 f13.body) Q [ptr b 0,ptr K.n 0,ptr (K.n+1) 0,ptr (K.n+3) 0,x4,x5,x6,x7,x8,x9,x10,x11,x12,x13,x14,x15,x16,x17,x18,x19,x20,x21,x22,x23,x24,x25,x26,x27,x28] X:=by
 have g3:=h.g3
 simp(disch:=first|assumption|omega|(simp only[LN]<;>omega)|(simp(disch:=first|assumption|omega|(simp only[LN]<;>omega))only[row_alloc,row_set];assumption))only[f13,P3,↓reduceIte,reduceAdd,reduceEqDiff,reduceCtorEq,initFr,reduceLT,clsA,reduceLeDiff,reduceMul,reduceSub,reduceIte,cpost,g3]
 rw[W_block]
 refine W_rangeF rfl (bodied_of (by kernel_rfl)) ?_
 obtain⟨L0,hL0⟩:∃R:LRec,R=⟨133,[0,2,3,4,5,6,7,9,10,11,12,13,14,15,18,22,28,29,62,80,82,89,93,94,95,111,125,126,131],[ptr b 0,ptr K.n 0,ptr (K.n+1) 0,ptr (K.n+3) 0,x4,x5,x6,x7,x8,x9,x10,x11,x12,x13,x14,x15,x16,x17,x18,x19,x20,x21,x22,x23,x24,x25,.func (.func 72) #[ptr (K.n+2) 0] #[],x27,x28],#[126],rfA Go.Proofs.Tryz.prog 13 0,rfB Go.Proofs.Tryz.prog 13 0⟩:=⟨_,rfl⟩
 rw[←hL0]
 have kL:=(Keeps.refl X).alloc (.loop true .ready none L0)
 have l0:=AHeap.get_lt h.g0
 have l1:=AHeap.get_lt h.g1
 have l3:=AHeap.get_lt h.g3
 have any_no:∀{n:Nat},(∀j,j<n→¬L.next<(recW (rdB D (2+j))).1)→anyW D L.next n=false:=fun{n} hh=>by
  unfold anyW
  rw[List.any_eq_false]
  intro j hj
  simp only[List.mem_range]at hj
  simpa using Nat.le_of_not_lt (hh j hj)
 have tR:=t72 (lb:=K.n+2) (b:=b) (sb:=sb) (v:=v) (ab:=ab) (rv:=rv) (items:=items) (D:=D) (L:=L) ho
  (fun i Y=>RJ X Y L0∧∀j,j<i→¬L.next<(recW (rdB D (2+j))).1)
  (fun Y=>X.n<Y.n∧(∀y,y<X.n→y≠K.n→y≠K.n+1→Y.get y=X.get y)∧Y.get K.n=some (.cells true false 1 [.pointer none] 29)∧Y.get (K.n+1)=some (.cells true false 1 [.int .i64 151] 30)∧Y.get X.n=some (.loop true .done (some .ret) L0)∧anyW D L.next (D.bl.length-2)=true)
  (yb:=X.n) (X0:=X.alloc (.loop true .ready none L0)) ⟨⟨by simp[alloc_n],fun y hy=>kL.get y hy,AHeap.get_alloc_new X _⟩,fun j hj=>absurd hj (Nat.not_lt_zero j)⟩
  (fun i Y hJ=>(h.keeps hJ.1.kp).lg lok)
  (fun i Y Y' hJ k=>⟨⟨Nat.lt_of_lt_of_le hJ.1.n k.n,fun y hy=>by rw[k.get y (by have:=hJ.1.n;omega)];exact hJ.1.keep y hy,k.at_ hJ.1.rec_⟩,hJ.2⟩)
  (fun i Y hi hJ hr=>⟨hJ.1,fun j hj=>by
   by_cases hji:j=i
   ·subst hji;rw[hr];omega
   ·exact hJ.2 j (by omega)⟩) ?_
 ·obtain⟨w,Y,r,hJ⟩:=tR
  refine⟨w,Y,r,?_⟩
  rcases hJ with⟨hJ,hno⟩|⟨hn,hkeep,g0,g1,hrec,hany⟩
  ·have hrl:=AHeap.get_lt hJ.rec_
   refine afterR_ready hJ.rec_ ?_
   have hY:=h.keeps hJ.kp
   have hd:∀y,y<X.n→(Y.set X.n .dead).get y=X.get y:=fun y hy=>by
    rw[AHeap.get_set_other Y (by omega) hrl]
    exact hJ.keep y hy
   have q0:(Y.set X.n .dead).get K.n=_:=(hd _ l0).trans h.g0
   have q1:(Y.set X.n .dead).get (K.n+1)=_:=(hd _ l1).trans h.g1
   have q3:(Y.set X.n .dead).get (K.n+3)=_:=(hd _ l3).trans h.g3
   have nd:X.n<(Y.set X.n .dead).n:=by rw[set_n];exact hrl
   have cd:Chg [K.n,K.n+1] X (Y.set X.n .dead):=⟨by rw[set_n];have:=hJ.n;omega,fun y hy _=>hd y hy⟩
   generalize Y.set X.n .dead=Z at*
   have ra:=any_no hno
   rw[if_neg (by rw[ra];simp)]at hq2
   simp(disch:=first|assumption|omega|(simp only[LN]<;>omega)|(simp(disch:=first|assumption|omega|(simp only[LN]<;>omega))only[row_alloc,row_set];assumption))only[W_block,P3,↓reduceIte,reduceAdd,reduceEqDiff,reduceCtorEq,initFr,reduceLT,clsA,reduceLeDiff,reduceMul,reduceSub,reduceIte,q0,q1,q3]
   have lz0:=AHeap.get_lt q0
   have lz1:=AHeap.get_lt q1
   have p0:((Z.set K.n (.cells true false 1 [ptr (K.n+2) 0] 29)).set (K.n+1) (.cells true false 1 [.int .i64 0] 30)).get K.n=some (.cells true false 1 [ptr (K.n+2) 0] 29):=by
    rw[AHeap.get_set_other _ (by omega) (by rw[set_n];exact lz1)]
    exact AHeap.get_set_same q0 _
   have p1:((Z.set K.n (.cells true false 1 [ptr (K.n+2) 0] 29)).set (K.n+1) (.cells true false 1 [.int .i64 0] 30)).get (K.n+1)=some (.cells true false 1 [.int .i64 0] 30):=by
    refine AHeap.get_set_same (o:=.cells true false 1 [.int .i64 0] 30) ?_ _
    rw[AHeap.get_set_other _ (by omega) lz0];exact q1
   have cz:=(cd.trans (Chg.set Z lz0 (.cells true false 1 [ptr (K.n+2) 0] 29)) (by simp)).trans (Chg.set _ (by rw[set_n];exact lz1) (.cells true false 1 [.int .i64 0] 30)) (by simp)
   obtain⟨f1,f2⟩:=h.done cz lok
   exact hq2 _ _ ⟨_,resW rfl rfl p0 p1,K.n+2,v,ab,rv,items,rfl,by omega,f1,f2⟩
  ·have hrl:=AHeap.get_lt hrec
   refine afterR_ret hrec ?_
   rw[if_pos hany]at hq2
   have l0':=AHeap.get_lt g0
   have l1':=AHeap.get_lt g1
   have q0:(Y.set X.n .dead).get K.n=some (.cells true false 1 [.pointer none] 29):=by rw[AHeap.get_set_other Y (by omega) hrl];exact g0
   have q1:(Y.set X.n .dead).get (K.n+1)=some (.cells true false 1 [.int .i64 151] 30):=by rw[AHeap.get_set_other Y (by omega) hrl];exact g1
   have cd:Chg [K.n,K.n+1] X (Y.set X.n .dead):=⟨by rw[set_n];omega,fun y hy hy2=>by
    simp only[List.mem_cons,List.not_mem_nil,or_false,not_or]at hy2
    rw[AHeap.get_set_other Y (by omega) hrl]
    exact hkeep y hy hy2.1 hy2.2⟩
   exact hq2 _ _ ⟨_,resW rfl rfl q0 q1,rfl,h.ok,v,ab,h.fail cd⟩
 ·intro i Y y hi hJ iy hr
  obtain⟨hJ,hno⟩:=hJ
  have oy:=one_isS iy
  have oo:[Value.int .i64 ((recW (rdB D (2+i))).1 :Nat),y].all Value.oneCell'=true:=by simp only[List.all_cons,oy];rfl
  rw[hL0]at hJ ⊢
  refine yield_of (R:=fun w Y'=>(w=.bool true∧RJ X Y' _∧∀j,j<i+1→¬L.next<(recW (rdB D (2+j))).1)∨(w=.bool false∧X.n<Y'.n∧(∀y,y<X.n→y≠K.n→y≠K.n+1→Y'.get y=X.get y)∧Y'.get K.n=some (.cells true false 1 [.pointer none] 29)∧Y'.get (K.n+1)=some (.cells true false 1 [.int .i64 151] 30)∧Y'.get X.n=some (.loop true .done (some .ret) _)∧anyW D L.next (D.bl.length-2)=true)) hJ.rec_ f13r0a_ok f13r0b_ok f13r0_n (by kernel_rfl) rfl ?_
  show W Go.Proofs.Tryz.prog 0 f13r0a _ [ptr b 0,ptr K.n 0,ptr (K.n+1) 0,ptr (K.n+3) 0,x4,x5,x6,x7,x8,x9,x10,x11,x12,x13,x14,x15,x16,x17,x18,x19,x20,x21,x22,x23,x24,x25,.func (.func 72) #[ptr (K.n+2) 0] #[],.agg #[.int .i64 ((recW (rdB D (2+i))).1 :Nat),y],x28] Y
  rw[←hL0]at hJ ⊢
  simp(disch:=first|assumption|omega|(simp only[LN]<;>omega)|(simp(disch:=first|assumption|omega|(simp only[LN]<;>omega))only[row_alloc,row_set];assumption))only[f13r0a,W_block,P3,↓reduceIte,reduceAdd,reduceEqDiff,reduceCtorEq,initFr,reduceLT,clsA,reduceLeDiff,reduceMul,reduceSub,reduceIte,oo]
  have hXn:=hJ.n
  have hrl:=AHeap.get_lt hJ.rec_
  refine⟨none,L0,by rw[AHeap.get_alloc_old _ _ hrl];exact hJ.rec_,?_⟩
  obtain⟨Z,hZ⟩:∃Z,Z=(Y.alloc (.cells true false 2 [.int .i64 ((recW (rdB D (2+i))).1 :Nat),y] 124)).set X.n (.loop true .busy none L0):=⟨_,rfl⟩
  have nZ:Z.n=Y.n+1:=by rw[hZ];rfl
  have hrl1:X.n<(Y.alloc (.cells true false 2 [.int .i64 ((recW (rdB D (2+i))).1 :Nat),y] 124)).n:=by rw[alloc_n];omega
  have oth:∀z,z<Y.n→z≠X.n→Z.get z=Y.get z:=fun z hz hz2=>by rw[hZ,AHeap.get_set_other _ hz2 hrl1,AHeap.get_alloc_old _ _ hz]
  have gw:Z.get Y.n=some (.cells true false 2 [.int .i64 ((recW (rdB D (2+i))).1 :Nat),y] 124):=by rw[hZ,AHeap.get_set_other _ (by omega) hrl1];exact AHeap.get_alloc_new Y _
  have gr:Z.get X.n=some (.loop true .busy none L0):=by rw[hZ];exact AHeap.get_set_same (by rw[AHeap.get_alloc_old _ _ hrl];exact hJ.rec_) _
  have kXZ:Keeps X Z:=⟨by omega,fun z hz=>by rw[oth _ (by omega) (by omega)];exact hJ.keep z hz⟩
  have hZs:=h.keeps kXZ
  have z3:=hZs.g3
  have z0:=hZs.g0
  have z1:=hZs.g1
  have lz0:=AHeap.get_lt z0
  have lz1:=AHeap.get_lt z1
  rw[←hZ]
  simp(disch:=first|assumption|omega|(simp only[LN]<;>omega)|(simp(disch:=first|assumption|omega|(simp only[LN]<;>omega))only[row_alloc,row_set];assumption))only[f13r0b,P3,↓reduceIte,reduceAdd,reduceEqDiff,reduceCtorEq,initFr,reduceLT,clsA,reduceLeDiff,reduceMul,reduceSub,reduceIte,gw,z3]
  rw[W_block]
  simp(disch:=first|assumption|omega|(simp only[LN]<;>omega)|(simp(disch:=first|assumption|omega|(simp only[LN]<;>omega))only[row_alloc,row_set];assumption))only[P3,↓reduceIte,reduceAdd,reduceEqDiff,reduceCtorEq,initFr,reduceLT,clsA,reduceLeDiff,reduceMul,reduceSub,reduceIte,gw,z3]
  refine callK (t28 (hZs.lg lok)) ?_
  rintro _ X' ⟨rfl,hX'⟩
  rw[hX']
  by_cases hlt:L.next<(recW (rdB D (2+i))).1
  ·have d1:((L.next:Nat):Int)<(((recW (rdB D (2+i))).1 :Nat):Int):=by omega
   simp(disch:=first|assumption|omega|(simp only[LN]<;>omega)|(simp(disch:=first|assumption|omega|(simp only[LN]<;>omega))only[row_alloc,row_set];assumption))only[W_block,P3,↓reduceIte,reduceAdd,reduceEqDiff,reduceCtorEq,initFr,reduceLT,clsA,reduceLeDiff,reduceMul,reduceSub,reduceIte,z0,z1]
   refine⟨by simp,?_⟩
   obtain⟨M,hM⟩:∃M,M=(Z.set K.n (.cells true false 1 [.pointer none] 29)).set (K.n+1) (.cells true false 1 [.int .i64 151] 30):=⟨_,rfl⟩
   have nM:M.n=Z.n:=by rw[hM];rfl
   have oM:∀z,z≠K.n→z≠K.n+1→M.get z=Z.get z:=fun z h1 h2=>by
    rw[hM,AHeap.get_set_other _ h2 (by rw[set_n];exact lz1),AHeap.get_set_other _ h1 lz0]
   have m0:M.get K.n=some (.cells true false 1 [.pointer none] 29):=by
    rw[hM,AHeap.get_set_other _ (by omega) (by rw[set_n];exact lz1)]
    exact AHeap.get_set_same z0 _
   have m1:M.get (K.n+1)=some (.cells true false 1 [.int .i64 151] 30):=by
    rw[hM]
    refine AHeap.get_set_same (o:=.cells true false 1 [.int .i64 0] 30) ?_ _
    rw[AHeap.get_set_other _ (by omega) lz0];exact z1
   have mr:M.get X.n=some (.loop true .busy none L0):=by rw[oM _ (by omega) (by omega)];exact gr
   rw[←hM]
   unfold roundQ
   rw[mr]
   have lmr:=AHeap.get_lt mr
   refine .inr ⟨rfl,by rw[set_n];omega,fun z hz h1 h2=>?_,?_,?_,AHeap.get_set_same mr _,?_⟩
   ·rw[AHeap.get_set_other _ (by omega) lmr,oM _ h1 h2]
    exact kXZ.get z hz
   ·rw[AHeap.get_set_other _ (by omega) lmr];exact m0
   ·rw[AHeap.get_set_other _ (by omega) lmr];exact m1
   ·unfold anyW
    rw[List.any_eq_true]
    exact⟨i,by simpa using hi,by simpa using hlt⟩
  ·have d1:¬((L.next:Nat):Int)<(((recW (rdB D (2+i))).1 :Nat):Int):=by omega
   simp(disch:=first|assumption|omega|(simp only[LN]<;>omega)|(simp(disch:=first|assumption|omega|(simp only[LN]<;>omega))only[row_alloc,row_set];assumption))only[W_block,P3,↓reduceIte,reduceAdd,reduceEqDiff,reduceCtorEq,initFr,reduceLT,clsA,reduceLeDiff,reduceMul,reduceSub,reduceIte]
   refine⟨by simp,?_⟩
   unfold roundQ
   rw[gr]
   have lmr:=AHeap.get_lt gr
   refine .inl ⟨rfl,⟨by rw[set_n];omega,fun z hz=>?_,AHeap.get_set_same gr _⟩,fun j hj=>?_⟩
   ·rw[AHeap.get_set_other _ (by omega) lmr]
    exact kXZ.get z hz
   ·by_cases hji:j=i
    ·subst hji;exact hlt
    ·exact hno j (by omega)
end
end Go.AM.Fd

set_option linter.unusedSimpArgs false
set_option linter.unusedVariables false
namespace Go.AM
open Nat (reduceAdd reduceEqDiff reduceLT reduceLeDiff reduceMul reduceSub)
theorem WO.appO{P:Program}{ng:Nat}{H:AHeap}{KF:List Value→AHeap→Prop}{fr tm:List Value}{tr:List TE}{e esz:Nat}{v:Value}{n:Nat}{c:List Value}{d:D}{un:List Nat}{r:List (AOper×List Nat)}{bytes:Nat}{x:Value}{m:Nat}{news:List Value}(h:WO H e esz v n c)(hx:∃a k,x=.slice a m k)(h1:elemsA H esz x=some news)(hm:news.length=m*esz)
 (hs:(n+m)*bytes≤140737488355328∧n+m≤140737488355328)
 (hk:∀v' H',WO H' e esz v' (n+m) (c++news)→Chg (blkL v) H H'→(blk v'=blk v∨blk v'=some H.n)→oblA 3 [] H H' tr un∧RD P ng r (d.frame v' fr) (d.temps v' tm) H' (tr++[⟨3,[],H,H'⟩]) KF):goD P ng (.app e esz bytes v x) (asem (.app e esz bytes v x) H) d un r fr tm H tr KF:=by
 obtain⟨v',H',e1,e2,e3,e4⟩:=h.app (bytes:=bytes) hm hs
 obtain⟨a,k,rfl⟩:=hx
 obtain⟨q1,q2⟩:=hk v' H' e2 e3 e4
 exact⟨v',H',by simp only[asem,h1];exact e1,q1,q2⟩
end Go.AM
namespace Go.AM.Fd
open Nat (reduceAdd reduceEqDiff reduceLT reduceLeDiff reduceMul reduceSub)
open Go.Proofs Go.AM.F
section
variable {A:List Th} {K X:AHeap} {b sb:Nat} {v rv:Value} {ab:Option Nat} {items:List (Value×List UInt8)} {D:Dk} {t f:Nat} {rs:List (List UInt8)}
theorem OS.lt{L:Lg}(h:OS A K X b sb v ab rv items D L){th:Th}(hth:th∈voT K.n (.pointer none) (.int .i64 0)++(lgT (K.n+2) b rv items L++dkT b sb v ab D)){z:Nat}(hz:z∈th.F):z<X.n:=h.u.sep.lt (mem_fp.2 ⟨th,hth,hz⟩)
theorem OS.add(h:OS A K X b sb v ab rv items D ⟨t,f,rs,0⟩){y:Value}{l:List UInt8}{X1 X2:AHeap}{rv':Value}(k1:Keeps X X1)(hy:BS X1 y l)(hlt:∀z∈blkL y,X.n≤z∧z<X1.n){X3:AHeap}(k3:Keeps X1 X3)
 (c:Chg (blkL rv) X3 X2) (hwo:WO X2 38 1 rv' (items.length+1) (items.map (·.1)++[y])) (hbl:blk rv'=blk rv∨∃q,blk rv'=some q∧X1.n≤q):
 OS A K (X2.set (K.n+2) (.cells true false 5 (lgC b rv' ⟨t,f,rs++[l],0⟩) 116)) b sb v ab rv' (items++[(y,l)]) D ⟨t,f,rs++[l],0⟩:=by
 have h1:=h.u.keeps' (k1.trans k3)
 have hn:=k1.n
 have hn3:=k3.n
 have hKX:=h.u.chg.n
 have inr:∀z∈blkL rv,z<X.n:=fun z hz=>h.lt (th:=thO 38 1 rv items.length (items.map (·.1))) (by simp[lgT]) hz
 have s1:=Upd.next (l:=[_,_,_,_]) (t':=thO 38 1 rv' (items.length+1) (items.map (·.1)++[y])) h1 c hwo (fun z hz=>by
  rcases hbl with h5|⟨q,h5,h6⟩
  ·exact .inl (by show z∈blkL rv;rw[mem_blkL,←h5];exact mem_blkL.1 hz)
  ·have:z=q:=by have:=mem_blkL.1 hz;rw[h5]at this;cases this;rfl
   subst this
   refine .inr (.inr ⟨by omega,fun x hx hx2=>?_⟩)
   have:z<X.n:=h.lt (th:=x) (by
    simp only[voT,lgT,List.cons_append,List.nil_append,List.mem_cons]at hx ⊢
    rcases hx with hx|hx|hx|hx|hx
    ·exact .inl hx
    ·exact .inr (.inl hx)
    ·exact .inr (.inr (.inl hx))
    ·exact .inr (.inr (.inr (.inl hx)))
    ·exact .inr (.inr (.inr (.inr (.inr (List.mem_cons.1 hx)))))) hx2
   omega)
 have s2:=Upd.next (l:=[_,_,_,_,_]) (t':=thI (items++[(y,l)])) s1 (Chg.refl _ X2) (by
  intro z hz
  rcases List.mem_append.1 hz with hz|hz
  ·exact(s1.sep.get 5 rfl:(thI items).P X2) z hz
  ·simp only[List.mem_singleton]at hz
   subst hz
   refine⟨(hy.keeps k3).chg c fun q hq hq2=>?_,fun q hq=>?_⟩
   ·have:=hlt q hq;have:=inr q hq2;omega
   ·have:=hlt q hq;have:=c.n;omega) (fun z hz=>by
  simp only[thI,List.flatMap_append,List.mem_append]at hz
  rcases hz with hz|hz
  ·exact .inl hz
  ·have hzy:z∈blkL y:=by simpa using hz
   have h7:=hlt z hzy
   refine .inr (.inr ⟨by omega,fun x hx hx2=>?_⟩)
   simp only[List.cons_append,List.nil_append,List.mem_cons]at hx
   by_cases he:x=thO 38 1 rv' (items.length+1) (items.map (·.1)++[y])
   ·subst he
    have hx3:z∈blkL rv':=hx2
    rcases hbl with h5|⟨q,h5,h6⟩
    ·have:=inr z (by rw[mem_blkL,←h5];exact mem_blkL.1 hx3);omega
    ·have:z=q:=by have:=mem_blkL.1 hx3;rw[h5]at this;cases this;rfl
     omega
   ·have:z<X.n:=h.lt (th:=x) (by
     simp only[voT,lgT,List.cons_append,List.nil_append,List.mem_cons]at hx ⊢
     rcases hx with hx|hx|hx|hx|hx|hx
     ·exact .inl hx
     ·exact .inr (.inl hx)
     ·exact .inr (.inr (.inl hx))
     ·exact .inr (.inr (.inr (.inl hx)))
     ·exact absurd hx he
     ·exact .inr (.inr (.inr (.inr (.inr (.inr hx)))))) hx2
    omega)
 have g:=s2.sep.get 3 rfl
 have s3:=Upd.next (l:=[_,_,_]) (t':=thB (K.n+2) (.cells true false 5 (lgC b rv' ⟨t,f,rs++[l],0⟩) 116)) s2 (Chg.set X2 (AHeap.get_lt g) _) (AHeap.get_set_same g _) (by simp[thB])
 refine⟨?_,h.ok,h.n3,by rw[List.map_append,h.it];rfl⟩
 simp only[lgT,List.length_append,List.length_cons,List.length_nil,List.map_append,List.map_cons,List.map_nil]
 exact s3
theorem recsW_s(D:Dk)(f n:Nat)(acc:List (List UInt8)):recsW D f (n+1) acc=if(recW (rdB D (atW D (f+acc.length)))).1 =f+acc.length then recsW D f n (acc++[(recW (rdB D (atW D (f+acc.length)))).2])else acc:=rfl
theorem recsW_0(D:Dk)(f:Nat)(acc:List (List UInt8)):recsW D f 0 acc=acc:=rfl
theorem recsW_len(D:Dk)(f:Nat):∀n acc,(recsW D f n acc).length≤n+acc.length
 |0,acc=>by simp[recsW]
 |n+1,acc=>by
  unfold recsW
  split
  ·have:=recsW_len D f n (acc++[(recW (rdB D (atW D (f+acc.length)))).2]);simp at this;omega
  ·omega
set_option maxRecDepth 20000 in
theorem openRecs{Q:AQ}{x4 x5 x6 x7 x8 x9 x10 x11 x12 x13 x14 x15 x16 x17 x18 x19 x20 x21 x22 x23 x24 x25 x26 x27 x28:Value}(h:OS A K X b sb v ab rv [] D ⟨t,f,[],0⟩)(ht:t≤9000000000000000000)(hf:1≤f∧f≤9000000000000000000)(ho:D.off=false)
 (hq2:∀fr H2,(∃w,resO f13.res fr H2=some w∧OpenR A K H2 b sb (open2 D t f) w)→Q .ret fr H2):
 W Go.Proofs.Tryz.prog 0 (cpost 6 f13.body) Q [ptr b 0,ptr K.n 0,ptr (K.n+1) 0,ptr (K.n+3) 0,x4,x5,x6,x7,x8,x9,x10,x11,x12,x13,x14,x15,x16,x17,x18,x19,x20,x21,x22,x23,x24,x25,x26,x27,x28] X:=by
 have n4:=h.ok.n
 have n3:=h.n3
 have hlok:∀rs:List (List UInt8),rs.length≤D.bl.length-2→(∀s∈rs,s.length≤232)→(⟨t,f,rs,0⟩:Lg).ok:=fun rs h1 h2=>⟨ht,hf,by show rs.length≤_;omega,h2⟩
 refine W_part 1 (fun fr Y=>∃y22 y23 y24 y25 y10 y11 rv' items',fr=[ptr b 0,ptr K.n 0,ptr (K.n+1) 0,ptr (K.n+3) 0,x4,x5,x6,x7,x8,x9,y10,y11,x12,x13,x14,x15,x16,x17,x18,x19,x20,x21,y22,y23,y24,y25,x26,x27,x28]∧OS A K Y b sb v ab rv' items' D ⟨t,f,recsW D f (D.bl.length-2) [],0⟩∧(⟨t,f,recsW D f (D.bl.length-2) [],0⟩:Lg).ok) (by kernel_rfl) ?_ ?_
 ·intro Q' hk hex hret
  have g3:=h.g3
  simp(disch:=first|assumption|omega|(simp only[LN]<;>omega)|(simp(disch:=first|assumption|omega|(simp only[LN]<;>omega))only[row_alloc,row_set];assumption))only[f13,P3,↓reduceIte,reduceAdd,reduceEqDiff,reduceCtorEq,initFr,reduceLT,clsA,reduceLeDiff,reduceMul,reduceSub,reduceIte,cpre,cpost,g3]
  refine callK (t29 (h.lg (hlok [] (by simp) (by simp)))) ?_
  rintro _ X0 ⟨rfl,hX⟩
  rw[hX]
  simp(disch:=first|assumption|omega|(simp only[LN]<;>omega)|(simp(disch:=first|assumption|omega|(simp only[LN]<;>omega))only[row_alloc,row_set];assumption))only[P3,↓reduceIte,reduceAdd,reduceEqDiff,reduceCtorEq,initFr,reduceLT,clsA,reduceLeDiff,reduceMul,reduceSub,reduceIte]
  rw[W_block]
  refine W_loop2 (fun k fr Y=>∃i y24 y25 y10 y11 rv' items' rs',fr=[ptr b 0,ptr K.n 0,ptr (K.n+1) 0,ptr (K.n+3) 0,x4,x5,x6,x7,x8,x9,y10,y11,x12,x13,x14,x15,x16,x17,x18,x19,x20,x21,.int .i64 ((D.bl.length-2:Nat):Nat),.int .i64 (i:Nat),y24,y25,x26,x27,x28]∧OS A K Y b sb v ab rv' items' D ⟨t,f,rs',0⟩∧rs'.length=i∧(∀s∈rs',s.length≤232)∧i≤D.bl.length-2∧k=D.bl.length-2-i∧recsW D f (D.bl.length-2) []=recsW D f (D.bl.length-2-i) rs') (D.bl.length-2) ⟨0,_,_,_,_,_,_,[],rfl,h,rfl,by simp,by omega,by omega,rfl⟩ ?_
  rintro Q2 k fr Y ⟨i,y24,y25,y10,y11,rv',items',rs',rfl,hY,hlen,hle,hi,rfl,hrec⟩ hnx hx hret2
  have lok:=hlok rs' (by omega) hle
  have hL:=hY.lg lok
  have gY:=hY.g3
  by_cases hlt:i<D.bl.length-2
  ·have d1:(i:Int)<((D.bl.length-2:Nat):Int):=by omega
   have hw:IntKind.i64.wrap ((i:Int)+1)=((i+1:Nat):Int):=by rw[wrap_i64 (by omega) (by omega)];simp
   obtain⟨j,hj⟩:∃j,D.bl.length-2-i=j+1:=⟨D.bl.length-2-i-1,by omega⟩
   have hnext:(⟨t,f,rs',0⟩:Lg).next=f+rs'.length:=rfl
   simp(disch:=first|assumption|omega|(simp only[LN]<;>omega)|(simp(disch:=first|assumption|omega|(simp only[LN]<;>omega))only[row_alloc,row_set];assumption))only[W_block,P3,↓reduceIte,reduceAdd,reduceEqDiff,reduceCtorEq,initFr,reduceLT,clsA,reduceLeDiff,reduceMul,reduceSub,reduceIte,gY]
   refine callK (t28 hL) ?_
   rintro _ X1 ⟨rfl,hX1⟩
   rw[hX1,hnext]
   simp(disch:=first|assumption|omega|(simp only[LN]<;>omega)|(simp(disch:=first|assumption|omega|(simp only[LN]<;>omega))only[row_alloc,row_set];assumption))only[W_block,P3,↓reduceIte,reduceAdd,reduceEqDiff,reduceCtorEq,initFr,reduceLT,clsA,reduceLeDiff,reduceMul,reduceSub,reduceIte]
   refine⟨by simp,?_⟩
   refine callK (t71 hL ho (f+rs'.length) (by omega) (by omega)) ?_
   rintro w K1 ⟨k1,hr⟩
   rw[hj,recsW_s]at hrec
   have hj2:j=D.bl.length-2-(i+1):=by omega
   rcases hr with⟨c1,y,rfl,iy,by_,fy,ly⟩|⟨c1,rfl⟩
   ·have oy:=one_isS iy
    have cy:=cells_isS iy
    have oo:[Value.int .i64 ((recW (rdB D (atW D (f+rs'.length)))).1 :Nat),y].all Value.oneCell'=true:=by simp only[List.all_cons,oy];rfl
    obtain⟨K2,hK2⟩:∃Z,Z=K1.alloc (.cells true false 2 [.int .i64 ((recW (rdB D (atW D (f+rs'.length)))).1 :Nat),y] 124):=⟨_,rfl⟩
    have k2:Keeps K1 K2:=by rw[hK2];exact(Keeps.refl K1).alloc _
    have gr:K2.get K1.n=some (.cells true false 2 [.int .i64 ((recW (rdB D (atW D (f+rs'.length)))).1 :Nat),y] 124):=by rw[hK2];exact AHeap.get_alloc_new K1 _
    have n2:K2.n=K1.n+1:=by rw[hK2];rfl
    have h2:=(hY.keeps k1).keeps k2
    have g2:=h2.g3
    simp(disch:=first|assumption|omega|(simp only[LN]<;>omega)|(simp(disch:=first|assumption|omega|(simp only[LN]<;>omega))only[row_alloc,row_set];assumption))only[W_block,P3,↓reduceIte,reduceAdd,reduceEqDiff,reduceCtorEq,initFr,reduceLT,clsA,reduceLeDiff,reduceMul,reduceSub,reduceIte,oo]
    rw[←hK2]
    simp(disch:=first|assumption|omega|(simp only[LN]<;>omega)|(simp(disch:=first|assumption|omega|(simp only[LN]<;>omega))only[row_alloc,row_set];assumption))only[W_block,P3,↓reduceIte,reduceAdd,reduceEqDiff,reduceCtorEq,initFr,reduceLT,clsA,reduceLeDiff,reduceMul,reduceSub,reduceIte,gr,g2]
    refine callK (t28 (h2.lg lok)) ?_
    rintro _ X2 ⟨rfl,hX2⟩
    rw[hX2,hnext]
    by_cases hk1:(recW (rdB D (atW D (f+rs'.length)))).1 =f+rs'.length
    ·have d2:((((recW (rdB D (atW D (f+rs'.length)))).1 :Nat):Int) != ((f+rs'.length:Nat):Int))=false:=bnei_no (by rw[hk1])
     rw[if_pos hk1]at hrec
     have hcY:∀z∈blkL y,Y.n≤z∧z<K1.n:=fun z hz=>⟨fy z (mem_blkL.1 hz),ly z (mem_blkL.1 hz)⟩
     have gl:=h2.gl
     have hfy:fillA [.slice none 0 0] [(0,1,y)]=some [y]:=by simp only[fill_cons,cy];rfl
     have oy1:[y].all Value.oneCell'=true:=by simp only[List.all_cons,oy];rfl
     have hil:=h2.lg lok |>.il
     simp(disch:=first|assumption|omega|(simp only[LN]<;>omega)|(simp(disch:=first|assumption|omega|(simp only[LN]<;>omega))only[row_alloc,row_set];assumption))only[W_block,P3,↓reduceIte,reduceAdd,reduceEqDiff,reduceCtorEq,initFr,reduceLT,clsA,reduceLeDiff,reduceMul,reduceSub,reduceIte,d2,gr,g2]
     refine⟨by simp,?_⟩
     simp(disch:=first|assumption|omega|(simp only[LN]<;>omega)|(simp(disch:=first|assumption|omega|(simp only[LN]<;>omega))only[row_alloc,row_set];assumption))only[W_block,P3,↓reduceIte,reduceAdd,reduceEqDiff,reduceCtorEq,initFr,reduceLT,clsA,reduceLeDiff,reduceMul,reduceSub,reduceIte,gl,gr,hfy,oy1]
     have kk3:=(Keeps.refl K2).alloc (.cells true false 1 [y] 38)
     refine WO.appO (bytes:=24) ((h2.lg lok).w.keeps kk3) ⟨_,_,rfl⟩ (elems_new (n:=1) rfl rfl) rfl (by rw[hil];show(rs'.length+1)*24≤140737488355328∧rs'.length+1≤140737488355328;omega) ?_
     rintro rv2 K4 hwo hch hbl
     have n3':(K2.alloc (.cells true false 1 [y] 38)).n=K2.n+1:=rfl
     generalize K2.alloc (.cells true false 1 [y] 38)=X3 at*
     have inr:∀z∈blkL rv',z<Y.n:=fun z hz=>hY.lt (th:=thO 38 1 rv' items'.length (items'.map (·.1))) (by simp[lgT]) hz
     have hh:=OS.add hY (k1) by_ hcY (k2.trans kk3) hch hwo (by
      rcases hbl with h5|h5
      ·exact .inl h5
      ·exact .inr ⟨_,h5,by omega⟩)
     have nlb:K.n+2∉blkL rv':=fun hz=>hY.u.sep.apart 3 4 (by omega) rfl rfl _ (by simp[thB]) hz
     have g4:=hch.at_ (kk3.at_ gl) nlb
     have orv:=hwo.one
     have nl3:K.n+3∉blkL rv':=fun hz=>hY.u.sep.apart 2 4 (by omega) rfl rfl _ (by simp[thB]) hz
     have l3:=AHeap.get_lt (kk3.at_ g2)
     refine⟨⟨by simp[keepsB];exact hch.get _ l3 nl3,trivial⟩,?_⟩
     simp(disch:=first|assumption|omega|(simp only[LN]<;>omega)|(simp(disch:=first|assumption|omega|(simp only[LN]<;>omega))only[row_alloc,row_set];assumption))only[W_block,P3,↓reduceIte,reduceAdd,reduceEqDiff,reduceCtorEq,initFr,reduceLT,clsA,reduceLeDiff,reduceMul,reduceSub,reduceIte,g4,orv]
     rw[hw]
     exact hnx _ _ _ ⟨i+1,_,_,_,_,rv2,items'++[(y,(recW (rdB D (atW D (f+rs'.length)))).2)],rs'++[(recW (rdB D (atW D (f+rs'.length)))).2],rfl,hh,by simp[hlen],fun s hs=>by
      rcases List.mem_append.1 hs with hs|hs
      ·exact hle s hs
      ·rw[List.mem_singleton.1 hs];exact(recW_le _).2,by omega,rfl,by rw[hrec,hj2]⟩ (by omega)
    ·have d2:((((recW (rdB D (atW D (f+rs'.length)))).1 :Nat):Int) != ((f+rs'.length:Nat):Int))=true:=bnei_yes (by omega)
     rw[if_neg hk1]at hrec
     rw[hrec]at hk
     simp(disch:=first|assumption|omega|(simp only[LN]<;>omega)|(simp(disch:=first|assumption|omega|(simp only[LN]<;>omega))only[row_alloc,row_set];assumption))only[W_block,P3,↓reduceIte,reduceAdd,reduceEqDiff,reduceCtorEq,initFr,reduceLT,clsA,reduceLeDiff,reduceMul,reduceSub,reduceIte,d2]
     refine⟨by simp,?_⟩
     refine hx 4 _ _ ?_
     exact hk _ _ ⟨_,_,_,_,_,_,_,_,rfl,h2,lok⟩
   ·have hc0:¬(recW (rdB D (atW D (f+rs'.length)))).1 =f+rs'.length:=by omega
    rw[if_neg hc0]at hrec
    rw[hrec]at hk
    obtain⟨K2,hK2⟩:∃Z,Z=K1.alloc (.cells true false 2 [.int .i64 0,.slice none 0 0] 124):=⟨_,rfl⟩
    have k2:Keeps K1 K2:=by rw[hK2];exact(Keeps.refl K1).alloc _
    have h2:=(hY.keeps k1).keeps k2
    simp(disch:=first|assumption|omega|(simp only[LN]<;>omega)|(simp(disch:=first|assumption|omega|(simp only[LN]<;>omega))only[row_alloc,row_set];assumption))only[W_block,P3,↓reduceIte,reduceAdd,reduceEqDiff,reduceCtorEq,initFr,reduceLT,clsA,reduceLeDiff,reduceMul,reduceSub,reduceIte]
    rw[←hK2]
    refine hx 4 _ _ ?_
    exact hk _ _ ⟨_,_,_,_,_,_,_,_,rfl,h2,lok⟩
  ·have d1:¬(i:Int)<((D.bl.length-2:Nat):Int):=by omega
   have e:i=D.bl.length-2:=by omega
   subst e
   rw[Nat.sub_self,recsW_0]at hrec
   rw[hrec]at hk
   simp(disch:=first|assumption|omega|(simp only[LN]<;>omega)|(simp(disch:=first|assumption|omega|(simp only[LN]<;>omega))only[row_alloc,row_set];assumption))only[W_block,P3,↓reduceIte,reduceAdd,reduceEqDiff,reduceCtorEq,initFr,reduceLT,clsA,reduceLeDiff,reduceMul,reduceSub,reduceIte]
   refine hx 4 _ _ ?_
   exact hk _ _ ⟨_,_,_,_,_,_,_,_,rfl,hY,lok⟩
 ·rintro fr Y ⟨y22,y23,y24,y25,y10,y11,rv',items',rfl,hY,lok⟩
  exact openRing hY lok ho hq2
end
end Go.AM.Fd

set_option linter.unusedSimpArgs false
set_option linter.unusedVariables false
namespace Go.AM.Fd
open Nat (reduceAdd reduceEqDiff reduceLT reduceLeDiff reduceMul reduceSub)
open Go.Proofs Go.AM.F
theorem cB_le(c:UInt8):∀l:List UInt8,cB c l≤l.length
 |[]=>Nat.le_refl _
 |x::l=>by unfold cB;have:=cB_le c l;split<;>simp<;>omega
theorem cB_all(c:UInt8):∀l:List UInt8,cB c l=l.length↔(l.all fun x=>x==c)=true
 |[]=>by simp[cB]
 |x::l=>by
  have h1:=cB_le c l
  have h2:=cB_all c l
  unfold cB
  by_cases h:x=c
  ·rw[if_pos h];simp only[List.length_cons,List.all_cons,h,beq_self_eq_true,Bool.true_and];rw[←h2];omega
  ·rw[if_neg h]
   have:(x==c)=false:=by simpa using h
   simp only[List.length_cons,List.all_cons,this,Bool.false_and]
   constructor
   ·intro h3;omega
   ·intro h3;cases h3
def hdW(D:Dk):Nat→Nat×Nat
 |0=>(0,0)
 |i+1=>if(hdW D i).1 <(headW (rdB D i)).1 then headW (rdB D i)else hdW D i
def flW(D:Dk):Nat→Bool
 |0=>true
 |i+1=>flW D i&&zeroW (rdB D i)
theorem wlD_off{D:Dk}{i:Nat}{l:List UInt8}(h:(wlD D i l).2 =0):(wlD D i l).1.off=false:=by
 unfold wlD at h ⊢
 by_cases h1:(wrD D i l).2 =0
 ·rw[if_pos h1]at h ⊢
  unfold syD at h ⊢
  by_cases h2:(wrD D i l).1.off=true
  ·rw[if_pos h2]at h;cases h
  ·rw[if_neg h2]at h ⊢
   by_cases h3:(stepD (wrD D i l).1).2 =true
   ·rw[if_pos h3]at h;cases h
   ·rw[if_neg h3]
    show(stepD (wrD D i l).1).1.off=false
    unfold stepD at h3 ⊢
    split at h3<;>simp_all
 ·rw[if_neg h1]at h;exact absurd h h1
theorem hdW_2(D:Dk):hdW D 2=headsW D:=by
 have e:hdW D 1=headW (rdB D 0):=by
  show(if 0<(headW (rdB D 0)).1 then headW (rdB D 0)else(0,0))=_
  by_cases h:0<(headW (rdB D 0)).1
  ·rw[if_pos h]
  ·rw[if_neg h]
   unfold headW at h ⊢
   split
   ·rfl
   ·rename_i hh
    rw[if_neg hh]at h
    simp only[not_or]at hh
    exact absurd (Nat.pos_of_ne_zero hh.1) h
 show(if(hdW D 1).1 <(headW (rdB D 1)).1 then headW (rdB D 1)else hdW D 1)=_
 rw[e];rfl
theorem flW_2(D:Dk):flW D 2=(zeroW (rdB D 0)&&zeroW (rdB D 1)):=by simp[flW]
theorem headW_le(l:List UInt8):(headW l).1 ≤4611686018427387904∧(headW l).2 ≤4611686018427387904∧((headW l).1 ≠0→1≤(headW l).2):=by
 unfold headW
 split
 ·simp
 ·rename_i hh
  simp only[not_or]at hh
  exact⟨longW_le _ _,longW_le _ _,fun _=>Nat.pos_of_ne_zero hh.2.1⟩
theorem hdW_le(D:Dk):∀i,(hdW D i).1 ≤4611686018427387904∧(hdW D i).2 ≤4611686018427387904∧((hdW D i).1 ≠0→1≤(hdW D i).2)
 |0=>by simp[hdW]
 |i+1=>by
  unfold hdW
  split
  ·exact headW_le _
  ·exact hdW_le D i
section
variable {A:List Th} {K X:AHeap} {b sb:Nat} {v rv:Value} {ab:Option Nat} {items:List (Value×List UInt8)} {D:Dk} {L:Lg}
theorem OS.head(h:OS A K X b sb v ab rv items D L)(t f:Nat):OS A K (X.set (K.n+2) (.cells true false 5 (lgC b rv ⟨t,f,L.rs,L.br⟩) 116)) b sb v ab rv items D ⟨t,f,L.rs,L.br⟩:=by
 have g:=h.gl
 have s3:=Upd.next (l:=[_,_,_]) (t':=thB (K.n+2) (.cells true false 5 (lgC b rv ⟨t,f,L.rs,L.br⟩) 116)) h.u (Chg.set X (AHeap.get_lt g) _) (AHeap.get_set_same g _) (by simp[thB])
 exact⟨s3,h.ok,h.n3,h.it⟩
set_option maxRecDepth 20000 in
theorem openHead{Q:AQ}{x5 x6 x7 x8 x9 x10 x11 x12 x13 x14 x15 x16 x17 x18 x19 x20 x21 x22 x23 x24 x25 x26 x27 x28:Value}(h:OS A K X b sb v ab (.slice none 0 0) [] D ⟨0,0,[],0⟩)(hs:D.st<999999)(hm:D.op.length<999999)(ho:D.off=false)(hn:3≤D.bl.length)
 (hq2:∀fr H2,(∃w,resO f13.res fr H2=some w∧OpenR A K H2 b sb (openW D) w)→Q .ret fr H2):
 W Go.Proofs.Tryz.prog 0 (cpost 4 f13.body) Q [ptr b 0,ptr K.n 0,ptr (K.n+1) 0,ptr (K.n+3) 0,.bool true,x5,x6,x7,x8,x9,x10,x11,x12,x13,x14,x15,x16,x17,x18,x19,x20,x21,x22,x23,x24,x25,x26,x27,x28] X:=by
 refine W_part 1 (fun fr Y=>∃y5 y6 y7 y8 y16 y17 y18,fr=[ptr b 0,ptr K.n 0,ptr (K.n+1) 0,ptr (K.n+3) 0,.bool (flW D 2),y5,y6,y7,y8,x9,x10,x11,x12,x13,x14,x15,y16,y17,y18,x19,x20,x21,x22,x23,x24,x25,x26,x27,x28]∧OS A K Y b sb v ab (.slice none 0 0) [] D ⟨(hdW D 2).1,(hdW D 2).2,[],0⟩) (by kernel_rfl) ?_ ?_
 ·intro Q' hk hex hret
  simp(disch:=first|assumption|omega|(simp only[LN]<;>omega)|(simp(disch:=first|assumption|omega|(simp only[LN]<;>omega))only[row_alloc,row_set];assumption))only[f13,P3,↓reduceIte,reduceAdd,reduceEqDiff,reduceCtorEq,initFr,reduceLT,clsA,reduceLeDiff,reduceMul,reduceSub,reduceIte,cpre,cpost]
  rw[W_block]
  refine W_loop2 (fun k fr Y=>∃i y5 y6 y7 y8 y17 y18,fr=[ptr b 0,ptr K.n 0,ptr (K.n+1) 0,ptr (K.n+3) 0,.bool (flW D i),y5,y6,y7,y8,x9,x10,x11,x12,x13,x14,x15,.int .i64 (i:Nat),y17,y18,x19,x20,x21,x22,x23,x24,x25,x26,x27,x28]∧OS A K Y b sb v ab (.slice none 0 0) [] D ⟨(hdW D i).1,(hdW D i).2,[],0⟩∧i≤2∧k=2-i) 2 ⟨0,_,_,_,_,_,_,rfl,h,by omega,rfl⟩ ?_
  rintro Q2 k fr Y ⟨i,y5,y6,y7,y8,y17,y18,rfl,hY,hi,rfl⟩ hnx hx hret2
  by_cases hlt:i<2
  ·have d1:(i:Int)<2:=by omega
   have hw:IntKind.i64.wrap ((i:Int)+1)=((i+1:Nat):Int):=by rw[wrap_i64 (by omega) (by omega)];simp
   have ha:=askD_in ho (show i<D.bl.length by omega)
   simp(disch:=first|assumption|omega|(simp only[LN]<;>omega)|(simp(disch:=first|assumption|omega|(simp only[LN]<;>omega))only[row_alloc,row_set];assumption))only[W_block,P3,↓reduceIte,reduceAdd,reduceEqDiff,reduceCtorEq,initFr,reduceLT,clsA,reduceLeDiff,reduceMul,reduceSub,reduceIte]
   refine callK (t67 hY.d ((i:Nat):Int)) ?_
   rintro _ K1 ⟨k1,x,rfl,-,hx2⟩
   obtain⟨bx,vb,rfl,hvb⟩:=hx2 ha
   rw[ha]
   have tn:((i:Nat):Int).toNat=i:=rfl
   rw[tn]at bx
   have l256:=hY.ok.rd (show i<D.bl.length by omega)
   have hfl:flW D (i+1)=(flW D i&&zeroW (rdB D i)):=rfl
   have hhd:hdW D (i+1)=if(hdW D i).1 <(headW (rdB D i)).1 then headW (rdB D i)else hdW D i:=rfl
   generalize rdB D i=l at*
   have hz:zeroW l=decide ((cB 0 l:Nat)=256):=by
    have:=cB_all 0 l
    rw[l256]at this
    unfold zeroW
    rw[Bool.eq_iff_iff,←this];simp
   have hzq:(((cB 0 l:Nat):Int)==((256:Nat):Int))=zeroW l:=by
    rw[hz]
    by_cases hc:cB 0 l=256
    ·rw[hc];rfl
    ·rw[decide_eq_false hc];exact beqi_no (by omega)
   rcases hf:flW D i with _|_
   ·rw[hf,Bool.false_and]at hfl
    simp(disch:=first|assumption|omega|(simp only[LN]<;>omega)|(simp(disch:=first|assumption|omega|(simp only[LN]<;>omega))only[row_alloc,row_set];assumption))only[W_block,P3,↓reduceIte,reduceAdd,reduceEqDiff,reduceCtorEq,initFr,reduceLT,clsA,reduceLeDiff,reduceMul,reduceSub,reduceIte]
    obtain⟨Z,hZ⟩:∃Z,Z=K1:=⟨_,rfl⟩
    have kz:Keeps K1 Z:=by rw[hZ];exact Keeps.refl _
    rw[←hZ]
    refine callK (t69 (bx.keeps kz) l256) ?_
    rintro w K2 ⟨k2,hs2⟩
    have h2:=((hY.keeps k1).keeps kz).keeps k2
    rcases hs2 with⟨c1,c2,rfl⟩|⟨c1,c2,y,rfl,by_,fy,ly⟩|⟨c1,c2,rfl⟩
    ·obtain⟨K3,hK3⟩:∃Z,Z=K2.alloc (.cells true false 2 [.int .i64 ((headW l).1 :Nat),.int .i64 ((headW l).2 :Nat)] 114):=⟨_,rfl⟩
     have k3:Keeps K2 K3:=by rw[hK3];exact(Keeps.refl K2).alloc _
     have gv:K3.get K2.n=some (.cells true false 2 [.int .i64 ((headW l).1 :Nat),.int .i64 ((headW l).2 :Nat)] 114):=by rw[hK3];exact AHeap.get_alloc_new K2 _
     have h3:=h2.keeps k3
     have g3:=h3.g3
     have gl:=h3.gl
     have oh:[Value.int .i64 ((headW l).1 :Nat),.int .i64 ((headW l).2 :Nat)].all Value.oneCell'=true:=rfl
     by_cases hgt:(hdW D i).1 <(headW l).1
     ·rw[if_pos hgt]at hhd
      have hh:=h3.head (headW l).1 (headW l).2
      have d2:(((hdW D i).1 :Nat):Int)<(((headW l).1 :Nat):Int):=by omega
      simp(disch:=first|assumption|omega|(simp only[LN]<;>omega)|(simp(disch:=first|assumption|omega|(simp only[LN]<;>omega))only[row_alloc,row_set];assumption))only[W_block,P3,↓reduceIte,reduceAdd,reduceEqDiff,reduceCtorEq,initFr,reduceLT,clsA,reduceLeDiff,reduceMul,reduceSub,reduceIte]
      rw[←hK3]
      simp(disch:=first|assumption|omega|(simp only[LN]<;>omega)|(simp(disch:=first|assumption|omega|(simp only[LN]<;>omega))only[row_alloc,row_set];assumption))only[W_block,P3,↓reduceIte,reduceAdd,reduceEqDiff,reduceCtorEq,initFr,reduceLT,clsA,reduceLeDiff,reduceMul,reduceSub,reduceIte,gv,g3,gl,oh]
      exact hnx _ _ _ ⟨i+1,_,_,_,_,_,_,by(simp only[hfl,hw,hzq];rfl),by rw[hhd];exact hh,by omega,rfl⟩ (by omega)
     ·rw[if_neg hgt]at hhd
      have d2:¬(((hdW D i).1 :Nat):Int)<(((headW l).1 :Nat):Int):=by omega
      rw[←hhd]at h3
      simp(disch:=first|assumption|omega|(simp only[LN]<;>omega)|(simp(disch:=first|assumption|omega|(simp only[LN]<;>omega))only[row_alloc,row_set];assumption))only[W_block,P3,↓reduceIte,reduceAdd,reduceEqDiff,reduceCtorEq,initFr,reduceLT,clsA,reduceLeDiff,reduceMul,reduceSub,reduceIte]
      rw[←hK3]
      simp(disch:=first|assumption|omega|(simp only[LN]<;>omega)|(simp(disch:=first|assumption|omega|(simp only[LN]<;>omega))only[row_alloc,row_set];assumption))only[W_block,P3,↓reduceIte,reduceAdd,reduceEqDiff,reduceCtorEq,initFr,reduceLT,clsA,reduceLeDiff,reduceMul,reduceSub,reduceIte,gv,g3,gl]
      exact hnx _ _ _ ⟨i+1,_,_,_,_,_,_,by(simp only[hfl,hw,hzq];rfl),h3,by omega,rfl⟩ (by omega)
    ·have hgt:¬(hdW D i).1 <(headW l).1 :=by omega
     rw[if_neg hgt]at hhd
     rw[←hhd]at h2
     simp(disch:=first|assumption|omega|(simp only[LN]<;>omega)|(simp(disch:=first|assumption|omega|(simp only[LN]<;>omega))only[row_alloc,row_set];assumption))only[W_block,P3,↓reduceIte,reduceAdd,reduceEqDiff,reduceCtorEq,initFr,reduceLT,clsA,reduceLeDiff,reduceMul,reduceSub,reduceIte]
     exact hnx _ _ _ ⟨i+1,_,_,_,_,_,_,by(simp only[hfl,hw,hzq];rfl),h2.keeps ((Keeps.refl _).alloc _),by omega,rfl⟩ (by omega)
    ·have hgt:¬(hdW D i).1 <(headW l).1 :=by omega
     rw[if_neg hgt]at hhd
     rw[←hhd]at h2
     have an:asem (.assert 114 (.agg #[.int .i64 0,.int .i64 0]) true .nilIface) K2=some (.tuple #[.agg #[.int .i64 0,.int .i64 0],.bool false],K2):=rfl
     simp(disch:=first|assumption|omega|(simp only[LN]<;>omega)|(simp(disch:=first|assumption|omega|(simp only[LN]<;>omega))only[row_alloc,row_set];assumption))only[W_block,P3,↓reduceIte,reduceAdd,reduceEqDiff,reduceCtorEq,initFr,reduceLT,clsA,reduceLeDiff,reduceMul,reduceSub,reduceIte,an]
     exact hnx _ _ _ ⟨i+1,_,_,_,_,_,_,by(simp only[hfl,hw,hzq];rfl),h2.keeps ((Keeps.refl _).alloc _),by omega,rfl⟩ (by omega)
   ·rw[hf,Bool.true_and]at hfl
    simp(disch:=first|assumption|omega|(simp only[LN]<;>omega)|(simp(disch:=first|assumption|omega|(simp only[LN]<;>omega))only[row_alloc,row_set];assumption))only[W_block,P3,↓reduceIte,reduceAdd,reduceEqDiff,reduceCtorEq,initFr,reduceLT,clsA,reduceLeDiff,reduceMul,reduceSub,reduceIte]
    obtain⟨Z,hZ⟩:∃Z,Z=K1.alloc (.cells true false 1 [.int .u8 0] 5):=⟨_,rfl⟩
    have kz:Keeps K1 Z:=by rw[hZ];exact(Keeps.refl _).alloc _
    have hb0:BS Z (slc K1.n 0 1 1) [0]:=⟨⟨_,_,rfl⟩,by rw[hZ];exact elems_new (n:=1) rfl rfl⟩
    rw[←hZ]
    refine callK (t68 (bx.keeps kz) hb0) ?_
    rintro _ X ⟨rfl,hX⟩
    rw[hX]
    simp(disch:=first|assumption|omega|(simp only[LN]<;>omega)|(simp(disch:=first|assumption|omega|(simp only[LN]<;>omega))only[row_alloc,row_set];assumption))only[W_block,P3,↓reduceIte,reduceAdd,reduceEqDiff,reduceCtorEq,initFr,reduceLT,clsA,reduceLeDiff,reduceMul,reduceSub,reduceIte]
    refine callK (t69 (bx.keeps kz) l256) ?_
    rintro w K2 ⟨k2,hs2⟩
    have h2:=((hY.keeps k1).keeps kz).keeps k2
    rcases hs2 with⟨c1,c2,rfl⟩|⟨c1,c2,y,rfl,by_,fy,ly⟩|⟨c1,c2,rfl⟩
    ·obtain⟨K3,hK3⟩:∃Z,Z=K2.alloc (.cells true false 2 [.int .i64 ((headW l).1 :Nat),.int .i64 ((headW l).2 :Nat)] 114):=⟨_,rfl⟩
     have k3:Keeps K2 K3:=by rw[hK3];exact(Keeps.refl K2).alloc _
     have gv:K3.get K2.n=some (.cells true false 2 [.int .i64 ((headW l).1 :Nat),.int .i64 ((headW l).2 :Nat)] 114):=by rw[hK3];exact AHeap.get_alloc_new K2 _
     have h3:=h2.keeps k3
     have g3:=h3.g3
     have gl:=h3.gl
     have oh:[Value.int .i64 ((headW l).1 :Nat),.int .i64 ((headW l).2 :Nat)].all Value.oneCell'=true:=rfl
     by_cases hgt:(hdW D i).1 <(headW l).1
     ·rw[if_pos hgt]at hhd
      have hh:=h3.head (headW l).1 (headW l).2
      have d2:(((hdW D i).1 :Nat):Int)<(((headW l).1 :Nat):Int):=by omega
      simp(disch:=first|assumption|omega|(simp only[LN]<;>omega)|(simp(disch:=first|assumption|omega|(simp only[LN]<;>omega))only[row_alloc,row_set];assumption))only[W_block,P3,↓reduceIte,reduceAdd,reduceEqDiff,reduceCtorEq,initFr,reduceLT,clsA,reduceLeDiff,reduceMul,reduceSub,reduceIte]
      rw[←hK3]
      simp(disch:=first|assumption|omega|(simp only[LN]<;>omega)|(simp(disch:=first|assumption|omega|(simp only[LN]<;>omega))only[row_alloc,row_set];assumption))only[W_block,P3,↓reduceIte,reduceAdd,reduceEqDiff,reduceCtorEq,initFr,reduceLT,clsA,reduceLeDiff,reduceMul,reduceSub,reduceIte,gv,g3,gl,oh]
      exact hnx _ _ _ ⟨i+1,_,_,_,_,_,_,by(simp only[hfl,hw,hzq];rfl),by rw[hhd];exact hh,by omega,rfl⟩ (by omega)
     ·rw[if_neg hgt]at hhd
      have d2:¬(((hdW D i).1 :Nat):Int)<(((headW l).1 :Nat):Int):=by omega
      rw[←hhd]at h3
      simp(disch:=first|assumption|omega|(simp only[LN]<;>omega)|(simp(disch:=first|assumption|omega|(simp only[LN]<;>omega))only[row_alloc,row_set];assumption))only[W_block,P3,↓reduceIte,reduceAdd,reduceEqDiff,reduceCtorEq,initFr,reduceLT,clsA,reduceLeDiff,reduceMul,reduceSub,reduceIte]
      rw[←hK3]
      simp(disch:=first|assumption|omega|(simp only[LN]<;>omega)|(simp(disch:=first|assumption|omega|(simp only[LN]<;>omega))only[row_alloc,row_set];assumption))only[W_block,P3,↓reduceIte,reduceAdd,reduceEqDiff,reduceCtorEq,initFr,reduceLT,clsA,reduceLeDiff,reduceMul,reduceSub,reduceIte,gv,g3,gl]
      exact hnx _ _ _ ⟨i+1,_,_,_,_,_,_,by(simp only[hfl,hw,hzq];rfl),h3,by omega,rfl⟩ (by omega)
    ·have hgt:¬(hdW D i).1 <(headW l).1 :=by omega
     rw[if_neg hgt]at hhd
     rw[←hhd]at h2
     simp(disch:=first|assumption|omega|(simp only[LN]<;>omega)|(simp(disch:=first|assumption|omega|(simp only[LN]<;>omega))only[row_alloc,row_set];assumption))only[W_block,P3,↓reduceIte,reduceAdd,reduceEqDiff,reduceCtorEq,initFr,reduceLT,clsA,reduceLeDiff,reduceMul,reduceSub,reduceIte]
     exact hnx _ _ _ ⟨i+1,_,_,_,_,_,_,by(simp only[hfl,hw,hzq];rfl),h2.keeps ((Keeps.refl _).alloc _),by omega,rfl⟩ (by omega)
    ·have hgt:¬(hdW D i).1 <(headW l).1 :=by omega
     rw[if_neg hgt]at hhd
     rw[←hhd]at h2
     have an:asem (.assert 114 (.agg #[.int .i64 0,.int .i64 0]) true .nilIface) K2=some (.tuple #[.agg #[.int .i64 0,.int .i64 0],.bool false],K2):=rfl
     simp(disch:=first|assumption|omega|(simp only[LN]<;>omega)|(simp(disch:=first|assumption|omega|(simp only[LN]<;>omega))only[row_alloc,row_set];assumption))only[W_block,P3,↓reduceIte,reduceAdd,reduceEqDiff,reduceCtorEq,initFr,reduceLT,clsA,reduceLeDiff,reduceMul,reduceSub,reduceIte,an]
     exact hnx _ _ _ ⟨i+1,_,_,_,_,_,_,by(simp only[hfl,hw,hzq];rfl),h2.keeps ((Keeps.refl _).alloc _),by omega,rfl⟩ (by omega)
  ·have d1:¬(i:Int)<2:=by omega
   have e:i=2:=by omega
   subst e
   simp(disch:=first|assumption|omega|(simp only[LN]<;>omega)|(simp(disch:=first|assumption|omega|(simp only[LN]<;>omega))only[row_alloc,row_set];assumption))only[W_block,P3,↓reduceIte,reduceAdd,reduceEqDiff,reduceCtorEq,initFr,reduceLT,clsA,reduceLeDiff,reduceMul,reduceSub,reduceIte]
   refine hx 1 _ _ ?_
   exact hk _ _ ⟨_,_,_,_,_,_,_,rfl,hY⟩
 ·rintro fr Y ⟨y5,y6,y7,y8,y16,y17,y18,rfl,hY⟩
  have hle:=hdW_le D 2
  have hop:openW D=if(hdW D 2).1 =0 then(if flW D 2=false then(D,none,151)else if(wlD D 1 (headB 1 1)).2 ≠0 then((wlD D 1 (headB 1 1)).1,none,(wlD D 1 (headB 1 1)).2)else open2 (wlD D 1 (headB 1 1)).1 1 1)else open2 D (hdW D 2).1 (hdW D 2).2 :=by
   rw[hdW_2,flW_2];unfold openW;rw[if_neg (by omega),if_neg (by simp[ho])]
  rw[hop]at hq2
  have g3:=hY.g3
  have gl:=hY.gl
  have g0:=hY.g0
  have g1:=hY.g1
  generalize hdW D 2=hd at*
  generalize flW D 2=fl at*
  refine W_part 1 (fun fr Z=>∃z9 z19 z20 z21 v' ab' D' t f,fr=[ptr b 0,ptr K.n 0,ptr (K.n+1) 0,ptr (K.n+3) 0,.bool fl,y5,y6,y7,y8,z9,x10,x11,x12,x13,x14,x15,y16,y17,y18,z19,z20,z21,x22,x23,x24,x25,x26,x27,x28]∧OS A K Z b sb v' ab' (.slice none 0 0) [] D' ⟨t,f,[],0⟩∧t≤9000000000000000000∧(1≤f∧f≤9000000000000000000)∧D'.off=false∧(if hd.1=0 then(if fl=false then(D,none,151)else if(wlD D 1 (headB 1 1)).2 ≠0 then((wlD D 1 (headB 1 1)).1,none,(wlD D 1 (headB 1 1)).2)else open2 (wlD D 1 (headB 1 1)).1 1 1)else open2 D hd.1 hd.2)=open2 D' t f) (by kernel_rfl) ?_ ?_
  ·intro Q' hk hex hret
   have hr2:=fun fr H2 h=>hret fr H2 (hq2 fr H2 h)
   by_cases ht:hd.1=0
   ·have d1:¬(0:Int)<((hd.1:Nat):Int):=by omega
    rw[if_pos ht]at hk hr2
    cases fl with
    |false=>
     rw[if_pos rfl]at hr2
     have l0:=AHeap.get_lt g0
     have l1:=AHeap.get_lt g1
     simp(disch:=first|assumption|omega|(simp only[LN]<;>omega)|(simp(disch:=first|assumption|omega|(simp only[LN]<;>omega))only[row_alloc,row_set];assumption))only[f13,W_block,P3,↓reduceIte,reduceAdd,reduceEqDiff,reduceCtorEq,initFr,reduceLT,clsA,reduceLeDiff,reduceMul,reduceSub,reduceIte,cpre,cpost,g3,gl,g0,g1]
     have c:=((Chg.refl [K.n,K.n+1] Y).trans (Chg.set Y l0 (.cells true false 1 [.pointer none] 29)) (by simp)).trans (Chg.set (Y.set K.n (.cells true false 1 [.pointer none] 29)) (b:=K.n+1) (by rw[set_n];exact l1) (.cells true false 1 [.int .i64 151] 30)) (by simp)
     have p0:((Y.set K.n (.cells true false 1 [.pointer none] 29)).set (K.n+1) (.cells true false 1 [.int .i64 151] 30)).get K.n=some (.cells true false 1 [.pointer none] 29):=by
      rw[AHeap.get_set_other _ (by omega) (by rw[set_n];exact l1)]
      exact AHeap.get_set_same g0 _
     have p1:((Y.set K.n (.cells true false 1 [.pointer none] 29)).set (K.n+1) (.cells true false 1 [.int .i64 151] 30)).get (K.n+1)=some (.cells true false 1 [.int .i64 151] 30):=by
      refine AHeap.get_set_same (o:=.cells true false 1 [.int .i64 0] 30) ?_ _
      rw[AHeap.get_set_other _ (by omega) l0];exact g1
     exact hr2 _ _ ⟨_,resW rfl rfl p0 p1,rfl,hY.ok,v,ab,hY.fail c⟩
    |true=>
     rw[if_neg (by simp)]at hk hr2
     have hf:fillA [.int .i64 0,.int .i64 0] [(0,1,.int .i64 1),(1,1,.int .i64 1)]=some [.int .i64 1,.int .i64 1]:=rfl
     have hh:OS A K (Y.set (K.n+2) (.cells true false 5 [ptr b 0,.int .i64 1,.int .i64 1,.slice none 0 0,.int .i64 0] 116)) b sb v ab (.slice none 0 0) [] D ⟨1,1,[],0⟩:=hY.head 1 1
     simp(disch:=first|assumption|omega|(simp only[LN]<;>omega)|(simp(disch:=first|assumption|omega|(simp only[LN]<;>omega))only[row_alloc,row_set];assumption))only[f13,W_block,P3,↓reduceIte,reduceAdd,reduceEqDiff,reduceCtorEq,initFr,reduceLT,clsA,reduceLeDiff,reduceMul,reduceSub,reduceIte,cpre,cpost,g3,gl,hf]
     generalize Y.set (K.n+2) (.cells true false 5 [ptr b 0,.int .i64 1,.int .i64 1,.slice none 0 0,.int .i64 0] 116)=Z at*
     have g3':=hh.g3
     have gl':Z.get (K.n+2)=some (.cells true false 5 [ptr b 0,.int .i64 1,.int .i64 1,.slice none 0 0,.int .i64 0] 116):=hh.gl
     have lok1:(⟨1,1,[],0⟩:Lg).ok:=⟨by show 1≤_;omega,by show 1≤1∧1≤_;omega,by simp,by simp⟩
     simp(disch:=first|assumption|omega|(simp only[LN]<;>omega)|(simp(disch:=first|assumption|omega|(simp only[LN]<;>omega))only[row_alloc,row_set];assumption))only[W_block,P3,↓reduceIte,reduceAdd,reduceEqDiff,reduceCtorEq,initFr,reduceLT,clsA,reduceLeDiff,reduceMul,reduceSub,reduceIte,g3',gl']
     refine callK (t70 (hh.lg lok1) hs hm 1 (bs:=headB 1 1) fun K3 k3=>t121h K3 1 1 (by omega) (by omega)) ?_
     rintro _ Z2 ⟨rfl,v2,ab2,h2,u2⟩
     have hO:OS A K Z2 b sb v2 ab2 (.slice none 0 0) [] (wlD D 1 (headB 1 1)).1 ⟨1,1,[],(wlD D 1 (headB 1 1)).2⟩:=⟨hh.u.trans (u2.extR hh.u.sep),h2.ok,h2.n3,h2.it⟩
     have q0:=hO.g0
     have q1:=hO.g1
     have l0:=AHeap.get_lt q0
     have l1:=AHeap.get_lt q1
     by_cases he:(wlD D 1 (headB 1 1)).2 =0
     ·rw[if_neg (by simp[he])]at hk
      have d4:((wlD D 1 (headB 1 1)).2 != 0)=false:=bnei_no he
      rw[he]at hO
      simp(disch:=first|assumption|omega|(simp only[LN]<;>omega)|(simp(disch:=first|assumption|omega|(simp only[LN]<;>omega))only[row_alloc,row_set];assumption))only[W_block,P3,↓reduceIte,reduceAdd,reduceEqDiff,reduceCtorEq,initFr,reduceLT,clsA,reduceLeDiff,reduceMul,reduceSub,reduceIte,d4]
      exact hk _ _ ⟨_,_,_,_,_,_,_,_,_,rfl,hO,by omega,by omega,wlD_off he,rfl⟩
     ·rw[if_pos he]at hr2
      have d4:((wlD D 1 (headB 1 1)).2 != 0)=true:=bnei_yes he
      simp(disch:=first|assumption|omega|(simp only[LN]<;>omega)|(simp(disch:=first|assumption|omega|(simp only[LN]<;>omega))only[row_alloc,row_set];assumption))only[W_block,P3,↓reduceIte,reduceAdd,reduceEqDiff,reduceCtorEq,initFr,reduceLT,clsA,reduceLeDiff,reduceMul,reduceSub,reduceIte,d4,q0,q1]
      have c:=((Chg.refl [K.n,K.n+1] Z2).trans (Chg.set Z2 l0 (.cells true false 1 [.pointer none] 29)) (by simp)).trans (Chg.set (Z2.set K.n (.cells true false 1 [.pointer none] 29)) (b:=K.n+1) (by rw[set_n];exact l1) (.cells true false 1 [.int .i64 (wlD D 1 (headB 1 1)).2] 30)) (by simp)
      have p0:((Z2.set K.n (.cells true false 1 [.pointer none] 29)).set (K.n+1) (.cells true false 1 [.int .i64 (wlD D 1 (headB 1 1)).2] 30)).get K.n=some (.cells true false 1 [.pointer none] 29):=by
       rw[AHeap.get_set_other _ (by omega) (by rw[set_n];exact l1)]
       exact AHeap.get_set_same q0 _
      have p1:((Z2.set K.n (.cells true false 1 [.pointer none] 29)).set (K.n+1) (.cells true false 1 [.int .i64 (wlD D 1 (headB 1 1)).2] 30)).get (K.n+1)=some (.cells true false 1 [.int .i64 (wlD D 1 (headB 1 1)).2] 30):=by
       refine AHeap.get_set_same (o:=.cells true false 1 [.int .i64 0] 30) ?_ _
       rw[AHeap.get_set_other _ (by omega) l0];exact q1
      exact hr2 _ _ ⟨_,resW rfl rfl p0 p1,rfl,hO.ok,v2,ab2,hO.fail c⟩
   ·have d1:(0:Int)<((hd.1:Nat):Int):=by omega
    rw[if_neg ht]at hk hr2
    simp(disch:=first|assumption|omega|(simp only[LN]<;>omega)|(simp(disch:=first|assumption|omega|(simp only[LN]<;>omega))only[row_alloc,row_set];assumption))only[f13,W_block,P3,↓reduceIte,reduceAdd,reduceEqDiff,reduceCtorEq,initFr,reduceLT,clsA,reduceLeDiff,reduceMul,reduceSub,reduceIte,cpre,cpost,g3,gl]
    exact hk _ _ ⟨_,_,_,_,_,_,_,_,_,rfl,hY,by omega,⟨hle.2.2 ht,by omega⟩,ho,rfl⟩
  ·rintro fr Z ⟨z9,z19,z20,z21,v',ab',D',t,f,rfl,hZ,b1,b2,b3,b4⟩
   rw[b4]at hq2
   exact openRecs hZ b1 b2 b3 hq2
end
end Go.AM.Fd

set_option linter.unusedSimpArgs false
set_option linter.unusedVariables false
namespace Go.AM.Fd
open Nat (reduceAdd reduceEqDiff reduceLT reduceLeDiff reduceMul reduceSub)
open Go.Proofs Go.AM.F
theorem perm4{α:Type}(a b c d e:List α):(a++(b++(c++(d++e)))).Perm (d++(c++(b++(a++e)))):=by
 classical exact List.perm_iff_count.2 fun x=>by simp only[List.count_append];omega
section
variable {K:AHeap} {b sb:Nat} {v:Value} {ab:Option Nat} {D:Dk}
set_option maxRecDepth 20000 in
theorem t13(h:DkR K b sb v ab D)(hs:D.st<999999)(hm:D.op.length<999999):∃w K',ARun Go.Proofs.Tryz.prog 0 13 [ptr b 0] K w K'∧OpenR (dkT b sb v ab D) K K' b sb (openW D) w:=by
 refine walk2 f13_ok f13_n ?_
 intro Q hq1 hq2
 obtain⟨K1,hK1⟩:∃Y,Y=K.alloc (.cells true false 1 [.pointer none] 29):=⟨_,rfl⟩
 obtain⟨K2,hK2⟩:∃Y,Y=K1.alloc (.cells true false 1 [.int .i64 0] 30):=⟨_,rfl⟩
 have n1:K1.n=K.n+1:=by rw[hK1];rfl
 have n2:K2.n=K.n+2:=by rw[hK2,alloc_n,n1]
 have k1:Keeps K K1:=by rw[hK1];exact(Keeps.refl K).alloc _
 have k2:Keeps K1 K2:=by rw[hK2];exact(Keeps.refl K1).alloc _
 have g0:K1.get K.n=some (.cells true false 1 [.pointer none] 29):=by rw[hK1];exact AHeap.get_alloc_new K _
 have g0':=k2.at_ g0
 have g1:K2.get (K.n+1)=some (.cells true false 1 [.int .i64 0] 30):=by rw[hK2,←n1];exact AHeap.get_alloc_new K1 _
 have h2:=(h.s.keeps k1).keeps k2
 have hd:DkR K2 b sb v ab D:=⟨h2,h.ok⟩
 have u2:=Upd.keeps h.s (k1.trans k2)
 have l0:=AHeap.get_lt g0'
 have l1:=AHeap.get_lt g1
 have fin:∀e:Int,((K2.set K.n (.cells true false 1 [.pointer none] 29)).set (K.n+1) (.cells true false 1 [.int .i64 e] 30)).get K.n=some (.cells true false 1 [.pointer none] 29)∧((K2.set K.n (.cells true false 1 [.pointer none] 29)).set (K.n+1) (.cells true false 1 [.int .i64 e] 30)).get (K.n+1)=some (.cells true false 1 [.int .i64 e] 30)∧
  Upd (dkT b sb v ab D) (dkT b sb v ab D) K ((K2.set K.n (.cells true false 1 [.pointer none] 29)).set (K.n+1) (.cells true false 1 [.int .i64 e] 30)):=fun e=>by
  refine⟨?_,?_,?_⟩
  ·rw[AHeap.get_set_other _ (by omega) (by rw[set_n];exact l1)]
   exact AHeap.get_set_same g0' _
  ·refine AHeap.get_set_same (o:=.cells true false 1 [.int .i64 0] 30) ?_ _
   rw[AHeap.get_set_other _ (by omega) l0];exact g1
  ·have c:=((Chg.refl [K.n,K.n+1] K2).trans (Chg.set K2 l0 (.cells true false 1 [.pointer none] 29)) (by simp)).trans (Chg.set (K2.set K.n (.cells true false 1 [.pointer none] 29)) (b:=K.n+1) (by rw[set_n];exact l1) (.cells true false 1 [.int .i64 e] 30)) (by simp)
   refine Upd.keeps h.s ⟨by have:=(k1.trans k2).n;simp only[set_n];omega,fun y hy=>?_⟩
   rw[c.get _ (by omega) (by simp;omega)]
   exact(k1.trans k2).get y hy
 have hfb:fillA [.pointer none,.int .i64 0,.int .i64 0,.slice none 0 0,.int .i64 0] [(0,1,ptr b 0)]=some [ptr b 0,.int .i64 0,.int .i64 0,.slice none 0 0,.int .i64 0]:=rfl
 by_cases c0:D.bl.length<3∨D.off=true
 case neg=>
  obtain⟨c1,c2⟩:=not_or.1 c0
  have c3:D.off=false:=by simpa using c2
  have d1:¬((D.bl.length:Nat):Int)<3:=by omega
  refine W_part 4 (fun fr X=>∃x5 x6 x7 x8 x9 x10 x11 x12 x13 x14 x15 x16 x17 x18 x19 x20 x21 x22 x23 x24 x25 x26 x27 x28,fr=[ptr b 0,ptr K.n 0,ptr (K.n+1) 0,ptr (K.n+3) 0,.bool true,x5,x6,x7,x8,x9,x10,x11,x12,x13,x14,x15,x16,x17,x18,x19,x20,x21,x22,x23,x24,x25,x26,x27,x28]∧OS (dkT b sb v ab D) K X b sb v ab (.slice none 0 0) [] D ⟨0,0,[],0⟩) (by kernel_rfl) ?_ ?_
  ·intro Q' hk hex hret
   simp(disch:=first|assumption|omega|(simp only[LN]<;>omega)|(simp(disch:=first|assumption|omega|(simp only[LN]<;>omega))only[row_alloc,row_set];assumption))only[f13,P3,↓reduceIte,reduceAdd,reduceEqDiff,reduceCtorEq,initFr,reduceLT,clsA,reduceLeDiff,reduceMul,reduceSub,reduceIte,cpre]
   rw[←hK1,←hK2,W_block]
   simp(disch:=first|assumption|omega|(simp only[LN]<;>omega)|(simp(disch:=first|assumption|omega|(simp only[LN]<;>omega))only[row_alloc,row_set];assumption))only[P3,↓reduceIte,reduceAdd,reduceEqDiff,reduceCtorEq,initFr,reduceLT,clsA,reduceLeDiff,reduceMul,reduceSub,reduceIte]
   refine callK (t65 hd) ?_
   rintro _ X ⟨rfl,hX⟩
   rw[hX]
   simp(disch:=first|assumption|omega|(simp only[LN]<;>omega)|(simp(disch:=first|assumption|omega|(simp only[LN]<;>omega))only[row_alloc,row_set];assumption))only[W_block,P3,↓reduceIte,reduceAdd,reduceEqDiff,reduceCtorEq,initFr,reduceLT,clsA,reduceLeDiff,reduceMul,reduceSub,reduceIte]
   refine callK (t66 hd) ?_
   rintro _ X ⟨rfl,hX⟩
   rw[hX,c3]
   simp(disch:=first|assumption|omega|(simp only[LN]<;>omega)|(simp(disch:=first|assumption|omega|(simp only[LN]<;>omega))only[row_alloc,row_set];assumption))only[W_block,P3,↓reduceIte,reduceAdd,reduceEqDiff,reduceCtorEq,initFr,reduceLT,clsA,reduceLeDiff,reduceMul,reduceSub,reduceIte,hfb]
   obtain⟨K3,hK3⟩:∃Y,Y=K2.alloc (.cells true false 5 [ptr b 0,.int .i64 0,.int .i64 0,.slice none 0 0,.int .i64 0] 116):=⟨_,rfl⟩
   have n3:K3.n=K.n+3:=by rw[hK3,alloc_n,n2]
   have k3:Keeps K2 K3:=by rw[hK3];exact(Keeps.refl K2).alloc _
   have g3:K3.get (K.n+2)=some (.cells true false 5 [ptr b 0,.int .i64 0,.int .i64 0,.slice none 0 0,.int .i64 0] 116):=by rw[hK3,←n2];exact AHeap.get_alloc_new K2 _
   rw[←hK3,n2]
   obtain⟨K4,hK4⟩:∃Y,Y=K3.alloc (.cells true false 1 [ptr (K.n+2) 0] 29):=⟨_,rfl⟩
   have k4:Keeps K3 K4:=by rw[hK4];exact(Keeps.refl K3).alloc _
   have g4:K4.get (K.n+3)=some (.cells true false 1 [ptr (K.n+2) 0] 29):=by rw[hK4,←n3];exact AHeap.get_alloc_new K3 _
   rw[←hK4]
   have s0:=Upd.add (t:=thB K.n (.cells true false 1 [.pointer none] 29)) (Upd.refl h.s) k1 g0 (by simp[thB])
   have s1:=Upd.add (t:=thB (K.n+1) (.cells true false 1 [.int .i64 0] 30)) s0 k2 g1 (by simp[thB];omega)
   have s2:=Upd.add (t:=thB (K.n+2) (.cells true false 5 (lgC b (.slice none 0 0) ⟨0,0,[],0⟩) 116)) s1 k3 g3 (by simp[thB];omega)
   have s3:=Upd.add (t:=thB (K.n+3) (.cells true false 1 [ptr (K.n+2) 0] 29)) s2 k4 g4 (by simp[thB];omega)
   have s4:=Upd.add (t:=thI []) s3 (Keeps.refl K4) (fun z hz=>by cases hz) (by simp[thI])
   have s5:=Upd.add (t:=thO 38 1 (.slice none 0 0) 0 []) s4 (Keeps.refl K4) (WO.nil _ _ _) (fun z hz=>by cases hz)
   refine hk _ _ ⟨_,_,_,_,_,_,_,_,_,_,_,_,_,_,_,_,_,_,_,_,_,_,_,_,rfl,⟨s5.permR ?_,h.ok,by omega,rfl⟩⟩
   exact perm4 [thO 38 1 (.slice none 0 0) 0 [],thI []] [thB (K.n+3) (.cells true false 1 [ptr (K.n+2) 0] 29),thB (K.n+2) (.cells true false 5 (lgC b (.slice none 0 0) ⟨0,0,[],0⟩) 116)] [thB (K.n+1) (.cells true false 1 [.int .i64 0] 30)] [thB K.n (.cells true false 1 [.pointer none] 29)] (dkT b sb v ab D)
  ·rintro fr X ⟨x5,x6,x7,x8,x9,x10,x11,x12,x13,x14,x15,x16,x17,x18,x19,x20,x21,x22,x23,x24,x25,x26,x27,x28,rfl,hO⟩
   exact openHead hO hs hm c3 (by omega) hq2
 simp(disch:=first|assumption|omega|(simp only[LN]<;>omega)|(simp(disch:=first|assumption|omega|(simp only[LN]<;>omega))only[row_alloc,row_set];assumption))only[f13,P3,↓reduceIte,reduceAdd,reduceEqDiff,reduceCtorEq,initFr,reduceLT,clsA,reduceLeDiff,reduceMul,reduceSub,reduceIte]
 rw[←hK1,←hK2,W_block]
 simp(disch:=first|assumption|omega|(simp only[LN]<;>omega)|(simp(disch:=first|assumption|omega|(simp only[LN]<;>omega))only[row_alloc,row_set];assumption))only[P3,↓reduceIte,reduceAdd,reduceEqDiff,reduceCtorEq,initFr,reduceLT,clsA,reduceLeDiff,reduceMul,reduceSub,reduceIte]
 refine callK (t65 hd) ?_
 rintro _ X ⟨rfl,hX⟩
 rw[hX]
 by_cases c1:D.bl.length<3
 ·have d1:((D.bl.length:Nat):Int)<3:=by omega
  have e:openW D=(D,none,2):=by unfold openW;rw[if_pos c1]
  rw[e]at hq2
  simp(disch:=first|assumption|omega|(simp only[LN]<;>omega)|(simp(disch:=first|assumption|omega|(simp only[LN]<;>omega))only[row_alloc,row_set];assumption))only[W_block,P3,↓reduceIte,reduceAdd,reduceEqDiff,reduceCtorEq,initFr,reduceLT,clsA,reduceLeDiff,reduceMul,reduceSub,reduceIte,g0',g1]
  obtain⟨f1,f2,f3⟩:=fin 2
  exact hq2 _ _ ⟨_,resW rfl rfl f1 f2,rfl,h.ok,v,ab,f3⟩
 ·have d1:¬((D.bl.length:Nat):Int)<3:=by omega
  simp(disch:=first|assumption|omega|(simp only[LN]<;>omega)|(simp(disch:=first|assumption|omega|(simp only[LN]<;>omega))only[row_alloc,row_set];assumption))only[W_block,P3,↓reduceIte,reduceAdd,reduceEqDiff,reduceCtorEq,initFr,reduceLT,clsA,reduceLeDiff,reduceMul,reduceSub,reduceIte]
  refine callK (t66 hd) ?_
  rintro _ X ⟨rfl,hX⟩
  rw[hX]
  by_cases c2:D.off=true
  ·have e:openW D=(D,none,140):=by unfold openW;rw[if_neg c1,if_pos c2]
   rw[e]at hq2
   rw[c2]
   simp(disch:=first|assumption|omega|(simp only[LN]<;>omega)|(simp(disch:=first|assumption|omega|(simp only[LN]<;>omega))only[row_alloc,row_set];assumption))only[W_block,P3,↓reduceIte,reduceAdd,reduceEqDiff,reduceCtorEq,initFr,reduceLT,clsA,reduceLeDiff,reduceMul,reduceSub,reduceIte,g0',g1]
   obtain⟨f1,f2,f3⟩:=fin 140
   exact hq2 _ _ ⟨_,resW rfl rfl f1 f2,rfl,h.ok,v,ab,f3⟩
  ·exact absurd c0 (not_or.2 ⟨c1,c2⟩)
end
end Go.AM.Fd
