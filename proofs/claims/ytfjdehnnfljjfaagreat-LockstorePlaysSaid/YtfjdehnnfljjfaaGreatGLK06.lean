/- Part of the proof. -/
import Derived.Test.YtfjdehnnfljjfaaGreatGLK05
set_option linter.unusedSimpArgs false
set_option linter.unusedVariables false
set_option linter.unusedSimpArgs false
set_option linter.unusedVariables false
namespace Go.AM.Fd
open Nat (reduceAdd reduceEqDiff reduceLT reduceLeDiff reduceMul reduceSub)
open Go.Proofs Go.AM.F
theorem Put.trans{A B C:AHeap}{b bv bv':Nat}{l:List UInt8}(hl:bv<A.n)(h1:bv'=bv∨A.n≤bv')(k:Chg [b,bv] A B)(h2:Put B C b bv' l):Put A C b bv l:=by
 obtain⟨bw,w,hb,k2⟩:=h2
 refine⟨bw,w,?_,⟨Nat.le_trans k.n k2.n,fun x hx hn=>?_⟩⟩
 ·have:=k.n;omega
 ·simp only[List.mem_cons,List.not_mem_nil,or_false,not_or]at hn
  rw[k2.get x (Nat.lt_of_lt_of_le hx k.n) (by simp;omega),k.get x hx (by simp;omega)]
def nsB(l:List Int):List UInt8:=l.flatMap fun n=>be 8 n.toNat
theorem nsB_len(l:List Int):(nsB l).length=8*l.length:=by
 induction l with
 |nil=>rfl
 |cons x l ih=>
  rw[nsB,List.flatMap_cons,List.length_append,be_length,List.length_cons]
  have:(l.flatMap fun n=>be 8 n.toNat).length=8*l.length:=ih
  omega
theorem t135{H:AHeap}{b bv:Nat}{l:List UInt8}(h:WS H b bv l){v:Value}{ns:List Int}(hs:Sl H 1 v (II ns))(hv:∀y,blk v=some y→y≠b∧y≠bv)(hn:∀n∈ns,0≤n∧n≤4611686018427387904)(hl:l.length≤10000000)(hnl:ns.length≤1000):
 ∃w H',ARun Go.Proofs.Tryz.prog 0 135 [ptr b 0,v] H w H'∧Put H H' b bv (l++nsB ns):=by
 refine walk2 f135_ok f135_n ?_
 intro Q hq1 hq2
 have his:=hs.is
 have hlen:=hs.len
 rw[II,List.length_map]at hlen
 have hlt:=h.lt
 simp(disch:=first|assumption|omega|(simp only[LN]<;>omega)|(simp(disch:=first|assumption|omega|(simp only[LN]<;>omega))only[row_alloc,row_set];assumption))only[f135,W_block,P3,↓reduceIte,reduceAdd,reduceEqDiff,reduceCtorEq,initFr,reduceLT,clsA,reduceLeDiff,reduceMul,reduceSub,reduceIte,hlen]
 refine W_loop2 (fun q fr K=>∃(i bw:Nat) (c e:Value),i≤ns.length∧q=ns.length-i∧WS K b bw (l++nsB (ns.take i))∧(bw=bv∨H.n≤bw)∧Chg [b,bv] H K∧fr=[ptr b 0,v,c,v,.int .i64 ns.length,.int .i64 i,e]) ns.length ⟨0,bv,undef,undef,by omega,rfl,by simpa[nsB]using h,.inl rfl,Chg.refl _ _,rfl⟩ ?_
 rintro Q' q fr K ⟨i,bw,c,e,hi,rfl,hw,hbw,kK,rfl⟩ hn' he hrt
 have nK:=kK.n
 by_cases hc:i<ns.length
 ·obtain⟨hnn,hrow⟩:=(hs.chg kK (fun y hy=>by have:=hv y hy;simp;omega)).at_ (by omega) (i:=i) (by simpa[II]using hc)
  simp only[II,List.getElem_map]at hrow
  have hb:=hn _ (List.getElem_mem hc)
  have hwr:IntKind.u64.wrap ns[i]=((ns[i].toNat:Nat):Int):=by rw[wrap_u64];omega
  simp(disch:=first|assumption|omega|(simp only[LN]<;>omega)|(simp(disch:=first|assumption|omega|(simp only[LN]<;>omega))only[row_alloc,row_set];assumption))only[W_block,P3,↓reduceIte,reduceAdd,reduceEqDiff,reduceCtorEq,initFr,reduceLT,clsA,reduceLeDiff,reduceMul,reduceSub,reduceIte,hwr]
  refine callK (t150 hw ns[i].toNat (by omega) (by
   rw[List.length_append,nsB_len,List.length_take];omega)) ?_
  rintro w K2 ⟨bw2,hw2,hb2,k2⟩
  simp(disch:=first|assumption|omega|(simp only[LN]<;>omega)|(simp(disch:=first|assumption|omega|(simp only[LN]<;>omega))only[row_alloc,row_set];assumption))only[W_block,P3,↓reduceIte,reduceAdd,reduceEqDiff,reduceCtorEq,initFr,reduceLT,clsA,reduceLeDiff,reduceMul,reduceSub,reduceIte,wrap_succ (n:=i) (by omega)]
  refine hn' _ _ _ ⟨i+1,bw2,_,_,by omega,rfl,?_,by have:=hw.lt;omega,?_,rfl⟩ (by omega)
  ·rw[List.take_succ_eq_append_getElem hc,nsB,List.flatMap_append]
   simp only[List.flatMap_cons,List.flatMap_nil,List.append_nil,←List.append_assoc]
   rw[←nsB]
   exact hw2
  ·refine⟨Nat.le_trans kK.n k2.n,fun x hx hxn=>?_⟩
   simp only[List.mem_cons,List.not_mem_nil,or_false,not_or]at hxn
   rw[k2.get x (by omega) (by simp;omega),kK.get x hx (by simp;omega)]
 ·simp(disch:=first|assumption|omega|(simp only[LN]<;>omega)|(simp(disch:=first|assumption|omega|(simp only[LN]<;>omega))only[row_alloc,row_set];assumption))only[W_block,P3,↓reduceIte,reduceAdd,reduceEqDiff,reduceCtorEq,initFr,reduceLT,clsA,reduceLeDiff,reduceMul,reduceSub,reduceIte]
  refine he _ _ _ ?_
  simp(disch:=first|assumption|omega|(simp only[LN]<;>omega)|(simp(disch:=first|assumption|omega|(simp only[LN]<;>omega))only[row_alloc,row_set];assumption))only[W_block,P3,↓reduceIte,reduceAdd,reduceEqDiff,reduceCtorEq,initFr,reduceLT,clsA,reduceLeDiff,reduceMul,reduceSub,reduceIte]
  rw[List.take_of_length_le (by omega)]at hw
  exact hq1 _ _ ⟨_,rfl,bw,hw,hbw,kK⟩
theorem cSt_0(x:St):(cSt x)[0]? =some (.int .u64 (x.a:Nat)):=rfl
theorem cSt_1(x:St):(cSt x)[1]? =some (.int .u64 (x.b:Nat)):=rfl
theorem cSt_2(x:St):(cSt x)[2]? =some (.int .u64 (x.c:Nat)):=rfl
theorem cSt_67{x:St}(h:x.t.length=64):(cSt x)[67]? =some (.int .u32 (x.p:Nat)):=by
 simp only[cSt,List.getElem?_cons_succ]
 rw[List.getElem?_append_right (by rw[cellsOf_length];omega),cellsOf_length,h]
 rfl
theorem cSt_t{x:St}(h:x.t.length=64):((cSt x).drop 3).take 64=cellsOf x.t:=by
 simp only[cSt,List.drop_succ_cons,List.drop_zero]
 rw[←h,←cellsOf_length x.t,List.take_left]
theorem bs_st{H:AHeap}{x:St}(h:x.t.length=64){b e esz:Nat}{own room:Bool}(g:H.get b=some (.cells own room esz (cSt x) e)):BS H (slc b 3 64 64) x.t:=by
 refine⟨⟨some ⟨b,3,none⟩,64,by rw[h];rfl⟩,?_⟩
 simp only[elemsA,slc,g,Nat.mul_one]
 rw[if_pos (by rw[cSt_len h];omega),cSt_t h]
theorem t136{H:AHeap}{b bv:Nat}{l:List UInt8}(h:WS H b bv l){x:St}(hx:rgSt x)(hl:l.length≤10000000):
 ∃w H',ARun Go.Proofs.Tryz.prog 0 136 [ptr b 0,.agg (cSt x).toArray] H w H'∧Put H H' b bv (l++enSt x):=by
 refine walk2 f136_ok f136_n ?_
 intro Q hq1 hq2
 have lx:=cSt_len hx.ht
 have ox:=cSt_one x
 have ht:=hx.ht
 have hlt:=h.lt
 have k0:=(Keeps.refl H).alloc (.cells true false 68 (cSt x) 89)
 have g:=AHeap.get_alloc_new H (.cells true false 68 (cSt x) 89)
 simp(disch:=first|assumption|omega|(simp only[LN]<;>omega)|(simp(disch:=first|assumption|omega|(simp only[LN]<;>omega))only[row_alloc,row_set];assumption))only[f136,W_block,P3,↓reduceIte,reduceAdd,reduceEqDiff,reduceCtorEq,initFr,reduceLT,clsA,reduceLeDiff,reduceMul,reduceSub,reduceIte,ox]
 obtain⟨Ha,hHa⟩:∃X,X=H.alloc (.cells true false 68 (cSt x) 89):=⟨_,rfl⟩
 rw[←hHa]at k0 g ⊢
 have la:=AHeap.get_lt g
 simp(disch:=first|assumption|omega|(simp only[LN]<;>omega)|(simp(disch:=first|assumption|omega|(simp only[LN]<;>omega))only[row_alloc,row_set];assumption))only[W_block,P3,↓reduceIte,reduceAdd,reduceEqDiff,reduceCtorEq,initFr,reduceLT,clsA,reduceLeDiff,reduceMul,reduceSub,reduceIte,cSt_0]
 refine callK (t150 (h.chg (k0.chg []) (by simp) (by simp)) x.a hx.ha (by omega)) ?_
 rintro _ K1 ⟨b1,w1,hb1,d1⟩
 simp(disch:=first|assumption|omega|(simp only[LN]<;>omega)|(simp(disch:=first|assumption|omega|(simp only[LN]<;>omega))only[row_alloc,row_set];assumption))only[Chg2.get d1,W_block,P3,↓reduceIte,reduceAdd,reduceEqDiff,reduceCtorEq,initFr,reduceLT,clsA,reduceLeDiff,reduceMul,reduceSub,reduceIte,g,cSt_1]
 have n1:=d1.n
 refine callK (t150 w1 x.b hx.hb (by simp[be_length];omega)) ?_
 rintro _ K2 ⟨b2,w2,hb2,d2⟩
 have n2:=d2.n
 simp(disch:=first|assumption|omega|(simp only[LN]<;>omega)|(simp(disch:=first|assumption|omega|(simp only[LN]<;>omega))only[row_alloc,row_set];assumption))only[Chg2.get d1,Chg2.get d2,W_block,P3,↓reduceIte,reduceAdd,reduceEqDiff,reduceCtorEq,initFr,reduceLT,clsA,reduceLeDiff,reduceMul,reduceSub,reduceIte,g,cSt_2]
 refine callK (t150 w2 x.c hx.hc (by simp[be_length];omega)) ?_
 rintro _ K3 ⟨b3,w3,hb3,d3⟩
 have n3:=d3.n
 have g3:K3.get H.n=some (.cells true false 68 (cSt x) 89):=by
  rw[Chg2.get d3 (by omega) (by omega) (by omega),Chg2.get d2 (by omega) (by omega) (by omega),Chg2.get d1 (by omega) (by omega) (by omega)];exact g
 simp(disch:=first|assumption|omega|(simp only[LN]<;>omega)|(simp(disch:=first|assumption|omega|(simp only[LN]<;>omega))only[row_alloc,row_set];assumption))only[W_block,P3,↓reduceIte,reduceAdd,reduceEqDiff,reduceCtorEq,initFr,reduceLT,clsA,reduceLeDiff,reduceMul,reduceSub,reduceIte,a_slarr0]
 refine callK (t152 w3 (bs_st ht g3) (by simp[be_length];omega)) ?_
 rintro _ K4 ⟨b4,w4,hb4,d4⟩
 have n4:=d4.n
 simp(disch:=first|assumption|omega|(simp only[LN]<;>omega)|(simp(disch:=first|assumption|omega|(simp only[LN]<;>omega))only[row_alloc,row_set];assumption))only[Chg2.get d4,W_block,P3,↓reduceIte,reduceAdd,reduceEqDiff,reduceCtorEq,initFr,reduceLT,clsA,reduceLeDiff,reduceMul,reduceSub,reduceIte,g3,cSt_67 ht]
 refine callK (t153 w4 x.p hx.hp (by simp[be_length];omega)) ?_
 rintro _ K5 p5
 simp(disch:=first|assumption|omega|(simp only[LN]<;>omega)|(simp(disch:=first|assumption|omega|(simp only[LN]<;>omega))only[row_alloc,row_set];assumption))only[W_block,P3,↓reduceIte,reduceAdd,reduceEqDiff,reduceCtorEq,initFr,reduceLT,clsA,reduceLeDiff,reduceMul,reduceSub,reduceIte]
 refine hq1 _ _ ⟨_,rfl,?_⟩
 have e:l++enSt x=l++be 8 x.a++be 8 x.b++be 8 x.c++x.t++be 4 x.p:=by simp[enSt,List.append_assoc]
 rw[e]
 exact Put.trans hlt.2 (.inl rfl) (k0.chg _) (Put.trans (by omega) hb1 d1 (Put.trans (by have:=w1.lt;omega) hb2 d2 (Put.trans (by have:=w2.lt;omega) hb3 d3 (Put.trans (by have:=w3.lt;omega) hb4 d4 p5))))
def CLO(H:AHeap)(g:Nat)(cap:Value)(pre body:List UInt8):Prop:=
 ∀(H1:AHeap) (b bv:Nat),Keeps H H1→H.n≤b→H.n≤bv→WS H1 b bv pre→∃w H',ARun Go.Proofs.Tryz.prog 0 g [ptr b 0,cap] H1 w H'∧Put H1 H' b bv (pre++body)
theorem blk_slc_eq{b o n k y:Nat}(h:blk (slc b o n k)=some y):y=b:=by cases h;rfl
theorem WS.alloc{H:AHeap}{b bv:Nat}{l:List UInt8}(h:WS H b bv l)(o:AO):WS (H.alloc o) b bv l:=h.chg (((Keeps.refl H).alloc o).chg []) (by simp) (by simp)
theorem Chg2.al{H K:AHeap}{b bv:Nat}{o:AO}(d:Chg [b,bv] (H.alloc o) K):Chg [b,bv] H K:=⟨Nat.le_trans (by rw[alloc_n];omega) d.n,fun x hx hn=>by rw[d.get x (by rw[alloc_n];omega) hn,AHeap.get_alloc_old _ _ hx]⟩
theorem or_al{H:AHeap}{b bv:Nat}{o:AO}(h:b=bv∨(H.alloc o).n≤b):b=bv∨H.n≤b:=by rw[alloc_n]at h;omega
theorem cLo_0(x:Lo):(cLo x)[0]? =some (.int .i64 x.e):=rfl
theorem cLo_1(x:Lo):(cLo x)[1]? =some (.int .i64 x.c):=rfl
theorem cLo_s{x:Lo}(h:x.s.t.length=64):((cLo x).drop 2).take 68=cSt x.s:=by
 simp only[cLo,List.drop_succ_cons,List.drop_zero]
 exact List.take_of_length_le (by rw[cSt_len h];omega)
theorem t134{H:AHeap}{p:Nat}{x:Lo}(g:H.get p=some (.cells true false 70 (cLo x) 162))(hx:rgSt x.s)(hok:okLo x=true)(pre:List UInt8)(hp:pre.length≤1000):CLO H 134 (ptr p 0) pre (enLo x):=by
 intro H1 b bv k1 hb hbv w
 have hok':=hok
 simp only[okLo,Bool.and_eq_true,cyB_iff]at hok'
 refine walk2 f134_ok f134_n ?_
 intro Q hq1 hq2
 have lpH:=AHeap.get_lt g
 have g:=k1.at_ g
 have lp:=AHeap.get_lt g
 have hlt:=w.lt
 have lx:=cLo_len hx.ht
 simp(disch:=first|assumption|omega|(simp only[LN]<;>omega)|(simp(disch:=first|assumption|omega|(simp only[LN]<;>omega))only[row_alloc,row_set];assumption))only[f134,W_block,P3,↓reduceIte,reduceAdd,reduceEqDiff,reduceCtorEq,initFr,reduceLT,clsA,reduceLeDiff,reduceMul,reduceSub,reduceIte,g,cLo_0,cLo_1,fillII]
 refine callK (t135 (w.alloc _) (sl2 _ _ _ _) (by intro y hy;have:=blk_slc_eq hy;omega) (by simp;omega) (by omega) (by simp)) ?_
 rintro _ K2 ⟨b2,w2,hb2,d2⟩
 have hb2:=or_al hb2
 have d2:=Chg2.al d2
 have n2:=d2.n
 simp(disch:=first|assumption|omega|(simp only[LN]<;>omega)|(simp(disch:=first|assumption|omega|(simp only[LN]<;>omega))only[row_alloc,row_set];assumption))only[Chg2.get d2,W_block,P3,↓reduceIte,reduceAdd,reduceEqDiff,reduceCtorEq,initFr,reduceLT,clsA,reduceLeDiff,reduceMul,reduceSub,reduceIte,g,cLo_s hx.ht]
 refine callK (t136 w2 hx (by simp[nsB_len];omega)) ?_
 rintro _ K3 p3
 simp(disch:=first|assumption|omega|(simp only[LN]<;>omega)|(simp(disch:=first|assumption|omega|(simp only[LN]<;>omega))only[row_alloc,row_set];assumption))only[W_block,P3,↓reduceIte,reduceAdd,reduceEqDiff,reduceCtorEq,initFr,reduceLT,clsA,reduceLeDiff,reduceMul,reduceSub,reduceIte]
 refine hq1 _ _ ⟨_,rfl,?_⟩
 have e:pre++enLo x=pre++nsB [x.e,x.c]++enSt x.s:=by simp[enLo,nsB,List.append_assoc]
 rw[e]
 exact Put.trans hlt.2 hb2 d2 p3
end Go.AM.Fd

set_option linter.unusedSimpArgs false
set_option linter.unusedVariables false
namespace Go.AM.Fd
open Nat (reduceAdd reduceEqDiff reduceLT reduceLeDiff reduceMul reduceSub)
open Go.Proofs Go.AM.F
theorem new_ws(H:AHeap):WS (H.alloc (.cells true false 1 [.slice none 0 0] 210)) H.n H.n []:=⟨_,AHeap.get_alloc_new H _,.inl ⟨rfl,rfl,rfl⟩,.inl ⟨rfl,rfl⟩⟩
theorem be1(k:Nat):be 1 k=[UInt8.ofNat k]:=by simp[be]
def PutR(H H':AHeap)(v:Value)(l:List UInt8):Prop:=AP H' 5 1 v l.length (cellsOf l)∧Keeps H H'∧Fresh H.n v
theorem t133{H:AHeap}(k:Nat)(hk:k<256)(vi:Value)(okb:Bool)(g:Nat)(cap:Value)(body:List UInt8)(hb:body.length≤100000)
 (hmay:∃v H',ARun Go.Proofs.Tryz.prog 0 161 [vi] H v H'∧v=.bool okb∧Keeps H H') (hfill:okb=true→CLO H g cap (be 1 k) body):
 ∃v H',ARun Go.Proofs.Tryz.prog 0 133 [.int .u8 k,vi,.func (.func g) #[] #[cap]] H v H'∧PutR H H' v (if okb then chk (UInt8.ofNat k::body)else[]):=by
 refine walk2 f133_ok f133_n ?_
 intro Q hq1 hq2
 simp(disch:=first|assumption|omega|(simp only[LN]<;>omega)|(simp(disch:=first|assumption|omega|(simp only[LN]<;>omega))only[row_alloc,row_set];assumption))only[f133,W_block,P3,↓reduceIte,reduceAdd,reduceEqDiff,reduceCtorEq,initFr,reduceLT,clsA,reduceLeDiff,reduceMul,reduceSub,reduceIte]
 refine callK hmay ?_
 rintro _ H1 ⟨rfl,k1⟩
 cases okb with
 |false=>
  simp(disch:=first|assumption|omega|(simp only[LN]<;>omega)|(simp(disch:=first|assumption|omega|(simp only[LN]<;>omega))only[row_alloc,row_set];assumption))only[W_block,P3,↓reduceIte,reduceAdd,reduceEqDiff,reduceCtorEq,initFr,reduceLT,clsA,reduceLeDiff,reduceMul,reduceSub,reduceIte]
  exact hq2 _ _ ⟨_,rfl,.inl ⟨rfl,rfl,rfl⟩,k1,by intro b hb;cases hb⟩
 |true=>
  have hn1:=k1.n
  simp(disch:=first|assumption|omega|(simp only[LN]<;>omega)|(simp(disch:=first|assumption|omega|(simp only[LN]<;>omega))only[row_alloc,row_set];assumption))only[W_block,P3,↓reduceIte,reduceAdd,reduceEqDiff,reduceCtorEq,initFr,reduceLT,clsA,reduceLeDiff,reduceMul,reduceSub,reduceIte]
  have w0:=new_ws H1
  have k2:=(Keeps.refl H1).alloc (.cells true false 1 [.slice none 0 0] 210)
  obtain⟨Ha,hHa⟩:∃X,X=H1.alloc (.cells true false 1 [.slice none 0 0] 210):=⟨_,rfl⟩
  rw[←hHa]at w0 k2 ⊢
  have n2:=k2.n
  refine callK (t149 w0 k hk (by simp)) ?_
  rintro _ H3 ⟨b3,w3,hb3,d3⟩
  rw[List.nil_append]at w3
  have n3:=d3.n
  have k3:Keeps H H3:=(k1.trans k2).chg_trans d3 (by simp;omega)
  simp(disch:=first|assumption|omega|(simp only[LN]<;>omega)|(simp(disch:=first|assumption|omega|(simp only[LN]<;>omega))only[row_alloc,row_set];assumption))only[W_block,P3,↓reduceIte,reduceAdd,reduceEqDiff,reduceCtorEq,initFr,reduceLT,clsA,reduceLeDiff,reduceMul,reduceSub,reduceIte]
  refine callK (hfill rfl H3 H1.n b3 k3 (by omega) (by omega) w3) ?_
  rintro _ H4 ⟨b4,w4,hb4,d4⟩
  have n4:=d4.n
  have k4:Keeps H H4:=k3.chg_trans d4 (by simp;omega)
  have hlen:(be 1 k++body).length≤1000000:=by simp[be_length];omega
  simp(disch:=first|assumption|omega|(simp only[LN]<;>omega)|(simp(disch:=first|assumption|omega|(simp only[LN]<;>omega))only[row_alloc,row_set];assumption))only[W_block,P3,↓reduceIte,reduceAdd,reduceEqDiff,reduceCtorEq,initFr,reduceLT,clsA,reduceLeDiff,reduceMul,reduceSub,reduceIte]
  refine callK (t155 w4 (by omega)) ?_
  rintro v5 H5 ⟨a5,k5,f5⟩
  simp(disch:=first|assumption|omega|(simp only[LN]<;>omega)|(simp(disch:=first|assumption|omega|(simp only[LN]<;>omega))only[row_alloc,row_set];assumption))only[W_block,P3,↓reduceIte,reduceAdd,reduceEqDiff,reduceCtorEq,initFr,reduceLT,clsA,reduceLeDiff,reduceMul,reduceSub,reduceIte]
  refine callK (t154 a5.bs (by omega)) ?_
  rintro _ _ ⟨rfl,rfl⟩
  simp(disch:=first|assumption|omega|(simp only[LN]<;>omega)|(simp(disch:=first|assumption|omega|(simp only[LN]<;>omega))only[row_alloc,row_set];assumption))only[W_block,P3,↓reduceIte,reduceAdd,reduceEqDiff,reduceCtorEq,initFr,reduceLT,clsA,reduceLeDiff,reduceMul,reduceSub,reduceIte]
  refine callK (t153 (w4.chg (k5.chg []) (by simp) (by simp)) (crc (be 1 k++body)) (crc_lt _) (by omega)) ?_
  rintro _ H6 ⟨b6,w6,hb6,d6⟩
  have n6:=d6.n
  have n5:=k5.n
  simp(disch:=first|assumption|omega|(simp only[LN]<;>omega)|(simp(disch:=first|assumption|omega|(simp only[LN]<;>omega))only[row_alloc,row_set];assumption))only[W_block,P3,↓reduceIte,reduceAdd,reduceEqDiff,reduceCtorEq,initFr,reduceLT,clsA,reduceLeDiff,reduceMul,reduceSub,reduceIte]
  refine callK (t155 w6 (by rw[List.length_append,be_length];omega)) ?_
  rintro v7 H7 ⟨a7,k7,f7⟩
  simp(disch:=first|assumption|omega|(simp only[LN]<;>omega)|(simp(disch:=first|assumption|omega|(simp only[LN]<;>omega))only[row_alloc,row_set];assumption))only[W_block,P3,↓reduceIte,reduceAdd,reduceEqDiff,reduceCtorEq,initFr,reduceLT,clsA,reduceLeDiff,reduceMul,reduceSub,reduceIte]
  have k6:Keeps H H6:=(k4.trans k5).chg_trans d6 (by simp;omega)
  refine hq2 _ _ ⟨_,rfl,?_,k6.trans k7,fun b hb=>by have:=f7 b hb;have:=k6.n;omega⟩
  rw[be1]at a7
  exact a7
def fLo(x:Lo):List UInt8:=if okLo x then chk (4::enLo x)else[]
theorem PutR.from_{A B C:AHeap}{v:Value}{l:List UInt8}(k:Keeps A B)(h:PutR B C v l):PutR A C v l:=⟨h.1,k.trans h.2.1,fun b hb=>Nat.le_trans k.n (h.2.2 b hb)⟩
theorem t107(x:Lo)(hx:rgSt x.s)(H:AHeap):∃v H',ARun Go.Proofs.Tryz.prog 0 107 [.agg (cLo x).toArray] H v H'∧PutR H H' v (fLo x):=by
 refine walk2 f107_ok f107_n ?_
 intro Q hq1 hq2
 have lx:=cLo_len hx.ht
 have ox:=cLo_one x
 have k0:=(Keeps.refl H).alloc (.cells true false 70 (cLo x) 162)
 have g:=AHeap.get_alloc_new H (.cells true false 70 (cLo x) 162)
 simp(disch:=first|assumption|omega|(simp only[LN]<;>omega)|(simp(disch:=first|assumption|omega|(simp only[LN]<;>omega))only[row_alloc,row_set];assumption))only[f107,W_block,P3,↓reduceIte,reduceAdd,reduceEqDiff,reduceCtorEq,initFr,reduceLT,clsA,reduceLeDiff,reduceMul,reduceSub,reduceIte,ox]
 refine callK (t133 4 (by omega) _ (okLo x) 134 _ (enLo x) (by rw[enLo_len hx.ht];omega) (mayLo x hx.ht _) (fun hok=>t134 g hx hok _ (by rw[be_length];omega))) ?_
 rintro v H' p
 simp(disch:=first|assumption|omega|(simp only[LN]<;>omega)|(simp(disch:=first|assumption|omega|(simp only[LN]<;>omega))only[row_alloc,row_set];assumption))only[W_block,P3,↓reduceIte,reduceAdd,reduceEqDiff,reduceCtorEq,initFr,reduceLT,clsA,reduceLeDiff,reduceMul,reduceSub,reduceIte]
 exact hq2 _ _ ⟨_,rfl,PutR.from_ k0 p⟩
end Go.AM.Fd

set_option linter.unusedSimpArgs false
set_option linter.unusedVariables false
namespace Go.AM.Fd
open Nat (reduceAdd reduceEqDiff reduceLT reduceLeDiff reduceMul reduceSub)
open Go.Proofs Go.AM.F
def GotV(c:List Value)(e:Int):Value:=.tuple #[.agg c.toArray,.int .i64 e]
-- got{
theorem t129{H:AHeap}{lo hi r s:Nat}{l:List UInt8}(h:RR H lo hi r l s)(ok:Bool)(x:Lo)(hx:x.s.t.length=64):∃v H',ARun Go.Proofs.Tryz.prog 0 129 [ptr r 0,.bool ok,.agg (cLo x).toArray] H v H'∧Keeps H H'∧
 v=if ok=true∧l.length=s∧okLo x=true then GotV (cLo x) 0 else GotV (cLo Lo0) 130:=by
 refine walk2 f129_ok f129_n ?_
 intro Q hq1 hq2
 have hr:∀fr H',resO f129.res fr H'=(celln 70 (fr.getD 4 undef) H').map fun c=>.tuple #[c,fr.getD 5 undef]:=fun fr H'=>resCT 70 4 5 fr
 have lx:=cLo_len hx
 have ox:=cLo_one x
 have lz:Z70Q.length=70:=rfl
 have oz:Z70Q.all Value.oneCell'=true:=rfl
 cases ok with
 |false=>
  simp(disch:=first|assumption|omega|(simp only[LN]<;>omega)|(simp(disch:=first|assumption|omega|(simp only[LN]<;>omega))only[row_alloc,row_set];assumption))only[f129,W_block,P3,↓reduceIte,reduceAdd,reduceEqDiff,reduceCtorEq,initFr,reduceLT,clsA,reduceLeDiff,reduceMul,reduceSub,reduceIte,ox,oz]
  refine hq2 _ _ ⟨_,by rw[hr];simp(disch:=first|assumption|omega|(simp only[LN]<;>omega)|(simp(disch:=first|assumption|omega|(simp only[LN]<;>omega))only[row_alloc,row_set];assumption))only[W_block,P3,↓reduceIte,reduceAdd,reduceEqDiff,reduceCtorEq,initFr,reduceLT,clsA,reduceLeDiff,reduceMul,reduceSub,reduceIte];rfl,by((repeat (first|exact Keeps.refl _|assumption|refine Keeps.alloc ?_ _|(refine Keeps.set ?_ (by first|omega|(simp only[alloc_n,set_n]<;>omega)) (by first|omega|(simp only[alloc_n,set_n]<;>omega)) _)|(refine Keeps.trans' (by assumption) ?_)))),by rw[if_neg (by simp)];rfl⟩
 |true=>
  simp(disch:=first|assumption|omega|(simp only[LN]<;>omega)|(simp(disch:=first|assumption|omega|(simp only[LN]<;>omega))only[row_alloc,row_set];assumption))only[f129,W_block,P3,↓reduceIte,reduceAdd,reduceEqDiff,reduceCtorEq,initFr,reduceLT,clsA,reduceLeDiff,reduceMul,reduceSub,reduceIte,ox,oz]
  refine callK (q159 (h.keeps (by((repeat (first|exact Keeps.refl _|assumption|refine Keeps.alloc ?_ _|(refine Keeps.set ?_ (by first|omega|(simp only[alloc_n,set_n]<;>omega)) (by first|omega|(simp only[alloc_n,set_n]<;>omega)) _)|(refine Keeps.trans' (by assumption) ?_))))))) ?_
  rintro _ _ ⟨rfl,rfl⟩
  by_cases h1:l.length<s
  ·have e1:decide (l.length<s)=true:=by simp[h1]
   simp(disch:=first|assumption|omega|(simp only[LN]<;>omega)|(simp(disch:=first|assumption|omega|(simp only[LN]<;>omega))only[row_alloc,row_set];assumption))only[W_block,P3,↓reduceIte,reduceAdd,reduceEqDiff,reduceCtorEq,initFr,reduceLT,clsA,reduceLeDiff,reduceMul,reduceSub,reduceIte,ox,oz,e1]
   refine hq2 _ _ ⟨_,by rw[hr];simp(disch:=first|assumption|omega|(simp only[LN]<;>omega)|(simp(disch:=first|assumption|omega|(simp only[LN]<;>omega))only[row_alloc,row_set];assumption))only[W_block,P3,↓reduceIte,reduceAdd,reduceEqDiff,reduceCtorEq,initFr,reduceLT,clsA,reduceLeDiff,reduceMul,reduceSub,reduceIte];rfl,by((repeat (first|exact Keeps.refl _|assumption|refine Keeps.alloc ?_ _|(refine Keeps.set ?_ (by first|omega|(simp only[alloc_n,set_n]<;>omega)) (by first|omega|(simp only[alloc_n,set_n]<;>omega)) _)|(refine Keeps.trans' (by assumption) ?_)))),by rw[if_neg (by omega)];rfl⟩
  ·have e1:decide (l.length<s)=false:=by simp[h1]
   simp(disch:=first|assumption|omega|(simp only[LN]<;>omega)|(simp(disch:=first|assumption|omega|(simp only[LN]<;>omega))only[row_alloc,row_set];assumption))only[W_block,P3,↓reduceIte,reduceAdd,reduceEqDiff,reduceCtorEq,initFr,reduceLT,clsA,reduceLeDiff,reduceMul,reduceSub,reduceIte,ox,oz,e1]
   refine callK (q160 (h.keeps (by((repeat (first|exact Keeps.refl _|assumption|refine Keeps.alloc ?_ _|(refine Keeps.set ?_ (by first|omega|(simp only[alloc_n,set_n]<;>omega)) (by first|omega|(simp only[alloc_n,set_n]<;>omega)) _)|(refine Keeps.trans' (by assumption) ?_))))))) ?_
   rintro _ _ ⟨rfl,rfl⟩
   by_cases h2:l.length=s
   ·have e2:¬(0:Int)<((l.length-s:Nat):Int):=by omega
    simp(disch:=first|assumption|omega|(simp only[LN]<;>omega)|(simp(disch:=first|assumption|omega|(simp only[LN]<;>omega))only[row_alloc,row_set];assumption))only[W_block,P3,↓reduceIte,reduceAdd,reduceEqDiff,reduceCtorEq,initFr,reduceLT,clsA,reduceLeDiff,reduceMul,reduceSub,reduceIte,ox,oz,e2]
    refine callK (mayLo x hx _) ?_
    rintro _ K ⟨rfl,k⟩
    have nk:=k.n
    simp only[alloc_n,set_n]at nk
    cases h3:okLo x with
    |false=>
     simp(disch:=first|assumption|omega|(simp only[LN]<;>omega)|(simp(disch:=first|assumption|omega|(simp only[LN]<;>omega))only[row_alloc,row_set,Keeps.row k];assumption))only[Keeps.get k,Keeps.row k,W_block,P3,↓reduceIte,reduceAdd,reduceEqDiff,reduceCtorEq,initFr,reduceLT,clsA,reduceLeDiff,reduceMul,reduceSub,reduceIte,ox,oz,h3]
     refine hq2 _ _ ⟨_,by rw[hr];simp(disch:=first|assumption|omega|(simp only[LN]<;>omega)|(simp(disch:=first|assumption|omega|(simp only[LN]<;>omega))only[row_alloc,row_set,Keeps.row k];assumption))only[Keeps.get k,Keeps.row k,W_block,P3,↓reduceIte,reduceAdd,reduceEqDiff,reduceCtorEq,initFr,reduceLT,clsA,reduceLeDiff,reduceMul,reduceSub,reduceIte];rfl,by((repeat (first|exact Keeps.refl _|assumption|refine Keeps.alloc ?_ _|(refine Keeps.set ?_ (by first|omega|(simp only[alloc_n,set_n]<;>omega)) (by first|omega|(simp only[alloc_n,set_n]<;>omega)) _)|(refine Keeps.trans' (by assumption) ?_)))),by rw[if_neg (by simp[h3])];rfl⟩
    |true=>
     simp(disch:=first|assumption|omega|(simp only[LN]<;>omega)|(simp(disch:=first|assumption|omega|(simp only[LN]<;>omega))only[row_alloc,row_set,Keeps.row k];assumption))only[Keeps.get k,Keeps.row k,W_block,P3,↓reduceIte,reduceAdd,reduceEqDiff,reduceCtorEq,initFr,reduceLT,clsA,reduceLeDiff,reduceMul,reduceSub,reduceIte,ox,oz,h3]
     refine hq2 _ _ ⟨_,by rw[hr];simp(disch:=first|assumption|omega|(simp only[LN]<;>omega)|(simp(disch:=first|assumption|omega|(simp only[LN]<;>omega))only[row_alloc,row_set,Keeps.row k];assumption))only[Keeps.get k,Keeps.row k,W_block,P3,↓reduceIte,reduceAdd,reduceEqDiff,reduceCtorEq,initFr,reduceLT,clsA,reduceLeDiff,reduceMul,reduceSub,reduceIte];rfl,by((repeat (first|exact Keeps.refl _|assumption|refine Keeps.alloc ?_ _|(refine Keeps.set ?_ (by first|omega|(simp only[alloc_n,set_n]<;>omega)) (by first|omega|(simp only[alloc_n,set_n]<;>omega)) _)|(refine Keeps.trans' (by assumption) ?_)))),by rw[if_pos ⟨rfl,h2,h3⟩];rfl⟩
   ·have e2:(0:Int)<((l.length-s:Nat):Int):=by omega
    simp(disch:=first|assumption|omega|(simp only[LN]<;>omega)|(simp(disch:=first|assumption|omega|(simp only[LN]<;>omega))only[row_alloc,row_set];assumption))only[W_block,P3,↓reduceIte,reduceAdd,reduceEqDiff,reduceCtorEq,initFr,reduceLT,clsA,reduceLeDiff,reduceMul,reduceSub,reduceIte,ox,oz,e2]
    refine hq2 _ _ ⟨_,by rw[hr];simp(disch:=first|assumption|omega|(simp only[LN]<;>omega)|(simp(disch:=first|assumption|omega|(simp only[LN]<;>omega))only[row_alloc,row_set];assumption))only[W_block,P3,↓reduceIte,reduceAdd,reduceEqDiff,reduceCtorEq,initFr,reduceLT,clsA,reduceLeDiff,reduceMul,reduceSub,reduceIte];rfl,by((repeat (first|exact Keeps.refl _|assumption|refine Keeps.alloc ?_ _|(refine Keeps.set ?_ (by first|omega|(simp only[alloc_n,set_n]<;>omega)) (by first|omega|(simp only[alloc_n,set_n]<;>omega)) _)|(refine Keeps.trans' (by assumption) ?_)))),by rw[if_neg (by omega)];rfl⟩
theorem n129{H:AHeap}(x:Lo)(hx:x.s.t.length=64):∃v H',ARun Go.Proofs.Tryz.prog 0 129 [.pointer none,.bool false,.agg (cLo x).toArray] H v H'∧Keeps H H'∧v=GotV (cLo Lo0) 130:=by
 refine walk2 f129_ok f129_n ?_
 intro Q hq1 hq2
 have hr:∀fr H',resO f129.res fr H'=(celln 70 (fr.getD 4 undef) H').map fun c=>.tuple #[c,fr.getD 5 undef]:=fun fr H'=>resCT 70 4 5 fr
 have lx:=cLo_len hx
 have ox:=cLo_one x
 have lz:Z70Q.length=70:=rfl
 have oz:Z70Q.all Value.oneCell'=true:=rfl
 simp(disch:=first|assumption|omega|(simp only[LN]<;>omega)|(simp(disch:=first|assumption|omega|(simp only[LN]<;>omega))only[row_alloc,row_set];assumption))only[f129,W_block,P3,↓reduceIte,reduceAdd,reduceEqDiff,reduceCtorEq,initFr,reduceLT,clsA,reduceLeDiff,reduceMul,reduceSub,reduceIte,ox,oz]
 refine hq2 _ _ ⟨_,by rw[hr];simp(disch:=first|assumption|omega|(simp only[LN]<;>omega)|(simp(disch:=first|assumption|omega|(simp only[LN]<;>omega))only[row_alloc,row_set];assumption))only[W_block,P3,↓reduceIte,reduceAdd,reduceEqDiff,reduceCtorEq,initFr,reduceLT,clsA,reduceLeDiff,reduceMul,reduceSub,reduceIte];rfl,by((repeat (first|exact Keeps.refl _|assumption|refine Keeps.alloc ?_ _|(refine Keeps.set ?_ (by first|omega|(simp only[alloc_n,set_n]<;>omega)) (by first|omega|(simp only[alloc_n,set_n]<;>omega)) _)|(refine Keeps.trans' (by assumption) ?_)))),rfl⟩
-- }got
end Go.AM.Fd

set_option linter.unusedSimpArgs false
set_option linter.unusedVariables false
namespace Go.AM.Fd
open Nat (reduceAdd reduceEqDiff reduceLT reduceLeDiff reduceMul reduceSub)
open Go.Proofs Go.AM.F
theorem fillS(a b c:Nat):fillA Z68Q [(0,1,.int .u64 (a:Nat)),(1,1,.int .u64 (b:Nat)),(2,1,.int .u64 (c:Nat))]=some (cSt ⟨a,b,c,Z64,0⟩):=rfl
theorem fillS0:fillA Z68Q [(0,1,.int .u64 0),(1,1,.int .u64 0),(2,1,.int .u64 0)]=some (cSt St0):=rfl
theorem copy_t{H:AHeap}{b e:Nat}{x:St}{v:Value}{sg:List UInt8}(g:H.get b=some (.cells true false 68 (cSt x) e))(hx:x.t.length=64)(hv:BS H v sg)(hl:sg.length=64∨sg=[]):
 ∃w,asem (.copy 1 (slc b 3 64 64) v) H=some (w,if sg=[]then H else H.set b (.cells true false 68 (cSt {x with t:=sg}) e)):=by
 have he:=hv.el
 obtain⟨a,k,rfl⟩:=hv.sh
 have lx:=cSt_len hx
 rcases hl with hl|rfl
 ·have h0:sg≠[]:=by intro h;rw[h]at hl;simp at hl
  refine⟨.int .i64 64,?_⟩
  rw[hl]at he
  simp only[asem,slc,he,g,hl,if_neg h0,Nat.min_self,Nat.mul_one]
  rw[if_neg (by omega),if_pos ⟨trivial,by omega⟩]
  have e1:(cSt x).take 3++(cellsOf sg).take 64++(cSt x).drop (3+64)=cSt {x with t:=sg}:=by
   have e0:(cellsOf sg).take 64=cellsOf sg:=List.take_of_length_le (by rw[cellsOf_length];omega)
   rw[e0]
   simp only[cSt,List.drop_succ_cons,List.take_succ_cons,List.take_zero,Nat.reduceAdd]
   rw[List.drop_append,List.drop_of_length_le (by rw[cellsOf_length];omega),cellsOf_length,hx]
   rfl
  rw[e1]
  rfl
 ·simp only[List.length_nil]at he
  exact⟨.int .i64 0,by simp[asem,slc,he,g]⟩
theorem cSt_set67{x:St}(h:x.t.length=64)(n:Nat):(cSt x).set 67 (.int .u32 (n:Nat))=cSt {x with p:=n}:=by
 simp only[cSt,List.set_cons_succ]
 rw[List.set_append_right _ _ (by rw[cellsOf_length];omega),cellsOf_length,h]
 rfl
theorem t130{H:AHeap}{lo hi r s:Nat}{l:List UInt8}(h:RR H lo hi r l s)(hl:l.length≤1000000000):∃v H',ARun Go.Proofs.Tryz.prog 0 130 [ptr r 0] H v H'∧v=.agg (cSt (deSt l s)).toArray∧RR H' lo hi r l (s+92)∧Chg [r] H H':=by
 refine walk2 f130_ok f130_n ?_
 intro Q hq1 hq2
 have hr:∀fr H',resO f130.res fr H'=(celln 68 (fr.getD 1 undef) H'):=fun fr H'=>resC 1 68 fr
 have lz:Z68Q.length=68:=rfl
 have oz:Z68Q.all Value.oneCell'=true:=rfl
 have hrh:=h.2.2.1
 have hr1:=h.2.1
 have k0:=(Keeps.refl H).alloc (.cells true false 68 Z68Q 89)
 have g0:=AHeap.get_alloc_new H (.cells true false 68 Z68Q 89)
 simp(disch:=first|assumption|omega|(simp only[LN]<;>omega)|(simp(disch:=first|assumption|omega|(simp only[LN]<;>omega))only[row_alloc,row_set];assumption))only[f130,W_block,P3,↓reduceIte,reduceAdd,reduceEqDiff,reduceCtorEq,initFr,reduceLT,clsA,reduceLeDiff,reduceMul,reduceSub,reduceIte,oz]
 obtain⟨Ha,hHa⟩:∃X,X=H.alloc (.cells true false 68 Z68Q 89):=⟨_,rfl⟩
 rw[←hHa]at k0 g0 ⊢
 have l0:=AHeap.get_lt g0
 have n0:=k0.n
 refine callK (q116 (h.keeps k0) hl) ?_
 rintro _ K1 ⟨rfl,r1,c1⟩
 have n1:=c1.n
 simp(disch:=first|assumption|omega|(simp only[LN]<;>omega)|(simp(disch:=first|assumption|omega|(simp only[LN]<;>omega))only[row_alloc,row_set];assumption))only[W_block,P3,↓reduceIte,reduceAdd,reduceEqDiff,reduceCtorEq,initFr,reduceLT,clsA,reduceLeDiff,reduceMul,reduceSub,reduceIte]
 refine callK (q116 r1 hl) ?_
 rintro _ K2 ⟨rfl,r2,c2⟩
 have n2:=c2.n
 simp(disch:=first|assumption|omega|(simp only[LN]<;>omega)|(simp(disch:=first|assumption|omega|(simp only[LN]<;>omega))only[row_alloc,row_set];assumption))only[W_block,P3,↓reduceIte,reduceAdd,reduceEqDiff,reduceCtorEq,initFr,reduceLT,clsA,reduceLeDiff,reduceMul,reduceSub,reduceIte]
 refine callK (q116 r2 hl) ?_
 rintro _ K3 ⟨rfl,r3,c3⟩
 have n3:=c3.n
 have l1:(cSt ⟨na l s 8,na l (s+8) 8,na l (s+8+8) 8,Z64,0⟩).length=68:=cSt_len rfl
 have o1:=cSt_one ⟨na l s 8,na l (s+8) 8,na l (s+8+8) 8,Z64,0⟩
 simp(disch:=first|assumption|omega|(simp only[LN]<;>omega)|(simp(disch:=first|assumption|omega|(simp only[LN]<;>omega))only[row_alloc,row_set];assumption))only[W_block,P3,↓reduceIte,reduceAdd,reduceEqDiff,reduceCtorEq,initFr,reduceLT,clsA,reduceLeDiff,reduceMul,reduceSub,reduceIte,fillS,o1,oz]
 obtain⟨Kb,hKb⟩:∃X,X=K3.alloc (.cells true false 68 (cSt ⟨na l s 8,na l (s+8) 8,na l (s+8+8) 8,Z64,0⟩) 89):=⟨_,rfl⟩
 have kb:=(Keeps.refl K3).alloc (.cells true false 68 (cSt ⟨na l s 8,na l (s+8) 8,na l (s+8+8) 8,Z64,0⟩) 89)
 have gb:=AHeap.get_alloc_new K3 (.cells true false 68 (cSt ⟨na l s 8,na l (s+8) 8,na l (s+8+8) 8,Z64,0⟩) 89)
 rw[←hKb]at kb gb ⊢
 have nb:=kb.n
 have lb:=AHeap.get_lt gb
 simp(disch:=first|assumption|omega|(simp only[LN]<;>omega)|(simp(disch:=first|assumption|omega|(simp only[LN]<;>omega))only[row_alloc,row_set];assumption))only[W_block,P3,↓reduceIte,reduceAdd,reduceEqDiff,reduceCtorEq,initFr,reduceLT,clsA,reduceLeDiff,reduceMul,reduceSub,reduceIte,a_slarr0]
 refine callK (q119 (r3.keeps kb) 64 hl) ?_
 rintro v4 K4 ⟨B4,r4,c4,hv4⟩
 have n4:=c4.n
 have g4:K4.get K3.n=some (.cells true false 68 (cSt ⟨na l s 8,na l (s+8) 8,na l (s+8+8) 8,Z64,0⟩) 89):=by
  rw[Chg1.get c4 (by omega) (by omega)];exact gb
 have hsg:(seg l (s+8+8+8) 64).length=64∨seg l (s+8+8+8) 64=[]:=by
  unfold seg
  split
  ·right;rfl
  ·left;rw[List.length_take,List.length_drop];omega
 obtain⟨w4,cp⟩:=copy_t g4 rfl B4 hsg
 have ht:tmr l (s+24)=if seg l (s+8+8+8) 64=[]then Z64 else seg l (s+8+8+8) 64:=by
  have e24:s+8+8+8=s+24:=by omega
  rw[e24]at hsg ⊢
  unfold tmr seg
  by_cases hlt:l.length<s+24+64
  ·rw[if_pos hlt,if_pos hlt];simp
  ·rw[if_neg hlt,if_neg hlt,if_neg]
   intro hn
   have:=congrArg List.length hn
   rw[List.length_take,List.length_drop]at this
   simp at this;omega
 obtain⟨Kc,hKc,gc,cc⟩:∃Kc,(if seg l (s+8+8+8) 64=[]then K4 else K4.set K3.n (.cells true false 68 (cSt ⟨na l s 8,na l (s+8) 8,na l (s+8+8) 8,seg l (s+8+8+8) 64,0⟩) 89))=Kc∧Kc.get K3.n=some (.cells true false 68 (cSt ⟨na l s 8,na l (s+8) 8,na l (s+8+8) 8,tmr l (s+24),0⟩) 89)∧Chg [K3.n] K4 Kc:=by
  refine⟨_,rfl,?_,?_⟩
  ·rw[ht]
   split
   ·exact g4
   ·exact AHeap.get_set_same g4 _
  ·split
   ·exact Chg.refl _ _
   ·exact Chg.set K4 (AHeap.get_lt g4) _
 rw[hKc]at cp
 have nc:=cc.n
 simp(disch:=first|assumption|omega|(simp only[LN]<;>omega)|(simp(disch:=first|assumption|omega|(simp only[LN]<;>omega))only[row_alloc,row_set];assumption))only[W_block,P3,↓reduceIte,reduceAdd,reduceEqDiff,reduceCtorEq,initFr,reduceLT,clsA,reduceLeDiff,reduceMul,reduceSub,reduceIte,cp]
 refine callK (q158 (r4.chg cc (by omega)) hl) ?_
 rintro _ K5 ⟨rfl,r5,c5⟩
 have n5:=c5.n
 have l5:(cSt ⟨na l s 8,na l (s+8) 8,na l (s+8+8) 8,tmr l (s+24),0⟩).length=68:=cSt_len (tmr_len _ _)
 have g5:K5.get K3.n=some (.cells true false 68 (cSt ⟨na l s 8,na l (s+8) 8,na l (s+8+8) 8,tmr l (s+24),0⟩) 89):=by
  rw[Chg1.get c5 (by omega) (by omega)];exact gc
 have g0':K5.get H.n=some (.cells true false 68 Z68Q 89):=by
  rw[Chg1.get c5 (by omega) (by omega),Chg1.get cc (by omega) (by omega),Chg1.get c4 (by omega) (by omega),kb.get _ (by omega),Chg1.get c3 (by omega) (by omega),Chg1.get c2 (by omega) (by omega),Chg1.get c1 (by omega) (by omega)];exact g0
 have l6:=cSt_len (x:=⟨na l s 8,na l (s+8) 8,na l (s+8+8) 8,tmr l (s+24),na l (s+8+8+8+64) 4⟩) (tmr_len _ _)
 have o6:=cSt_one ⟨na l s 8,na l (s+8) 8,na l (s+8+8) 8,tmr l (s+24),na l (s+8+8+8+64) 4⟩
 have e6:=cSt_set67 (x:=⟨na l s 8,na l (s+8) 8,na l (s+8+8) 8,tmr l (s+24),0⟩) (tmr_len _ _) (na l (s+8+8+8+64) 4)
 have p0:=AHeap.get_lt g0'
 have p5:=AHeap.get_lt g5
 simp(disch:=first|assumption|omega|(simp only[LN]<;>omega)|(simp(disch:=first|assumption|omega|(simp only[LN]<;>omega))only[row_alloc,row_set];assumption))only[W_block,P3,↓reduceIte,reduceAdd,reduceEqDiff,reduceCtorEq,initFr,reduceLT,clsA,reduceLeDiff,reduceMul,reduceSub,reduceIte,g5,g0',l5,e6,o6]
 have ed:deSt l s=⟨na l s 8,na l (s+8) 8,na l (s+8+8) 8,tmr l (s+24),na l (s+8+8+8+64) 4⟩:=by
  unfold deSt
  simp only[Nat.add_assoc,Nat.reduceAdd]
 refine hq2 _ _ ⟨_,by rw[hr];simp(disch:=first|assumption|omega|(simp only[LN]<;>omega)|(simp(disch:=first|assumption|omega|(simp only[LN]<;>omega))only[row_alloc,row_set];assumption))only[W_block,P3,↓reduceIte,reduceAdd,reduceEqDiff,reduceCtorEq,initFr,reduceLT,clsA,reduceLeDiff,reduceMul,reduceSub,reduceIte,g5,g0',l5,l6];rfl,by rw[ed],?_,?_⟩
 ·have:=(r5.chg (Chg.set K5 p5 (.cells true false 68 (cSt ⟨na l s 8,na l (s+8) 8,na l (s+8+8) 8,tmr l (s+24),na l (s+8+8+8+64) 4⟩) 89)) (by omega)).chg (Chg.set _ (by rw[set_n];exact p0) (.cells true false 68 (cSt ⟨na l s 8,na l (s+8) 8,na l (s+8+8) 8,tmr l (s+24),na l (s+8+8+8+64) 4⟩) 89)) (by omega)
  rw[show s+8+8+8+64+4=s+92 by omega]at this
  exact this
 ·refine⟨by rw[set_n,set_n];omega,fun x hx hn=>?_⟩
  simp only[List.mem_singleton]at hn
  rw[AHeap.get_set_other _ (by omega) (by rw[set_n];exact p0),AHeap.get_set_other _ (by omega) p5,Chg1.get c5 (by omega) hn,Chg1.get cc (by omega) (by omega),Chg1.get c4 (by omega) hn,kb.get _ (by omega),Chg1.get c3 (by omega) hn,Chg1.get c2 (by omega) hn,Chg1.get c1 (by omega) hn,k0.get _ hx]
theorem n130(H:AHeap):∃v H',ARun Go.Proofs.Tryz.prog 0 130 [.pointer none] H v H'∧v=.agg (cSt St0).toArray∧Keeps H H':=by
 refine walk2 f130_ok f130_n ?_
 intro Q hq1 hq2
 have hr:∀fr H',resO f130.res fr H'=(celln 68 (fr.getD 1 undef) H'):=fun fr H'=>resC 1 68 fr
 have lz:Z68Q.length=68:=rfl
 have oz:Z68Q.all Value.oneCell'=true:=rfl
 have lz2:(cSt St0).length=68:=rfl
 have oz2:(cSt St0).all Value.oneCell'=true:=rfl
 simp(disch:=first|assumption|omega|(simp only[LN]<;>omega)|(simp(disch:=first|assumption|omega|(simp only[LN]<;>omega))only[row_alloc,row_set];assumption))only[f130,W_block,P3,↓reduceIte,reduceAdd,reduceEqDiff,reduceCtorEq,initFr,reduceLT,clsA,reduceLeDiff,reduceMul,reduceSub,reduceIte,oz]
 refine callK (n116 _) ?_
 rintro _ _ ⟨rfl,rfl⟩
 simp(disch:=first|assumption|omega|(simp only[LN]<;>omega)|(simp(disch:=first|assumption|omega|(simp only[LN]<;>omega))only[row_alloc,row_set];assumption))only[W_block,P3,↓reduceIte,reduceAdd,reduceEqDiff,reduceCtorEq,initFr,reduceLT,clsA,reduceLeDiff,reduceMul,reduceSub,reduceIte]
 refine callK (n116 _) ?_
 rintro _ _ ⟨rfl,rfl⟩
 simp(disch:=first|assumption|omega|(simp only[LN]<;>omega)|(simp(disch:=first|assumption|omega|(simp only[LN]<;>omega))only[row_alloc,row_set];assumption))only[W_block,P3,↓reduceIte,reduceAdd,reduceEqDiff,reduceCtorEq,initFr,reduceLT,clsA,reduceLeDiff,reduceMul,reduceSub,reduceIte]
 refine callK (n116 _) ?_
 rintro _ _ ⟨rfl,rfl⟩
 simp(disch:=first|assumption|omega|(simp only[LN]<;>omega)|(simp(disch:=first|assumption|omega|(simp only[LN]<;>omega))only[row_alloc,row_set];assumption))only[W_block,P3,↓reduceIte,reduceAdd,reduceEqDiff,reduceCtorEq,initFr,reduceLT,clsA,reduceLeDiff,reduceMul,reduceSub,reduceIte,fillS0,oz,oz2,a_slarr0]
 refine callK (n119 _ _) ?_
 rintro _ _ ⟨rfl,rfl⟩
 have cp:∀X:AHeap,X.get (H.n+1)=some (.cells true false 68 (cSt St0) 89)→∃w,asem (.copy 1 (slc (H.n+1) 3 64 64) (.slice none 0 0)) X=some (w,X):=fun X g=>by
  obtain⟨w,e⟩:=copy_t g rfl (BS.nil X) (.inr rfl)
  exact⟨w,by simpa using e⟩
 obtain⟨w,cp⟩:=cp _ (by rw[show H.n+1=(H.alloc (.cells true false 68 Z68Q 89)).n from rfl];exact AHeap.get_alloc_new _ _)
 simp(disch:=first|assumption|omega|(simp only[LN]<;>omega)|(simp(disch:=first|assumption|omega|(simp only[LN]<;>omega))only[row_alloc,row_set];assumption))only[W_block,P3,↓reduceIte,reduceAdd,reduceEqDiff,reduceCtorEq,initFr,reduceLT,clsA,reduceLeDiff,reduceMul,reduceSub,reduceIte,cp]
 refine callK (n158 _) ?_
 rintro _ _ ⟨rfl,rfl⟩
 have e6:(cSt St0).set 67 (.int .u32 0)=cSt St0:=rfl
 simp(disch:=first|assumption|omega|(simp only[LN]<;>omega)|(simp(disch:=first|assumption|omega|(simp only[LN]<;>omega))only[row_alloc,row_set];assumption))only[W_block,P3,↓reduceIte,reduceAdd,reduceEqDiff,reduceCtorEq,initFr,reduceLT,clsA,reduceLeDiff,reduceMul,reduceSub,reduceIte,e6,oz2]
 refine hq2 _ _ ⟨_,by rw[hr];simp(disch:=first|assumption|omega|(simp only[LN]<;>omega)|(simp(disch:=first|assumption|omega|(simp only[LN]<;>omega))only[row_alloc,row_set];assumption))only[W_block,P3,↓reduceIte,reduceAdd,reduceEqDiff,reduceCtorEq,initFr,reduceLT,clsA,reduceLeDiff,reduceMul,reduceSub,reduceIte],rfl,by((repeat (first|exact Keeps.refl _|assumption|refine Keeps.alloc ?_ _|(refine Keeps.set ?_ (by first|omega|(simp only[alloc_n,set_n]<;>omega)) (by first|omega|(simp only[alloc_n,set_n]<;>omega)) _)|(refine Keeps.trans' (by assumption) ?_))))⟩
end Go.AM.Fd

set_option linter.unusedSimpArgs false
set_option linter.unusedVariables false
namespace Go.AM.Fd
open Nat (reduceAdd reduceEqDiff reduceLT reduceLeDiff reduceMul reduceSub)
open Go.Proofs Go.AM.F
def geLo(b:List UInt8):Option Lo:=if frm 4 b=true then pdLo (bd b)else none
theorem bd_le{b:List UInt8}(h:b.length≤1000000000):(bd b).length≤1000000000:=by rw[bd_len];omega
theorem fillLo{e c:Int}{s:St}(h:s.t.length=64):fillA Z70Q [(0,1,.int .i64 e),(1,1,.int .i64 c),(2,68,.agg (cSt s).toArray)]=some (cLo ⟨e,c,s⟩):=by
 have h1:fillA Z70Q [(0,1,.int .i64 e),(1,1,.int .i64 c),(2,68,.agg (cSt s).toArray)]=fillA (.int .i64 e:: .int .i64 c::Z70Q.drop 2) [(2,68,.agg (cSt s).toArray)]:=rfl
 rw[h1,fill_cons,cells_agg,if_pos ⟨cSt_len h,Nat.le_refl 70⟩,fill0]
 have h2:List.drop (2+68) (Value.int .i64 e::Value.int .i64 c::Z70Q.drop 2)=[]:=rfl
 have h3:List.take 2 (Value.int .i64 e::Value.int .i64 c::Z70Q.drop 2)=[.int .i64 e,.int .i64 c]:=rfl
 rw[h2,h3,List.append_nil]
 rfl
theorem t104{H:AHeap}{v:Value}{b:List UInt8}(hb:BQ H v b)(hl:b.length≤1000000000):∃w H',ARun Go.Proofs.Tryz.prog 0 104 [v] H w H'∧Keeps H H'∧w=match geLo b with|some x=>GotV (cLo x) 0|none=>GotV (cLo Lo0) 130:=by
 refine walk2 f104_ok f104_n ?_
 intro Q hq1 hq2
 have hr:∀fr H',resO f104.res fr H'=(celln 70 (fr.getD 1 undef) H').map fun c=>.tuple #[c,fr.getD 2 undef]:=fun fr H'=>resCT 70 1 2 fr
 have k0:=(Keeps.refl H).alloc (.cells true false 70 Z70Q 162)
 have g0:=AHeap.get_alloc_new H (.cells true false 70 Z70Q 162)
 have lz:Z70Q.length=70:=rfl
 have ozz:Z70Q.all Value.oneCell'=true:=rfl
 have lz':(cLo Lo0).length=70:=rfl
 have ozz':(cLo Lo0).all Value.oneCell'=true:=rfl
 simp(disch:=first|assumption|omega|(simp only[LN]<;>omega)|(simp(disch:=first|assumption|omega|(simp only[LN]<;>omega))only[row_alloc,row_set];assumption))only[f104,W_block,P3,↓reduceIte,reduceAdd,reduceEqDiff,reduceCtorEq,initFr,reduceLT,clsA,reduceLeDiff,reduceMul,reduceSub,reduceIte,ozz]
 refine callK (t128 (hb.keeps (by((repeat (first|exact Keeps.refl _|assumption|refine Keeps.alloc ?_ _|(refine Keeps.set ?_ (by first|omega|(simp only[alloc_n,set_n]<;>omega)) (by first|omega|(simp only[alloc_n,set_n]<;>omega)) _)|(refine Keeps.trans' (by assumption) ?_)))))) 4 (by omega) hl) ?_
 rintro _ K0 ⟨k,⟨rfl,rfl,hf⟩|⟨r,rfl,r0⟩⟩
 ·simp(disch:=first|assumption|omega|(simp only[LN]<;>omega)|(simp(disch:=first|assumption|omega|(simp only[LN]<;>omega))only[row_alloc,row_set];assumption))only[W_block,P3,↓reduceIte,reduceAdd,reduceEqDiff,reduceCtorEq,initFr,reduceLT,clsA,reduceLeDiff,reduceMul,reduceSub,reduceIte]
  refine callK (n116 _) ?_
  rintro _ _ ⟨rfl,rfl⟩
  simp(disch:=first|assumption|omega|(simp only[LN]<;>omega)|(simp(disch:=first|assumption|omega|(simp only[LN]<;>omega))only[row_alloc,row_set];assumption))only[W_block,P3,↓reduceIte,reduceAdd,reduceEqDiff,reduceCtorEq,initFr,reduceLT,clsA,reduceLeDiff,reduceMul,reduceSub,reduceIte]
  refine callK (n116 _) ?_
  rintro _ _ ⟨rfl,rfl⟩
  simp(disch:=first|assumption|omega|(simp only[LN]<;>omega)|(simp(disch:=first|assumption|omega|(simp only[LN]<;>omega))only[row_alloc,row_set];assumption))only[W_block,P3,↓reduceIte,reduceAdd,reduceEqDiff,reduceCtorEq,initFr,reduceLT,clsA,reduceLeDiff,reduceMul,reduceSub,reduceIte]
  refine callK (n130 _) ?_
  rintro _ Ks ⟨rfl,ks⟩
  have nks:=ks.n
  simp only[alloc_n]at nks
  simp(disch:=first|assumption|omega|(simp only[LN]<;>omega)|(simp(disch:=first|assumption|omega|(simp only[LN]<;>omega))only[row_alloc,row_set,Keeps.row ks];assumption))only[Keeps.get ks,Keeps.row ks,W_block,P3,↓reduceIte,reduceAdd,reduceEqDiff,reduceCtorEq,initFr,reduceLT,clsA,reduceLeDiff,reduceMul,reduceSub,reduceIte,fillLo (s:=St0) rfl]
  refine callK (n129 _ rfl) ?_
  rintro _ K1 ⟨k1,rfl⟩
  have nk1:=k1.n
  try simp only[alloc_n]at nk1
  simp(disch:=first|assumption|omega|(simp only[LN]<;>omega)|(simp(disch:=first|assumption|omega|(simp only[LN]<;>omega))only[row_alloc,row_set,Keeps.row ks,Keeps.row k1];assumption))only[Keeps.get ks,Keeps.get k1,Keeps.row ks,Keeps.row k1,W_block,P3,↓reduceIte,reduceAdd,reduceEqDiff,reduceCtorEq,initFr,reduceLT,clsA,reduceLeDiff,reduceMul,reduceSub,reduceIte,GotV,ozz,ozz']
  refine hq2 _ _ ⟨_,by rw[hr];simp(disch:=first|assumption|omega|(simp only[LN]<;>omega)|(simp(disch:=first|assumption|omega|(simp only[LN]<;>omega))only[row_alloc,row_set,Keeps.row ks,Keeps.row k1];assumption))only[Keeps.get ks,Keeps.get k1,Keeps.row ks,Keeps.row k1,W_block,P3,↓reduceIte,reduceAdd,reduceEqDiff,reduceCtorEq,initFr,reduceLT,clsA,reduceLeDiff,reduceMul,reduceSub,reduceIte,ozz,ozz'];rfl,by((repeat (first|exact Keeps.refl _|assumption|refine Keeps.alloc ?_ _|(refine Keeps.set ?_ (by first|omega|(simp only[alloc_n,set_n]<;>omega)) (by first|omega|(simp only[alloc_n,set_n]<;>omega)) _)|(refine Keeps.trans' (by assumption) ?_)))),?_⟩
  simp only[geLo,hf]
  rfl
 ·have hn0:=k.n
  simp only[alloc_n]at hn0
  have hlb:=bd_le hl
  have hrl:H.n+1≤r:=r0.1
  have c0:=Chg.refl [r] K0
  simp(disch:=first|assumption|omega|(simp only[LN]<;>omega)|(simp(disch:=first|assumption|omega|(simp only[LN]<;>omega))only[row_alloc,row_set];assumption))only[W_block,P3,↓reduceIte,reduceAdd,reduceEqDiff,reduceCtorEq,initFr,reduceLT,clsA,reduceLeDiff,reduceMul,reduceSub,reduceIte]
  refine callK (q116 r0 hlb) ?_
  rintro _ K1 ⟨rfl,r1,e1⟩
  have c1:=Chg1.tr c0 e1
  simp(disch:=first|assumption|omega|(simp only[LN]<;>omega)|(simp(disch:=first|assumption|omega|(simp only[LN]<;>omega))only[row_alloc,row_set];assumption))only[W_block,P3,↓reduceIte,reduceAdd,reduceEqDiff,reduceCtorEq,initFr,reduceLT,clsA,reduceLeDiff,reduceMul,reduceSub,reduceIte]
  refine callK (q116 r1 hlb) ?_
  rintro _ K2 ⟨rfl,r2,e2⟩
  have c2:=Chg1.tr c1 e2
  simp(disch:=first|assumption|omega|(simp only[LN]<;>omega)|(simp(disch:=first|assumption|omega|(simp only[LN]<;>omega))only[row_alloc,row_set];assumption))only[W_block,P3,↓reduceIte,reduceAdd,reduceEqDiff,reduceCtorEq,initFr,reduceLT,clsA,reduceLeDiff,reduceMul,reduceSub,reduceIte]
  refine callK (t130 r2 hlb) ?_
  rintro _ K3 ⟨rfl,r3,e3⟩
  have c3:=Chg1.tr c2 e3
  simp(disch:=first|assumption|omega|(simp only[LN]<;>omega)|(simp(disch:=first|assumption|omega|(simp only[LN]<;>omega))only[row_alloc,row_set];assumption))only[W_block,P3,↓reduceIte,reduceAdd,reduceEqDiff,reduceCtorEq,initFr,reduceLT,clsA,reduceLeDiff,reduceMul,reduceSub,reduceIte,fillLo (s:=deSt (bd b) (0+8+8)) (tmr_len _ _)]
  refine callK (t129 r3 (frm 4 b) ⟨sg (na (bd b) 0 8),sg (na (bd b) (0+8) 8),deSt (bd b) (0+8+8)⟩ (tmr_len _ _)) ?_
  rintro _ K ⟨k6,rfl⟩
  have cc:=Chg1.tr c3 (Chg1.kp k6)
  have n6:=cc.n
  have g6:K.get H.n=some (.cells true false 70 Z70Q 162):=by
   rw[Chg1.get cc (by omega) (by omega),k.get _ (by rw[alloc_n];omega)];exact g0
  have p6:=AHeap.get_lt g6
  have kk:∀o,Keeps H (K.set H.n o):=fun o=>⟨by rw[set_n];omega,fun y hy=>by
   rw[AHeap.get_set_other _ (by omega) p6,Chg1.get cc (by omega) (by omega),k.get _ (by rw[alloc_n];omega)];exact k0.get _ hy⟩
  have ed:(⟨sg (na (bd b) 0 8),sg (na (bd b) (0+8) 8),deSt (bd b) (0+8+8)⟩:Lo)=deLo (bd b):=rfl
  rw[ed]
  by_cases hc:frm 4 b=true∧(bd b).length=0+8+8+92∧okLo (deLo (bd b))=true
  ·rw[if_pos hc]
   have ge:geLo b=some (deLo (bd b)):=by unfold geLo pdLo;rw[if_pos hc.1,if_pos hc.2]
   have lx:=cLo_len (x:=deLo (bd b)) (tmr_len _ _)
   have ox:=cLo_one (deLo (bd b))
   simp(disch:=first|assumption|omega|(simp only[LN]<;>omega)|(simp(disch:=first|assumption|omega|(simp only[LN]<;>omega))only[row_alloc,row_set];assumption))only[W_block,P3,↓reduceIte,reduceAdd,reduceEqDiff,reduceCtorEq,initFr,reduceLT,clsA,reduceLeDiff,reduceMul,reduceSub,reduceIte,GotV,g6,ox,ozz]
   refine hq2 _ _ ⟨_,by rw[hr];simp(disch:=first|assumption|omega|(simp only[LN]<;>omega)|(simp(disch:=first|assumption|omega|(simp only[LN]<;>omega))only[row_alloc,row_set];assumption))only[W_block,P3,↓reduceIte,reduceAdd,reduceEqDiff,reduceCtorEq,initFr,reduceLT,clsA,reduceLeDiff,reduceMul,reduceSub,reduceIte,g6,ox,ozz];rfl,kk _,?_⟩
   rw[ge];rfl
  ·rw[if_neg hc]
   have ge:geLo b=none:=by
    unfold geLo pdLo
    split
    ·rename_i hf
     rw[if_neg (fun h=>hc ⟨hf,h⟩)]
    ·rfl
   simp(disch:=first|assumption|omega|(simp only[LN]<;>omega)|(simp(disch:=first|assumption|omega|(simp only[LN]<;>omega))only[row_alloc,row_set];assumption))only[W_block,P3,↓reduceIte,reduceAdd,reduceEqDiff,reduceCtorEq,initFr,reduceLT,clsA,reduceLeDiff,reduceMul,reduceSub,reduceIte,GotV,g6,ozz,ozz']
   refine hq2 _ _ ⟨_,by rw[hr];simp(disch:=first|assumption|omega|(simp only[LN]<;>omega)|(simp(disch:=first|assumption|omega|(simp only[LN]<;>omega))only[row_alloc,row_set];assumption))only[W_block,P3,↓reduceIte,reduceAdd,reduceEqDiff,reduceCtorEq,initFr,reduceLT,clsA,reduceLeDiff,reduceMul,reduceSub,reduceIte,g6,ozz,ozz'];rfl,kk _,?_⟩
   rw[ge];rfl
end Go.AM.Fd

set_option linter.unusedSimpArgs false
set_option linter.unusedVariables false
namespace Go.AM.Fd
open Nat (reduceAdd reduceEqDiff reduceLT reduceLeDiff reduceMul reduceSub)
open Go.Proofs Go.AM.F
theorem t137(n:Int)(H:AHeap):∃v H',ARun Go.Proofs.Tryz.prog 0 137 [.int .i64 n] H v H'∧v=.bool (cyB n)∧H'=H:=by
 refine walk2 f137_ok f137_n ?_
 intro Q hq1 hq2
 by_cases h:0≤n
 ·have e1:decide (0≤n)=true:=by simp[h]
  simp(disch:=first|assumption|omega|(simp only[LN]<;>omega)|(simp(disch:=first|assumption|omega|(simp only[LN]<;>omega))only[row_alloc,row_set];assumption))only[f137,W_block,P3,↓reduceIte,reduceAdd,reduceEqDiff,reduceCtorEq,initFr,reduceLT,clsA,reduceLeDiff,reduceMul,reduceSub,reduceIte,e1]
  exact hq2 _ _ ⟨_,rfl,by unfold cyB;rw[e1,Bool.true_and];rfl,rfl⟩
 ·have e1:decide (0≤n)=false:=by simp[h]
  simp(disch:=first|assumption|omega|(simp only[LN]<;>omega)|(simp(disch:=first|assumption|omega|(simp only[LN]<;>omega))only[row_alloc,row_set];assumption))only[f137,W_block,P3,↓reduceIte,reduceAdd,reduceEqDiff,reduceCtorEq,initFr,reduceLT,clsA,reduceLeDiff,reduceMul,reduceSub,reduceIte,e1]
  exact hq2 _ _ ⟨_,rfl,by unfold cyB;rw[e1,Bool.false_and];rfl,rfl⟩
theorem t138(n w:Nat)(hw:w≤8)(H:AHeap):∃v H',ARun Go.Proofs.Tryz.prog 0 138 [.int .u64 n,.int .i64 w] H v H'∧OB 5 H H' v (be w n):=by
 refine walk2 f138_ok f138_n ?_
 intro Q hq1 hq2
 simp(disch:=first|assumption|omega|(simp only[LN]<;>omega)|(simp(disch:=first|assumption|omega|(simp only[LN]<;>omega))only[row_alloc,row_set];assumption))only[f138,W_block,P3,↓reduceIte,reduceAdd,reduceEqDiff,reduceCtorEq,initFr,reduceLT,clsA,reduceLeDiff,reduceMul,reduceSub,reduceIte]
 refine callK (t93 n w hw H) ?_
 rintro v K ⟨a,k,f⟩
 simp(disch:=first|assumption|omega|(simp only[LN]<;>omega)|(simp(disch:=first|assumption|omega|(simp only[LN]<;>omega))only[row_alloc,row_set];assumption))only[W_block,P3,↓reduceIte,reduceAdd,reduceEqDiff,reduceCtorEq,initFr,reduceLT,clsA,reduceLeDiff,reduceMul,reduceSub,reduceIte]
 exact hq2 _ _ ⟨_,rfl,⟨by rw[be_length];exact a,k,f⟩⟩
theorem t139{H K:AHeap}{v:Value}{l:List UInt8}(h:OB 5 H K v l)(hl:l.length≤100000000):∃w K',ARun Go.Proofs.Tryz.prog 0 139 [v] K w K'∧OB 5 H K' w (chk l):=by
 refine walk2 f139_ok f139_n ?_
 intro Q hq1 hq2
 simp(disch:=first|assumption|omega|(simp only[LN]<;>omega)|(simp(disch:=first|assumption|omega|(simp only[LN]<;>omega))only[row_alloc,row_set];assumption))only[f139,W_block,P3,↓reduceIte,reduceAdd,reduceEqDiff,reduceCtorEq,initFr,reduceLT,clsA,reduceLeDiff,reduceMul,reduceSub,reduceIte]
 refine callK (t125 h.bs (by omega)) ?_
 rintro _ K1 ⟨rfl,k1⟩
 have hc:=crc_lt l
 have hw:IntKind.u64.wrap (crc l:Nat)=(crc l:Nat):=by rw[wrap_u64];omega
 simp(disch:=first|assumption|omega|(simp only[LN]<;>omega)|(simp(disch:=first|assumption|omega|(simp only[LN]<;>omega))only[row_alloc,row_set];assumption))only[W_block,P3,↓reduceIte,reduceAdd,reduceEqDiff,reduceCtorEq,initFr,reduceLT,clsA,reduceLeDiff,reduceMul,reduceSub,reduceIte,hw]
 refine callK (t138 (crc l) 4 (by omega) K1) ?_
 rintro v2 K2 o2
 simp(disch:=first|assumption|omega|(simp only[LN]<;>omega)|(simp(disch:=first|assumption|omega|(simp only[LN]<;>omega))only[row_alloc,row_set];assumption))only[W_block,P3,↓reduceIte,reduceAdd,reduceEqDiff,reduceCtorEq,initFr,reduceLT,clsA,reduceLeDiff,reduceMul,reduceSub,reduceIte]
 refine(h.keeps (k1.trans o2.k)).appR o2.bs (by rw[be_length];omega) ?_
 intro v3 K3 o3
 simp(disch:=first|assumption|omega|(simp only[LN]<;>omega)|(simp(disch:=first|assumption|omega|(simp only[LN]<;>omega))only[row_alloc,row_set];assumption))only[W_block,P3,↓reduceIte,reduceAdd,reduceEqDiff,reduceCtorEq,initFr,reduceLT,clsA,reduceLeDiff,reduceMul,reduceSub,reduceIte]
 exact hq2 _ _ ⟨_,rfl,o3⟩
theorem t131{H:AHeap}{v:Value}{b:List UInt8}(hb:BQ H v b)(i w:Nat)(hi:i≤1000000000)(hw:w≤8)(hl:b.length≤1000000000):
 ∃u H',ARun Go.Proofs.Tryz.prog 0 131 [v,.int .i64 (i:Nat),.int .i64 (w:Nat)] H u H'∧u=.int .u64 (na b i w:Nat)∧H'=H:=by
 refine walk2 f131_ok f131_n ?_
 intro Q hq1 hq2
 have hs:=hb.bs.sl
 have his:=hs.is
 have hlen:=hs.len
 rw[List.length_map]at hlen
 have hw1:IntKind.i64.wrap ((i:Int)+(w:Int))=((i+w:Nat):Int):=by rw[wrap_i64 (by omega) (by omega)];push_cast;rfl
 by_cases hc:b.length<i+w
 ·simp(disch:=first|assumption|omega|(simp only[LN]<;>omega)|(simp(disch:=first|assumption|omega|(simp only[LN]<;>omega))only[row_alloc,row_set];assumption))only[f131,W_block,P3,↓reduceIte,reduceAdd,reduceEqDiff,reduceCtorEq,initFr,reduceLT,clsA,reduceLeDiff,reduceMul,reduceSub,reduceIte,hlen,hw1]
  exact hq2 _ _ ⟨_,rfl,by unfold na seg;rw[if_pos hc];rfl,rfl⟩
 ·obtain⟨u,s1,q1⟩:=hb.mid (k:=.i64) (k':=.i64) i (i+w) (by omega) (by omega)
  simp(disch:=first|assumption|omega|(simp only[LN]<;>omega)|(simp(disch:=first|assumption|omega|(simp only[LN]<;>omega))only[row_alloc,row_set];assumption))only[f131,W_block,P3,↓reduceIte,reduceAdd,reduceEqDiff,reduceCtorEq,initFr,reduceLT,clsA,reduceLeDiff,reduceMul,reduceSub,reduceIte,hlen,hw1,s1]
  refine⟨_,_,t123 q1.bs (by rw[List.length_take];omega),?_⟩
  simp(disch:=first|assumption|omega|(simp only[LN]<;>omega)|(simp(disch:=first|assumption|omega|(simp only[LN]<;>omega))only[row_alloc,row_set];assumption))only[W_block,P3,↓reduceIte,reduceAdd,reduceEqDiff,reduceCtorEq,initFr,reduceLT,clsA,reduceLeDiff,reduceMul,reduceSub,reduceIte]
  exact hq2 _ _ ⟨_,rfl,by unfold na seg;rw[if_neg hc,show i+w-i=w by omega];rfl,rfl⟩
end Go.AM.Fd

set_option linter.unusedSimpArgs false
set_option linter.unusedVariables false
namespace Go.AM.Fd
open Nat (reduceAdd reduceEqDiff reduceLT reduceLeDiff reduceMul reduceSub)
open Go.Proofs Go.AM.F
theorem fillu1(a:Int):fillA [.int .u8 0] [(0,1,.int .u8 a)]=some [.int .u8 a]:=rfl
theorem cy_nat{n:Int}(h:cyB n=true):IntKind.u64.wrap n=((n.toNat:Nat):Int):=by
 have:=cyB_iff.1 h
 rw[wrap_u64];omega
theorem u64w{n:Nat}(h:n<18446744073709551616):IntKind.u64.wrap (n:Int)=(n:Int):=by rw[wrap_u64];omega
theorem cStG{x:St}(h:x.t.length=64):(cSt x)[0]? =some (.int .u64 (x.a:Nat))∧(cSt x)[1]? =some (.int .u64 (x.b:Nat))∧(cSt x)[2]? =some (.int .u64 (x.c:Nat))∧(cSt x)[67]? =some (.int .u32 (x.p:Nat)):=⟨rfl,rfl,rfl,cSt_67 h⟩
theorem cStT{x:St}(h:x.t.length=64){i:Nat}(hi:i<64):(cSt x)[3+i]? =some (.int .u8 ((x.t[i]'(by omega)).toNat:Nat)):=by
 have e:=cSt_t h
 have:((cSt x).drop 3)[i]? =some (.int .u8 ((x.t[i]'(by omega)).toNat:Nat)):=by
  have h2:(((cSt x).drop 3).take 64)[i]? =(cellsOf x.t)[i]? :=by rw[e]
  rw[List.getElem?_take_of_lt hi]at h2
  rw[h2,cells_get (by omega)]
 rwa [List.getElem?_drop]at this
theorem cLoG{x:Lo}(h:x.s.t.length=64):(cLo x)[0]? =some (.int .i64 x.e)∧(cLo x)[1]? =some (.int .i64 x.c):=⟨rfl,rfl⟩
theorem t140(x:St)(hx:rgSt x)(H:AHeap):∃v H',ARun Go.Proofs.Tryz.prog 0 140 [.agg (cSt x).toArray] H v H'∧OB 5 H H' v (enSt x):=by
 refine walk2 f140_ok f140_n ?_
 intro Q hq1 hq2
 have lx:=cSt_len hx.1
 have ox:=cSt_one x
 have kH:=(Keeps.refl H).alloc (.cells true false 68 (cSt x) 89)
 have ht:=hx.1
 have ha:=hx.2
 have hb:=hx.3
 have hc:=hx.4
 have hp:=hx.5
 simp(disch:=first|assumption|omega|(simp only[LN]<;>omega)|(simp(disch:=first|assumption|omega|(simp only[LN]<;>omega))only[row_alloc,row_set];assumption))only[f140,W_block,P3,↓reduceIte,reduceAdd,reduceEqDiff,reduceCtorEq,initFr,reduceLT,clsA,reduceLeDiff,reduceMul,reduceSub,reduceIte,ox]
 obtain⟨H1,hH1⟩:∃X,X=H.alloc (.cells true false 68 (cSt x) 89):=⟨_,rfl⟩
 have gx:H1.get H.n=some (.cells true false 68 (cSt x) 89):=by rw[hH1];exact AHeap.get_alloc_new _ _
 have px:=AHeap.get_lt gx
 rw[←hH1]at kH ⊢
 simp(disch:=first|assumption|omega|(simp only[LN]<;>omega)|(simp(disch:=first|assumption|omega|(simp only[LN]<;>omega))only[row_alloc,row_set];assumption))only[W_block,P3,↓reduceIte,reduceAdd,reduceEqDiff,reduceCtorEq,initFr,reduceLT,clsA,reduceLeDiff,reduceMul,reduceSub,reduceIte,gx,(cStG hx.1).1,(cStG hx.1).2.1,(cStG hx.1).2.2.1,(cStG hx.1).2.2.2]
 refine callK (t138 (x.a) 8 (by omega) _) ?_
 rintro v1 K1 o1
 have k1:=o1.k
 simp(disch:=first|assumption|omega|(simp only[LN]<;>omega)|(simp(disch:=first|assumption|omega|(simp only[LN]<;>omega))only[row_alloc,row_set,Keeps.row k1];assumption))only[Keeps.get k1,Keeps.row k1,W_block,P3,↓reduceIte,reduceAdd,reduceEqDiff,reduceCtorEq,initFr,reduceLT,clsA,reduceLeDiff,reduceMul,reduceSub,reduceIte,gx,(cStG hx.1).1,(cStG hx.1).2.1,(cStG hx.1).2.2.1,(cStG hx.1).2.2.2]
 refine callK (t138 (x.b) 8 (by omega) _) ?_
 rintro w1 L1 p1
 simp(disch:=first|assumption|omega|(simp only[LN]<;>omega)|(simp(disch:=first|assumption|omega|(simp only[LN]<;>omega))only[row_alloc,row_set,Keeps.row k1];assumption))only[Keeps.get k1,Keeps.row k1,W_block,P3,↓reduceIte,reduceAdd,reduceEqDiff,reduceCtorEq,initFr,reduceLT,clsA,reduceLeDiff,reduceMul,reduceSub,reduceIte,gx,(cStG hx.1).1,(cStG hx.1).2.1,(cStG hx.1).2.2.1,(cStG hx.1).2.2.2]
 refine(o1.keeps p1.k).appR p1.bs (by simp only[List.length_append,be_length,List.length_cons,List.length_nil];omega) ?_
 intro v2 K2 o2
 have k2:=o2.k
 simp(disch:=first|assumption|omega|(simp only[LN]<;>omega)|(simp(disch:=first|assumption|omega|(simp only[LN]<;>omega))only[row_alloc,row_set,Keeps.row k2];assumption))only[Keeps.get k2,Keeps.row k2,W_block,P3,↓reduceIte,reduceAdd,reduceEqDiff,reduceCtorEq,initFr,reduceLT,clsA,reduceLeDiff,reduceMul,reduceSub,reduceIte,gx,(cStG hx.1).1,(cStG hx.1).2.1,(cStG hx.1).2.2.1,(cStG hx.1).2.2.2]
 refine callK (t138 (x.c) 8 (by omega) _) ?_
 rintro w2 L2 p2
 simp(disch:=first|assumption|omega|(simp only[LN]<;>omega)|(simp(disch:=first|assumption|omega|(simp only[LN]<;>omega))only[row_alloc,row_set,Keeps.row k2];assumption))only[Keeps.get k2,Keeps.row k2,W_block,P3,↓reduceIte,reduceAdd,reduceEqDiff,reduceCtorEq,initFr,reduceLT,clsA,reduceLeDiff,reduceMul,reduceSub,reduceIte,gx,(cStG hx.1).1,(cStG hx.1).2.1,(cStG hx.1).2.2.1,(cStG hx.1).2.2.2]
 refine(o2.keeps p2.k).appR p2.bs (by simp only[List.length_append,be_length,List.length_cons,List.length_nil];omega) ?_
 intro v3 K3 o3
 have k3:=o3.k
 simp(disch:=first|assumption|omega|(simp only[LN]<;>omega)|(simp(disch:=first|assumption|omega|(simp only[LN]<;>omega))only[row_alloc,row_set,Keeps.row k3];assumption))only[Keeps.get k3,Keeps.row k3,W_block,P3,↓reduceIte,reduceAdd,reduceEqDiff,reduceCtorEq,initFr,reduceLT,clsA,reduceLeDiff,reduceMul,reduceSub,reduceIte,gx,(cStG hx.1).1,(cStG hx.1).2.1,(cStG hx.1).2.2.1,(cStG hx.1).2.2.2]
 refine W_loop2 (fun q fr K=>∃(i:Nat) (v e:Value),i≤64∧q=64-i∧OB 5 H1 K v (be 8 x.a++be 8 x.b++be 8 x.c++x.t.take i)∧fr=[.agg (cSt x).toArray,ptr H.n 0,.slice none 0 0,v,.int .i64 i,e]) 64 ⟨0,v3,undef,by omega,rfl,by simpa using o3,rfl⟩ ?_
 rintro Q' q fr K ⟨i,v,e,hi,rfl,o4,rfl⟩ hnx hex hrt
 have k4:=o4.k
 by_cases hc:i<64
 ·simp(disch:=first|assumption|omega|(simp only[LN]<;>omega)|(simp(disch:=first|assumption|omega|(simp only[LN]<;>omega))only[row_alloc,row_set,Keeps.row k4];assumption))only[Keeps.get k4,Keeps.row k4,W_block,P3,↓reduceIte,reduceAdd,reduceEqDiff,reduceCtorEq,initFr,reduceLT,clsA,reduceLeDiff,reduceMul,reduceSub,reduceIte,gx,cStT ht hc]
  have hb8:(x.t[i]'(by omega)).toNat<256:=UInt8.toNat_lt _
  have o5:OB 5 H1 (K.alloc (.cells true false 1 [.int .u8 ((x.t[i]'(by omega)).toNat:Nat)] 5)) (slc K.n 0 1 1) [UInt8.ofNat (x.t[i]'(by omega)).toNat]:=OB.lit k4 (cells1 hb8) rfl rfl false
  refine(o4.keeps ((Keeps.refl K).alloc _)).appR o5.bs (by simp only[List.length_append,be_length,List.length_cons,List.length_nil,List.length_take];omega) ?_
  intro v6 K6 o6
  simp(disch:=first|assumption|omega|(simp only[LN]<;>omega)|(simp(disch:=first|assumption|omega|(simp only[LN]<;>omega))only[row_alloc,row_set];assumption))only[W_block,P3,↓reduceIte,reduceAdd,reduceEqDiff,reduceCtorEq,initFr,reduceLT,clsA,reduceLeDiff,reduceMul,reduceSub,reduceIte,wrap_succ (n:=i) (by omega)]
  refine hnx _ _ _ ⟨i+1,v6,_,by omega,rfl,?_,rfl⟩ (by omega)
  rw[List.take_succ_eq_append_getElem (by omega)]
  simp only[List.append_assoc,UInt8.ofNat_toNat]at o6 ⊢
  exact o6
 ·simp(disch:=first|assumption|omega|(simp only[LN]<;>omega)|(simp(disch:=first|assumption|omega|(simp only[LN]<;>omega))only[row_alloc,row_set];assumption))only[W_block,P3,↓reduceIte,reduceAdd,reduceEqDiff,reduceCtorEq,initFr,reduceLT,clsA,reduceLeDiff,reduceMul,reduceSub,reduceIte]
  refine hex _ _ _ ?_
  have hi64:i=64:=by omega
  subst hi64
  rw[show x.t.take 64=x.t from List.take_of_length_le (by omega)]at o4
  simp(disch:=first|assumption|omega|(simp only[LN]<;>omega)|(simp(disch:=first|assumption|omega|(simp only[LN]<;>omega))only[row_alloc,row_set,Keeps.row k4];assumption))only[Keeps.get k4,Keeps.row k4,W_block,P3,↓reduceIte,reduceAdd,reduceEqDiff,reduceCtorEq,initFr,reduceLT,clsA,reduceLeDiff,reduceMul,reduceSub,reduceIte,gx,(cStG hx.1).1,(cStG hx.1).2.1,(cStG hx.1).2.2.1,(cStG hx.1).2.2.2,u64w (show x.p<18446744073709551616 by omega)]
  refine callK (t138 (x.p) 4 (by omega) _) ?_
  rintro w5 L5 p5
  simp(disch:=first|assumption|omega|(simp only[LN]<;>omega)|(simp(disch:=first|assumption|omega|(simp only[LN]<;>omega))only[row_alloc,row_set];assumption))only[W_block,P3,↓reduceIte,reduceAdd,reduceEqDiff,reduceCtorEq,initFr,reduceLT,clsA,reduceLeDiff,reduceMul,reduceSub,reduceIte]
  refine(o4.keeps p5.k).appR p5.bs (by simp only[List.length_append,be_length];omega) ?_
  intro v6 K6 o6
  simp(disch:=first|assumption|omega|(simp only[LN]<;>omega)|(simp(disch:=first|assumption|omega|(simp only[LN]<;>omega))only[row_alloc,row_set];assumption))only[W_block,P3,↓reduceIte,reduceAdd,reduceEqDiff,reduceCtorEq,initFr,reduceLT,clsA,reduceLeDiff,reduceMul,reduceSub,reduceIte]
  refine hq2 _ _ ⟨_,rfl,?_⟩
  have ee:enSt x=be 8 x.a++be 8 x.b++be 8 x.c++x.t++be 4 x.p:=by simp only[enSt,List.append_assoc]
  rw[ee]
  exact o6.base kH
theorem t109(x:Lo)(hx:rgSt x.s)(H:AHeap):∃v H',ARun Go.Proofs.Tryz.prog 0 109 [.agg (cLo x).toArray] H v H'∧OB 5 H H' v (fLo x):=by
 refine walk2 f109_ok f109_n ?_
 intro Q hq1 hq2
 have lx:=cLo_len hx.1
 have ox:=cLo_one x
 have kH:=(Keeps.refl H).alloc (.cells true false 70 (cLo x) 94)
 simp(disch:=first|assumption|omega|(simp only[LN]<;>omega)|(simp(disch:=first|assumption|omega|(simp only[LN]<;>omega))only[row_alloc,row_set];assumption))only[f109,W_block,P3,↓reduceIte,reduceAdd,reduceEqDiff,reduceCtorEq,initFr,reduceLT,clsA,reduceLeDiff,reduceMul,reduceSub,reduceIte,ox,(cLoG hx.1).1]
 refine callK (t137 _ _) ?_
 rintro _ _ ⟨rfl,rfl⟩
 cases h1:cyB x.e with
 |false=>
  simp(disch:=first|assumption|omega|(simp only[LN]<;>omega)|(simp(disch:=first|assumption|omega|(simp only[LN]<;>omega))only[row_alloc,row_set];assumption))only[W_block,P3,↓reduceIte,reduceAdd,reduceEqDiff,reduceCtorEq,initFr,reduceLT,clsA,reduceLeDiff,reduceMul,reduceSub,reduceIte]
  refine hq2 _ _ ⟨_,rfl,?_⟩
  have e:fLo x=[]:=by unfold fLo okLo;rw[h1];rfl
  rw[e]
  exact(OB.nil _ _).base kH
 |true=>
  simp(disch:=first|assumption|omega|(simp only[LN]<;>omega)|(simp(disch:=first|assumption|omega|(simp only[LN]<;>omega))only[row_alloc,row_set];assumption))only[W_block,P3,↓reduceIte,reduceAdd,reduceEqDiff,reduceCtorEq,initFr,reduceLT,clsA,reduceLeDiff,reduceMul,reduceSub,reduceIte,(cLoG hx.1).2]
  refine callK (t137 _ _) ?_
  rintro _ _ ⟨rfl,rfl⟩
  cases h2:cyB x.c with
  |false=>
   simp(disch:=first|assumption|omega|(simp only[LN]<;>omega)|(simp(disch:=first|assumption|omega|(simp only[LN]<;>omega))only[row_alloc,row_set];assumption))only[W_block,P3,↓reduceIte,reduceAdd,reduceEqDiff,reduceCtorEq,initFr,reduceLT,clsA,reduceLeDiff,reduceMul,reduceSub,reduceIte]
   refine hq2 _ _ ⟨_,rfl,?_⟩
   have e:fLo x=[]:=by unfold fLo okLo;rw[h1,h2];rfl
   rw[e]
   exact(OB.nil _ _).base kH
  |true=>
   obtain⟨H1,hH1⟩:∃X,X=H.alloc (.cells true false 70 (cLo x) 94):=⟨_,rfl⟩
   have gx:H1.get H.n=some (.cells true false 70 (cLo x) 94):=by rw[hH1];exact AHeap.get_alloc_new _ _
   have px:=AHeap.get_lt gx
   rw[←hH1]at kH ⊢
   simp(disch:=first|assumption|omega|(simp only[LN]<;>omega)|(simp(disch:=first|assumption|omega|(simp only[LN]<;>omega))only[row_alloc,row_set];assumption))only[W_block,P3,↓reduceIte,reduceAdd,reduceEqDiff,reduceCtorEq,initFr,reduceLT,clsA,reduceLeDiff,reduceMul,reduceSub,reduceIte,gx,(cLoG hx.1).1,(cLoG hx.1).2,fillu1]
   obtain⟨K1,hK1⟩:∃X,X=H1.alloc (.cells true false 1 [.int .u8 4] 5):=⟨_,rfl⟩
   have o1:OB 5 H1 K1 (slc (H1.n) 0 1 1) [UInt8.ofNat 4]:=by rw[hK1];exact OB.lit (Keeps.refl H1) (cells1 (show 4<256 by omega)) rfl rfl false
   rw[←hK1]
   have k1:=o1.k
   simp(disch:=first|assumption|omega|(simp only[LN]<;>omega)|(simp(disch:=first|assumption|omega|(simp only[LN]<;>omega))only[row_alloc,row_set,Keeps.row k1];assumption))only[Keeps.get k1,Keeps.row k1,W_block,P3,↓reduceIte,reduceAdd,reduceEqDiff,reduceCtorEq,initFr,reduceLT,clsA,reduceLeDiff,reduceMul,reduceSub,reduceIte,gx,(cLoG hx.1).1,(cLoG hx.1).2,cy_nat h1]
   refine callK (t138 (x.e.toNat) 8 (by omega) _) ?_
   rintro w1 L1 p1
   simp(disch:=first|assumption|omega|(simp only[LN]<;>omega)|(simp(disch:=first|assumption|omega|(simp only[LN]<;>omega))only[row_alloc,row_set,Keeps.row k1];assumption))only[Keeps.get k1,Keeps.row k1,W_block,P3,↓reduceIte,reduceAdd,reduceEqDiff,reduceCtorEq,initFr,reduceLT,clsA,reduceLeDiff,reduceMul,reduceSub,reduceIte,gx,(cLoG hx.1).1,(cLoG hx.1).2]
   refine(o1.keeps p1.k).appR p1.bs (by simp only[List.length_append,be_length,List.length_cons,List.length_nil];omega) ?_
   intro v2 K2 o2
   have k2:=o2.k
   simp(disch:=first|assumption|omega|(simp only[LN]<;>omega)|(simp(disch:=first|assumption|omega|(simp only[LN]<;>omega))only[row_alloc,row_set,Keeps.row k2];assumption))only[Keeps.get k2,Keeps.row k2,W_block,P3,↓reduceIte,reduceAdd,reduceEqDiff,reduceCtorEq,initFr,reduceLT,clsA,reduceLeDiff,reduceMul,reduceSub,reduceIte,gx,(cLoG hx.1).1,(cLoG hx.1).2,cy_nat h2]
   refine callK (t138 (x.c.toNat) 8 (by omega) _) ?_
   rintro w2 L2 p2
   simp(disch:=first|assumption|omega|(simp only[LN]<;>omega)|(simp(disch:=first|assumption|omega|(simp only[LN]<;>omega))only[row_alloc,row_set,Keeps.row k2];assumption))only[Keeps.get k2,Keeps.row k2,W_block,P3,↓reduceIte,reduceAdd,reduceEqDiff,reduceCtorEq,initFr,reduceLT,clsA,reduceLeDiff,reduceMul,reduceSub,reduceIte,gx,(cLoG hx.1).1,(cLoG hx.1).2]
   refine(o2.keeps p2.k).appR p2.bs (by simp only[List.length_append,be_length,List.length_cons,List.length_nil];omega) ?_
   intro v3 K3 o3
   have k3:=o3.k
   have hne:(cLo x).length≠68:=by omega
   simp(disch:=first|assumption|omega|(simp only[LN]<;>omega)|(simp(disch:=first|assumption|omega|(simp only[LN]<;>omega))only[row_alloc,row_set,Keeps.row k3];assumption))only[Keeps.get k3,Keeps.row k3,W_block,P3,↓reduceIte,reduceAdd,reduceEqDiff,reduceCtorEq,initFr,reduceLT,clsA,reduceLeDiff,reduceMul,reduceSub,reduceIte,gx,lx,cLo_s hx.1]
   refine callK (t140 x.s hx _) ?_
   rintro w3 L3 p3
   simp(disch:=first|assumption|omega|(simp only[LN]<;>omega)|(simp(disch:=first|assumption|omega|(simp only[LN]<;>omega))only[row_alloc,row_set];assumption))only[W_block,P3,↓reduceIte,reduceAdd,reduceEqDiff,reduceCtorEq,initFr,reduceLT,clsA,reduceLeDiff,reduceMul,reduceSub,reduceIte]
   have hl:=enSt_len hx.1
   refine(o3.keeps p3.k).appR p3.bs (by simp only[List.length_append,be_length,List.length_cons,List.length_nil];omega) ?_
   intro v4 K4 o4
   simp(disch:=first|assumption|omega|(simp only[LN]<;>omega)|(simp(disch:=first|assumption|omega|(simp only[LN]<;>omega))only[row_alloc,row_set];assumption))only[W_block,P3,↓reduceIte,reduceAdd,reduceEqDiff,reduceCtorEq,initFr,reduceLT,clsA,reduceLeDiff,reduceMul,reduceSub,reduceIte]
   refine callK (t139 o4 (by simp only[List.length_append,be_length,List.length_cons,List.length_nil];omega)) ?_
   rintro v5 K5 o5
   simp(disch:=first|assumption|omega|(simp only[LN]<;>omega)|(simp(disch:=first|assumption|omega|(simp only[LN]<;>omega))only[row_alloc,row_set];assumption))only[W_block,P3,↓reduceIte,reduceAdd,reduceEqDiff,reduceCtorEq,initFr,reduceLT,clsA,reduceLeDiff,reduceMul,reduceSub,reduceIte]
   refine hq2 _ _ ⟨_,rfl,?_⟩
   have e:fLo x=chk ([UInt8.ofNat 4]++be 8 x.e.toNat++be 8 x.c.toNat++enSt x.s):=by
    unfold fLo
    rw[if_pos (by unfold okLo;rw[h1,h2];rfl)]
    unfold enLo
    simp only[List.append_assoc,List.cons_append,List.nil_append]
    rfl
   rw[e]
   exact o5.base kH
end Go.AM.Fd

set_option linter.unusedSimpArgs false
set_option linter.unusedVariables false
namespace Go.AM.Fd
open Go.Proofs Go.AM.F
theorem na_one{b:List UInt8}{i:Nat}(h:i<b.length):na b i 1=b[i].toNat:=by
 unfold na seg
 rw[if_neg (by omega),List.drop_eq_getElem_cons h]
 simp only[List.take_succ_cons,List.take_zero]
 have:=b[i].toNat_lt
 simp only[num,List.foldl_cons,List.foldl_nil]
 omega
theorem geLo_some{b:List UInt8}{y:Lo}(h:geLo b=some y):fLo y=b∧rgSt y.s∧y=deLo (bd b)∧b.length=113:=by
 unfold geLo at h
 split at h
 ·rename_i hf
  have hd:y=deLo (bd b):=by unfold pdLo at h;split at h;exact(Option.some.inj h).symm;cases h
  obtain⟨h1,h2,h3⟩:=pdLo_e h
  have h5:=frm_len hf
  have hl:=enLo_len h3.1
  rw[h1,bd_len]at hl
  refine⟨?_,h3,hd,by omega⟩
  unfold fLo
  rw[if_pos h2,h1]
  exact(frm_eq hf).symm
 ·cases h
theorem geLo_of{x:Lo}(hr:rgSt x.s){b:List UInt8}(hb:b≠[])(h:fLo x=b):geLo b=some x:=by
 unfold fLo at h
 split at h
 ·rename_i hok
  subst h
  unfold geLo
  have e:frm 4 (chk (4::enLo x))=true:=frm_chk (k:=4) _
  rw[if_pos e,bd_chk,pdLo_d hok hr]
 ·exact absurd h.symm hb
def GotB(c:List Value)(ok:Bool):Value:=.tuple #[.agg c.toArray,.bool ok]
theorem GotB.nv{ρ:Nat→Option Nat}{c:List Value}(h:c.all plain1=true)(ok:Bool):NV ρ (GotB c ok) (GotB c ok):=
 NV.tuple_of (.cons (NV.agg_of (NL.plain h)) (.cons (.bool ok) .nil))
theorem touch_b2s(v:Value)(X:AHeap):touchA (.b2s v) X=tb v:=by
 unfold touchA
 have:clsA (.b2s v)=1:=rfl
 rw[if_pos this]
 cases v<;>try rfl
 rename_i a n k
 cases a with
 |none=>rfl
 |some a=>
  obtain⟨b,o,z⟩:=a
  cases z<;>rfl
theorem tbk{H K:AHeap}{v:Value}{b:List UInt8}(h:BS H v b)(k:Keeps H K):olderB (tb v) H∧keepsB (tb v) H K:=⟨tb_older h.tbl,tb_keeps (fun y hy=>⟨h.tbl y hy,by simp⟩) (k.chg [])⟩
end Go.AM.Fd

set_option linter.unusedSimpArgs false
set_option linter.unusedVariables false
namespace Go.AM.Fd
open Nat (reduceAdd reduceEqDiff reduceLT reduceLeDiff reduceMul reduceSub)
open Go.Proofs Go.AM.F
def tR(b:List UInt8)(s i:Nat):List UInt8:=(List.range i).map (fun j=>UInt8.ofNat (na b (s+j) 1))++List.replicate (64-i) 0
def deR(b:List UInt8)(s:Nat):St:=⟨na b s 8,na b (s+8) 8,na b (s+16) 8,tR b (s+24) 64,na b (s+88) 4⟩
theorem tR_len(b:List UInt8)(s:Nat){i:Nat}(h:i≤64):(tR b s i).length=64:=by simp[tR];omega
theorem tR_set(b:List UInt8)(s:Nat){i:Nat}(h:i<64):(tR b s i).set i (UInt8.ofNat (na b (s+i) 1))=tR b s (i+1):=by
 unfold tR
 rw[List.set_append_right _ _ (by simp)]
 simp only[List.length_map,List.length_range,Nat.sub_self]
 rw[show 64-i=(64-(i+1))+1 by omega,List.replicate_succ,List.set_cons_zero,List.range_succ,List.map_append]
 simp
theorem tR_in{b:List UInt8}{s:Nat}(h:s+64≤b.length):tR b s 64=(b.drop s).take 64:=by
 apply List.ext_getElem?
 intro i
 by_cases hi:i<64
 ·rw[List.getElem?_take_of_lt hi,List.getElem?_drop]
  unfold tR
  rw[List.getElem?_append_left (by simpa using hi)]
  simp only[List.getElem?_map,List.getElem?_range hi,Option.map_some]
  rw[na_one (by omega),List.getElem?_eq_getElem (by omega)]
  simp
 ·rw[List.getElem?_eq_none (by rw[tR_len _ _ (Nat.le_refl _)];omega),List.getElem?_eq_none (by rw[List.length_take];omega)]
theorem deR_rg(b:List UInt8)(s:Nat):rgSt (deR b s):=⟨tR_len b _ (Nat.le_refl _),na8 b _,na8 b _,na8 b _,na4 b _⟩
theorem deR_in{b:List UInt8}{s:Nat}(h:s+92+5≤b.length):deR b (s+1)=deSt (bd b) s:=by
 unfold deR deSt
 rw[na_bd (s:=s) (by omega),show s+1+8=s+8+1 by omega,na_bd (s:=s+8) (by omega),show s+1+16=s+16+1 by omega,na_bd (s:=s+16) (by omega),show s+1+88=s+88+1 by omega,na_bd (s:=s+88) (by omega)]
 rw[tR_in (by omega),tmr_in (by rw[bd_len];omega)]
 unfold bd
 rw[List.drop_take,List.take_take,List.drop_drop,Nat.min_eq_left (by omega),show 1+(s+24)=s+1+24 by omega]
theorem fillS4(a b c p:Nat):fillA Z68Q [(0,1,.int .u64 (a:Nat)),(1,1,.int .u64 (b:Nat)),(2,1,.int .u64 (c:Nat)),(67,1,.int .u32 (p:Nat))]=some (cSt ⟨a,b,c,Z64,p⟩):=rfl
theorem cSt_setT{x:St}{i n:Nat}(hi:i<x.t.length)(hn:n<256):(cSt x).set (3+i) (.int .u8 (n:Nat))=cSt {x with t:=x.t.set i (UInt8.ofNat n)}:=by
 have e:(Value.int .u8 (n:Nat))=.int .u8 ((UInt8.ofNat n).toNat:Nat):=by
  congr 1
  simp only[UInt8.toNat_ofNat']
  omega
 unfold cSt
 rw[show 3+i=i+1+1+1 by omega,List.set_cons_succ,List.set_cons_succ,List.set_cons_succ,List.set_append_left _ _ (by rw[cellsOf_length];exact hi),e,cells_set]
theorem cSt_plain(x:St):(cSt x).all plain1=true:=by
 have:(cellsOf x.t).all plain1=true:=by
  rw[List.all_eq_true]
  intro v hv
  simp only[cellsOf,List.mem_map]at hv
  obtain⟨b,_,rfl⟩:=hv
  rfl
 simp only[cSt,List.all_cons,List.all_append,this]
 rfl
theorem cLo_plain(x:Lo):(cLo x).all plain1=true:=by
 simp only[cLo,List.all_cons,cSt_plain]
 rfl
theorem t132{H:AHeap}{v:Value}{b:List UInt8}(hb:BQ H v b)(s:Nat)(hs:s≤1000)(hl:b.length≤1000000000):∃w H',ARun Go.Proofs.Tryz.prog 0 132 [v,.int .i64 (s:Nat)] H w H'∧w=.agg (cSt (deR b s)).toArray∧H'=H:=by
 suffices h:∃w H',ARun Go.Proofs.Tryz.prog 0 132 [v,.int .i64 (s:Nat)] H w H'∧w=.agg (cSt (deR b s)).toArray∧Keeps H H' by
  obtain⟨_,_,a,rfl,k⟩:=h
  exact⟨_,_,a.gc0 k (.inr (NV.agg_of (NL.plain (cSt_plain _)))),rfl,rfl⟩
 refine walk2 f132_ok f132_n ?_
 intro Q hq1 hq2
 have hr:∀fr H',resO f132.res fr H'=(celln 68 (fr.getD 2 undef) H'):=fun fr H'=>resC 2 68 fr
 have lz:Z68Q.length=68:=rfl
 have ozz:Z68Q.all Value.oneCell'=true:=rfl
 have k0:=(Keeps.refl H).alloc (.cells true false 68 Z68Q 89)
 have w8:IntKind.i64.wrap ((s:Int)+8)=((s+8:Nat):Int):=by rw[wrap_i64 (by omega) (by omega)];push_cast;rfl
 have w16:IntKind.i64.wrap ((s:Int)+16)=((s+16:Nat):Int):=by rw[wrap_i64 (by omega) (by omega)];push_cast;rfl
 have w88:IntKind.i64.wrap ((s:Int)+88)=((s+88:Nat):Int):=by rw[wrap_i64 (by omega) (by omega)];push_cast;rfl
 have w24:IntKind.i64.wrap ((s:Int)+24)=((s+24:Nat):Int):=by rw[wrap_i64 (by omega) (by omega)];push_cast;rfl
 have w4:IntKind.u32.wrap (na b (s+88) 4:Nat)=(na b (s+88) 4:Nat):=by have:=na4 b (s+88);rw[wrap_u32];omega
 simp(disch:=first|assumption|omega|(simp only[LN]<;>omega)|(simp(disch:=first|assumption|omega|(simp only[LN]<;>omega))only[row_alloc,row_set];assumption))only[f132,W_block,P3,↓reduceIte,reduceAdd,reduceEqDiff,reduceCtorEq,initFr,reduceLT,clsA,reduceLeDiff,reduceMul,reduceSub,reduceIte,ozz]
 refine callK (t131 (hb.keeps k0) s 8 (by omega) (by omega) hl) ?_
 rintro _ _ ⟨rfl,rfl⟩
 simp(disch:=first|assumption|omega|(simp only[LN]<;>omega)|(simp(disch:=first|assumption|omega|(simp only[LN]<;>omega))only[row_alloc,row_set];assumption))only[W_block,P3,↓reduceIte,reduceAdd,reduceEqDiff,reduceCtorEq,initFr,reduceLT,clsA,reduceLeDiff,reduceMul,reduceSub,reduceIte,w8]
 refine callK (t131 (hb.keeps k0) (s+8) 8 (by omega) (by omega) hl) ?_
 rintro _ _ ⟨rfl,rfl⟩
 simp(disch:=first|assumption|omega|(simp only[LN]<;>omega)|(simp(disch:=first|assumption|omega|(simp only[LN]<;>omega))only[row_alloc,row_set];assumption))only[W_block,P3,↓reduceIte,reduceAdd,reduceEqDiff,reduceCtorEq,initFr,reduceLT,clsA,reduceLeDiff,reduceMul,reduceSub,reduceIte,w16]
 refine callK (t131 (hb.keeps k0) (s+16) 8 (by omega) (by omega) hl) ?_
 rintro _ _ ⟨rfl,rfl⟩
 simp(disch:=first|assumption|omega|(simp only[LN]<;>omega)|(simp(disch:=first|assumption|omega|(simp only[LN]<;>omega))only[row_alloc,row_set];assumption))only[W_block,P3,↓reduceIte,reduceAdd,reduceEqDiff,reduceCtorEq,initFr,reduceLT,clsA,reduceLeDiff,reduceMul,reduceSub,reduceIte,w88]
 refine callK (t131 (hb.keeps k0) (s+88) 4 (by omega) (by omega) hl) ?_
 rintro _ _ ⟨rfl,rfl⟩
 have lS:∀a b c p:Nat,(cSt ⟨a,b,c,Z64,p⟩).length=68:=fun a b c p=>cSt_len (x:=⟨a,b,c,Z64,p⟩) rfl
 simp(disch:=first|assumption|omega|(simp only[LN]<;>omega)|(simp(disch:=first|assumption|omega|(simp only[LN]<;>omega))only[row_alloc,row_set];assumption))only[W_block,P3,↓reduceIte,reduceAdd,reduceEqDiff,reduceCtorEq,initFr,reduceLT,clsA,reduceLeDiff,reduceMul,reduceSub,reduceIte,w4,fillS4,ozz,lS,cSt_one]
 refine W_loop2 (fun q fr K=>∃(i:Nat) (e:Value),i≤64∧q=64-i∧K=(H.alloc (.cells true false 68 Z68Q 89)).alloc (.cells true false 68 (cSt ⟨na b s 8,na b (s+8) 8,na b (s+16) 8,tR b (s+24) i,na b (s+88) 4⟩) 89)∧fr=[v,.int .i64 (s:Nat),ptr H.n 0,ptr (H.n+1) 0,.int .i64 i,e]) 64 ⟨0,undef,by omega,rfl,rfl,rfl⟩ ?_
 rintro Q' q fr K ⟨i,e,hi,rfl,rfl,rfl⟩ hnx hex hrt
 by_cases hc:i<64
 ·have wi:IntKind.i64.wrap (((s+24:Nat):Int)+(i:Int))=((s+24+i:Nat):Int):=by rw[wrap_i64 (by omega) (by omega)];push_cast;rfl
  simp(disch:=first|assumption|omega|(simp only[LN]<;>omega)|(simp(disch:=first|assumption|omega|(simp only[LN]<;>omega))only[row_alloc,row_set];assumption))only[W_block,P3,↓reduceIte,reduceAdd,reduceEqDiff,reduceCtorEq,initFr,reduceLT,clsA,reduceLeDiff,reduceMul,reduceSub,reduceIte,w24,wi]
  refine callK (t131 ((hb.keeps k0).keeps ((Keeps.refl _).alloc _)) (s+24+i) 1 (by omega) (by omega) hl) ?_
  rintro _ _ ⟨rfl,rfl⟩
  have h1:=na1 b (s+24+i)
  have wu:IntKind.u8.wrap (na b (s+24+i) 1:Nat)=(na b (s+24+i) 1:Nat):=by rw[wrap_u8];omega
  have lt:=tR_len b (s+24) hi
  have ll:=cSt_len (x:=⟨na b s 8,na b (s+8) 8,na b (s+16) 8,tR b (s+24) i,na b (s+88) 4⟩) lt
  simp(disch:=first|assumption|omega|(simp only[LN]<;>omega)|(simp(disch:=first|assumption|omega|(simp only[LN]<;>omega))only[row_alloc,row_set];assumption))only[W_block,P3,↓reduceIte,reduceAdd,reduceEqDiff,reduceCtorEq,initFr,reduceLT,clsA,reduceLeDiff,reduceMul,reduceSub,reduceIte,wu,wrap_succ (n:=i) (by omega)]
  refine hnx _ _ _ ⟨i+1,_,by omega,rfl,?_,rfl⟩ (by omega)
  rw[cSt_setT (x:=⟨na b s 8,na b (s+8) 8,na b (s+16) 8,tR b (s+24) i,na b (s+88) 4⟩) (by rw[lt];exact hc) h1]
  simp only[tR_set b (s+24) hc]
 ·have hi64:i=64:=by omega
  subst hi64
  simp(disch:=first|assumption|omega|(simp only[LN]<;>omega)|(simp(disch:=first|assumption|omega|(simp only[LN]<;>omega))only[row_alloc,row_set];assumption))only[W_block,P3,↓reduceIte,reduceAdd,reduceEqDiff,reduceCtorEq,initFr,reduceLT,clsA,reduceLeDiff,reduceMul,reduceSub,reduceIte]
  refine hex _ _ _ ?_
  have ll:(cSt (deR b s)).length=68:=cSt_len (deR_rg b s).1
  have oo:=cSt_one (deR b s)
  have ed:(⟨na b s 8,na b (s+8) 8,na b (s+16) 8,tR b (s+24) 64,na b (s+88) 4⟩:St)=deR b s:=rfl
  rw[ed]
  simp(disch:=first|assumption|omega|(simp only[LN]<;>omega)|(simp(disch:=first|assumption|omega|(simp only[LN]<;>omega))only[row_alloc,row_set];assumption))only[W_block,P3,↓reduceIte,reduceAdd,reduceEqDiff,reduceCtorEq,initFr,reduceLT,clsA,reduceLeDiff,reduceMul,reduceSub,reduceIte,oo,lz]
  refine hq2 _ _ ⟨_,by rw[hr];simp(disch:=first|assumption|omega|(simp only[LN]<;>omega)|(simp(disch:=first|assumption|omega|(simp only[LN]<;>omega))only[row_alloc,row_set];assumption))only[W_block,P3,↓reduceIte,reduceAdd,reduceEqDiff,reduceCtorEq,initFr,reduceLT,clsA,reduceLeDiff,reduceMul,reduceSub,reduceIte],rfl,?_⟩
  ((repeat (first|exact Keeps.refl _|assumption|refine Keeps.alloc ?_ _|(refine Keeps.set ?_ (by first|omega|(simp only[alloc_n,set_n]<;>omega)) (by first|omega|(simp only[alloc_n,set_n]<;>omega)) _)|(refine Keeps.trans' (by assumption) ?_))))
end Go.AM.Fd

set_option linter.unusedSimpArgs false
set_option linter.unusedVariables false
namespace Go.AM.Fd
open Nat (reduceAdd reduceEqDiff reduceLT reduceLeDiff reduceMul reduceSub)
open Go.Proofs Go.AM.F
def tLo(o:Option Lo):Value:=match o with
 |some x=>GotB (cLo x) true
 |none=>GotB (cLo Lo0) false
theorem t105{H:AHeap}{v:Value}{b:List UInt8}(hb:BQ H v b)(hl:b.length≤1000000):∃w H',ARun Go.Proofs.Tryz.prog 0 105 [v] H w H'∧w=tLo (geLo b)∧H'=H:=by
 suffices h:∃w H',ARun Go.Proofs.Tryz.prog 0 105 [v] H w H'∧w=tLo (geLo b)∧Keeps H H' by
  obtain⟨_,_,a,rfl,k⟩:=h
  refine⟨_,_,a.gc0 k (.inr ?_),rfl,rfl⟩
  cases geLo b<;>exact GotB.nv (cLo_plain _) _
 refine walk2 f105_ok f105_n ?_
 intro Q hq1 hq2
 have hr:∀fr H',resO f105.res fr H'=(celln 70 (fr.getD 1 undef) H').map fun c=>.tuple #[c,fr.getD 2 undef]:=fun fr H'=>resCT 70 1 2 fr
 have lz:(Z70Q:List Value).length=70:=rfl
 have ozz:(Z70Q:List Value).all Value.oneCell'=true:=rfl
 have k0:=(Keeps.refl H).alloc (.cells true false 70 (Z70Q) 94)
 have hs:=hb.bs.sl
 have his:=hs.is
 have hlen:=hs.len
 rw[List.length_map]at hlen
 obtain⟨x,hx⟩:∃x,x=(⟨sg (na b 1 8),sg (na b 9 8),deR b 17⟩:Lo):=⟨_,rfl⟩
 have hrg:rgSt x.s:=by rw[hx];exact deR_rg _ _
 have lx:(cLo x).length=70:=cLo_len hrg.1
 have ox:=cLo_one x
 simp(disch:=first|assumption|omega|(simp only[LN]<;>omega)|(simp(disch:=first|assumption|omega|(simp only[LN]<;>omega))only[row_alloc,row_set];assumption))only[f105,W_block,P3,↓reduceIte,reduceAdd,reduceEqDiff,reduceCtorEq,initFr,reduceLT,clsA,reduceLeDiff,reduceMul,reduceSub,reduceIte,ozz]
 refine callK (t131 (hb.keeps k0) 1 8 (by omega) (by omega) (by omega)) ?_
 rintro _ _ ⟨rfl,rfl⟩
 simp(disch:=first|assumption|omega|(simp only[LN]<;>omega)|(simp(disch:=first|assumption|omega|(simp only[LN]<;>omega))only[row_alloc,row_set];assumption))only[W_block,P3,↓reduceIte,reduceAdd,reduceEqDiff,reduceCtorEq,initFr,reduceLT,clsA,reduceLeDiff,reduceMul,reduceSub,reduceIte]
 refine callK (t131 (hb.keeps k0) 9 8 (by omega) (by omega) (by omega)) ?_
 rintro _ _ ⟨rfl,rfl⟩
 simp(disch:=first|assumption|omega|(simp only[LN]<;>omega)|(simp(disch:=first|assumption|omega|(simp only[LN]<;>omega))only[row_alloc,row_set];assumption))only[W_block,P3,↓reduceIte,reduceAdd,reduceEqDiff,reduceCtorEq,initFr,reduceLT,clsA,reduceLeDiff,reduceMul,reduceSub,reduceIte]
 refine callK (t132 (hb.keeps k0) 17 (by omega) (by omega)) ?_
 rintro _ _ ⟨rfl,rfl⟩
 simp(disch:=first|assumption|omega|(simp only[LN]<;>omega)|(simp(disch:=first|assumption|omega|(simp only[LN]<;>omega))only[row_alloc,row_set];assumption))only[W_block,P3,↓reduceIte,reduceAdd,reduceEqDiff,reduceCtorEq,initFr,reduceLT,clsA,reduceLeDiff,reduceMul,reduceSub,reduceIte,fillLo (s:=deR b 17) (deR_rg b 17).1,ozz]
 rw[show(⟨IntKind.i64.wrap (na b 1 8),IntKind.i64.wrap (na b 9 8),deR b 17⟩:Lo)=x from hx.symm]
 simp(disch:=first|assumption|omega|(simp only[LN]<;>omega)|(simp(disch:=first|assumption|omega|(simp only[LN]<;>omega))only[row_alloc,row_set];assumption))only[W_block,P3,↓reduceIte,reduceAdd,reduceEqDiff,reduceCtorEq,initFr,reduceLT,clsA,reduceLeDiff,reduceMul,reduceSub,reduceIte,ozz,lz,ox,lx]
 refine callK (t109 x hrg _) ?_
 rintro v2 K2 o2
 have k2:=o2.k
 have kC:=k0.trans ((Keeps.refl _).alloc (.cells true false 70 (cLo x) 94))
 have tk:=tbk (hb.bs.keeps kC) k2
 have n2:=k2.n
 simp only[alloc_n]at n2
 have kb:=kC.trans k2
 have hb2:=hb.bs.keeps kb
 by_cases hb0:b=[]
 ·have hg:geLo b=none:=by
   cases hg:geLo b with
   |none=>rfl
   |some y=>have:=(geLo_some hg).2.2.2;rw[hb0]at this;simp at this
  by_cases heq:fLo x=b
  ·have e1:decide (fLo x=b)=true:=by simp[heq]
   have hb00:b.length=0:=by rw[hb0];rfl
   simp(disch:=first|assumption|omega|(simp only[LN]<;>omega)|(simp(disch:=first|assumption|omega|(simp only[LN]<;>omega))only[row_alloc,row_set,Keeps.row k2];assumption))only[Keeps.get k2,Keeps.row k2,W_block,P3,↓reduceIte,reduceAdd,reduceEqDiff,reduceCtorEq,initFr,reduceLT,clsA,reduceLeDiff,reduceMul,reduceSub,reduceIte,a_b2sB o2.bs,a_b2sB hb2,touch_b2s,ite_self,bytes_eq,e1,ox,lx,ozz,lz,hlen]
   refine⟨tk,?_⟩
   refine hq2 _ _ ⟨_,by rw[hr];simp(disch:=first|assumption|omega|(simp only[LN]<;>omega)|(simp(disch:=first|assumption|omega|(simp only[LN]<;>omega))only[row_alloc,row_set,Keeps.row k2];assumption))only[Keeps.get k2,Keeps.row k2,W_block,P3,↓reduceIte,reduceAdd,reduceEqDiff,reduceCtorEq,initFr,reduceLT,clsA,reduceLeDiff,reduceMul,reduceSub,reduceIte,ozz,lz];rfl,by rw[hg];rfl,?_⟩
   exact kb.set (Nat.le_refl _) (by omega) _
  ·have e1:decide (fLo x=b)=false:=by simp[heq]
   simp(disch:=first|assumption|omega|(simp only[LN]<;>omega)|(simp(disch:=first|assumption|omega|(simp only[LN]<;>omega))only[row_alloc,row_set,Keeps.row k2];assumption))only[Keeps.get k2,Keeps.row k2,W_block,P3,↓reduceIte,reduceAdd,reduceEqDiff,reduceCtorEq,initFr,reduceLT,clsA,reduceLeDiff,reduceMul,reduceSub,reduceIte,a_b2sB o2.bs,a_b2sB hb2,touch_b2s,ite_self,bytes_eq,e1,ox,lx,ozz,lz,hlen]
   refine⟨tk,?_⟩
   refine hq2 _ _ ⟨_,by rw[hr];simp(disch:=first|assumption|omega|(simp only[LN]<;>omega)|(simp(disch:=first|assumption|omega|(simp only[LN]<;>omega))only[row_alloc,row_set,Keeps.row k2];assumption))only[Keeps.get k2,Keeps.row k2,W_block,P3,↓reduceIte,reduceAdd,reduceEqDiff,reduceCtorEq,initFr,reduceLT,clsA,reduceLeDiff,reduceMul,reduceSub,reduceIte,ozz,lz];rfl,by rw[hg];rfl,?_⟩
   exact kb.set (Nat.le_refl _) (by omega) _
 have hbl:0<b.length:=List.length_pos_iff.2 hb0
 by_cases heq:fLo x=b
 ·have e1:decide (fLo x=b)=true:=by simp[heq]
  have hg:=geLo_of hrg hb0 heq
  simp(disch:=first|assumption|omega|(simp only[LN]<;>omega)|(simp(disch:=first|assumption|omega|(simp only[LN]<;>omega))only[row_alloc,row_set,Keeps.row k2];assumption))only[Keeps.get k2,Keeps.row k2,W_block,P3,↓reduceIte,reduceAdd,reduceEqDiff,reduceCtorEq,initFr,reduceLT,clsA,reduceLeDiff,reduceMul,reduceSub,reduceIte,a_b2sB o2.bs,a_b2sB hb2,touch_b2s,ite_self,bytes_eq,e1,ox,lx,ozz,lz,hlen]
  refine⟨tk,?_⟩
  refine hq2 _ _ ⟨_,by rw[hr];simp(disch:=first|assumption|omega|(simp only[LN]<;>omega)|(simp(disch:=first|assumption|omega|(simp only[LN]<;>omega))only[row_alloc,row_set,Keeps.row k2];assumption))only[Keeps.get k2,Keeps.row k2,W_block,P3,↓reduceIte,reduceAdd,reduceEqDiff,reduceCtorEq,initFr,reduceLT,clsA,reduceLeDiff,reduceMul,reduceSub,reduceIte,lx];rfl,by rw[hg];rfl,?_⟩
  exact kb.set (Nat.le_refl _) (by omega) _
 ·have e1:decide (fLo x=b)=false:=by simp[heq]
  have hg:geLo b=none:=by
   cases hg:geLo b with
   |none=>rfl
   |some y=>
    obtain⟨h1,h2,h3,h4⟩:=geLo_some hg
    have hxy:x=y:=by
     rw[hx,h3]
     unfold deLo
     rw[←na_bd (s:=0) (by omega),←na_bd (s:=8) (by omega),←deR_in (s:=16) (by omega)]
    subst hxy
    exact absurd h1 heq
  simp(disch:=first|assumption|omega|(simp only[LN]<;>omega)|(simp(disch:=first|assumption|omega|(simp only[LN]<;>omega))only[row_alloc,row_set,Keeps.row k2];assumption))only[Keeps.get k2,Keeps.row k2,W_block,P3,↓reduceIte,reduceAdd,reduceEqDiff,reduceCtorEq,initFr,reduceLT,clsA,reduceLeDiff,reduceMul,reduceSub,reduceIte,a_b2sB o2.bs,a_b2sB hb2,touch_b2s,ite_self,bytes_eq,e1,ox,lx,ozz,lz]
  refine⟨tk,?_⟩
  refine hq2 _ _ ⟨_,by rw[hr];simp(disch:=first|assumption|omega|(simp only[LN]<;>omega)|(simp(disch:=first|assumption|omega|(simp only[LN]<;>omega))only[row_alloc,row_set,Keeps.row k2];assumption))only[Keeps.get k2,Keeps.row k2,W_block,P3,↓reduceIte,reduceAdd,reduceEqDiff,reduceCtorEq,initFr,reduceLT,clsA,reduceLeDiff,reduceMul,reduceSub,reduceIte,ozz,lz];rfl,by rw[hg];rfl,?_⟩
  exact kb.set (Nat.le_refl _) (by omega) _
end Go.AM.Fd

set_option maxRecDepth 100000
set_option maxHeartbeats 0
namespace Go.AM.F
def Z72N:List Value:=[(.int .u8 0),(.int .u64 0),(.int .u64 0),(.int .u64 0)]++List.replicate 64 (.int .u8 0)++[(.int .u32 0),(.int .i64 0),(.int .i64 0),(.slice none 0 0)]
def Z68N:List Value:=[(.int .u64 0),(.int .u64 0),(.int .u64 0)]++List.replicate 64 (.int .u8 0)++[(.int .u32 0)]
def Z1224N:List Value:=[(.int .u8 0),(.int .u64 0),(.int .u64 0),(.int .u64 0)]++List.replicate 64 (.int .u8 0)++[(.int .u32 0),(.int .i64 0),(.int .i64 0),(.slice none 0 0),(.int .u8 0),(.int .u64 0),(.int .u64 0),(.int .u64 0)]++List.replicate 64 (.int .u8 0)++[(.int .u32 0),(.int .i64 0),(.int .i64 0),(.slice none 0 0),(.int .u8 0),(.int .u64 0),(.int .u64 0),(.int .u64 0)]++List.replicate 64 (.int .u8 0)++[(.int .u32 0),(.int .i64 0),(.int .i64 0),(.slice none 0 0),(.int .u8 0),(.int .u64 0),(.int .u64 0),(.int .u64 0)]++List.replicate 64 (.int .u8 0)++[(.int .u32 0),(.int .i64 0),(.int .i64 0),(.slice none 0 0),(.int .u8 0),(.int .u64 0),(.int .u64 0),(.int .u64 0)]++List.replicate 64 (.int .u8 0)++[(.int .u32 0),(.int .i64 0),(.int .i64 0),(.slice none 0 0),(.int .u8 0),(.int .u64 0),(.int .u64 0),(.int .u64 0)]++List.replicate 64 (.int .u8 0)++[(.int .u32 0),(.int .i64 0),(.int .i64 0),(.slice none 0 0),(.int .u8 0),(.int .u64 0),(.int .u64 0),(.int .u64 0)]++List.replicate 64 (.int .u8 0)++[(.int .u32 0),(.int .i64 0),(.int .i64 0),(.slice none 0 0),(.int .u8 0),(.int .u64 0),(.int .u64 0),(.int .u64 0)]++List.replicate 64 (.int .u8 0)++[(.int .u32 0),(.int .i64 0),(.int .i64 0),(.slice none 0 0),(.int .u8 0),(.int .u64 0),(.int .u64 0),(.int .u64 0)]++List.replicate 64 (.int .u8 0)++[(.int .u32 0),(.int .i64 0),(.int .i64 0),(.slice none 0 0),(.int .u8 0),(.int .u64 0),(.int .u64 0),(.int .u64 0)]++List.replicate 64 (.int .u8 0)++[(.int .u32 0),(.int .i64 0),(.int .i64 0),(.slice none 0 0),(.int .u8 0),(.int .u64 0),(.int .u64 0),(.int .u64 0)]++List.replicate 64 (.int .u8 0)++[(.int .u32 0),(.int .i64 0),(.int .i64 0),(.slice none 0 0),(.int .u8 0),(.int .u64 0),(.int .u64 0),(.int .u64 0)]++List.replicate 64 (.int .u8 0)++[(.int .u32 0),(.int .i64 0),(.int .i64 0),(.slice none 0 0),(.int .u8 0),(.int .u64 0),(.int .u64 0),(.int .u64 0)]++List.replicate 64 (.int .u8 0)++[(.int .u32 0),(.int .i64 0),(.int .i64 0),(.slice none 0 0),(.int .u8 0),(.int .u64 0),(.int .u64 0),(.int .u64 0)]++List.replicate 64 (.int .u8 0)++[(.int .u32 0),(.int .i64 0),(.int .i64 0),(.slice none 0 0),(.int .u8 0),(.int .u64 0),(.int .u64 0),(.int .u64 0)]++List.replicate 64 (.int .u8 0)++[(.int .u32 0),(.int .i64 0),(.int .i64 0),(.slice none 0 0),(.int .u8 0),(.int .u64 0),(.int .u64 0),(.int .u64 0)]++List.replicate 64 (.int .u8 0)++[(.int .u32 0),(.int .i64 0),(.int .i64 0),(.slice none 0 0),(.int .u8 0),(.int .u64 0),(.int .u64 0),(.int .u64 0)]++List.replicate 64 (.int .u8 0)++[(.int .u32 0),(.int .i64 0),(.int .i64 0),(.slice none 0 0)]
def Z70N:List Value:=[(.int .i64 0),(.int .i64 0),(.int .u64 0),(.int .u64 0),(.int .u64 0)]++List.replicate 64 (.int .u8 0)++[(.int .u32 0)]
def Z73N:List Value:=[(.pointer none),(.int .i64 0),(.int .i64 0),(.int .u64 0),(.int .u64 0),(.int .u64 0)]++List.replicate 64 (.int .u8 0)++[(.int .u32 0),(.bool false),(.int .i64 0)]
def O68N:List Nat:=List.replicate 68 1
def zclN:TypeId→List Value
 |91=>Z72N
 |89=>Z68N
 |159=>[(.pointer none)]
 |161=>[(.pointer none),.nilIface,(.int .i64 0)]
 |162=>Z70N
 |96=>Z73N
 |94=>Z70N
 |_=>[]
def zvlN:TypeId→Value
 |_=>undef
def zklN:TypeId→List Nat
 |89=>O68N
 |_=>[]
def zrlN:Nat→TypeId→List Value
 |1,5=>[(.int .u8 0)]
 |17,91=>Z1224N
 |5,3=>[(.int .i64 0),(.int .i64 0),(.int .i64 0),(.int .i64 0),(.int .i64 0)]
 |_,_=>[]
noncomputable def f7:AFunc:=by
 refine(fun(_:Cz zclN zvlN zklN zrlN Go.Proofs.Tryz.prog 0 [0,1,4,5,6,7,8,9,10,11,12,19,38,72,75,96,97,109,115,138,151] 7 ?a)=>?a) ?h
 case h=>
 intro zc zv zk zr hc hv hk hr
 conv=>lhs;cbv;try simp only[hc,hv,hk,hr,zclN,zvlN,zklN,zrlN]
theorem f7_ok:compF Go.Proofs.Tryz.prog 0 [0,1,4,5,6,7,8,9,10,11,12,19,38,72,75,96,97,109,115,138,151] 7=some f7:=by kernel_rfl
theorem f7_n:argsOK Go.Proofs.Tryz.prog 7 2=true:=by kernel_rfl
noncomputable def f51:AFunc:=by
 refine(fun(_:Cz zclN zvlN zklN zrlN Go.Proofs.Tryz.prog 0 [0,2,3,4,7,11,22] 51 ?a)=>?a) ?h
 case h=>
 intro zc zv zk zr hc hv hk hr
 conv=>lhs;cbv;try simp only[hc,hv,hk,hr,zclN,zvlN,zklN,zrlN]
theorem f51_ok:compF Go.Proofs.Tryz.prog 0 [0,2,3,4,7,11,22] 51=some f51:=by kernel_rfl
theorem f51_n:argsOK Go.Proofs.Tryz.prog 51 1=true:=by kernel_rfl
noncomputable def f52:AFunc:=by
 refine(fun(_:Cz zclN zvlN zklN zrlN Go.Proofs.Tryz.prog 0 [0,1,2,3,4,5,6,7,8,9,10,11,12,20] 52 ?a)=>?a) ?h
 case h=>
 intro zc zv zk zr hc hv hk hr
 conv=>lhs;cbv;try simp only[hc,hv,hk,hr,zclN,zvlN,zklN,zrlN]
theorem f52_ok:compF Go.Proofs.Tryz.prog 0 [0,1,2,3,4,5,6,7,8,9,10,11,12,20] 52=some f52:=by kernel_rfl
theorem f52_n:argsOK Go.Proofs.Tryz.prog 52 0=true:=by kernel_rfl
noncomputable def f53:AFunc:=by
 refine(fun(_:Cz zclN zvlN zklN zrlN Go.Proofs.Tryz.prog 0 [0,2,3,4,5,6,7,9,10,11,18,30,37] 53 ?a)=>?a) ?h
 case h=>
 intro zc zv zk zr hc hv hk hr
 conv=>lhs;cbv;try simp only[hc,hv,hk,hr,zclN,zvlN,zklN,zrlN]
theorem f53_ok:compF Go.Proofs.Tryz.prog 0 [0,2,3,4,5,6,7,9,10,11,18,30,37] 53=some f53:=by kernel_rfl
theorem f53_n:argsOK Go.Proofs.Tryz.prog 53 1=true:=by kernel_rfl
noncomputable def f54:AFunc:=by
 refine(fun(_:Cz zclN zvlN zklN zrlN Go.Proofs.Tryz.prog 0 [0,2,3,4,5,6,7,8,9,10,17,28,37] 54 ?a)=>?a) ?h
 case h=>
 intro zc zv zk zr hc hv hk hr
 conv=>lhs;cbv;try simp only[hc,hv,hk,hr,zclN,zvlN,zklN,zrlN]
theorem f54_ok:compF Go.Proofs.Tryz.prog 0 [0,2,3,4,5,6,7,8,9,10,17,28,37] 54=some f54:=by kernel_rfl
theorem f54_n:argsOK Go.Proofs.Tryz.prog 54 1=true:=by kernel_rfl
noncomputable def f55:AFunc:=by
 refine(fun(_:Cz zclN zvlN zklN zrlN Go.Proofs.Tryz.prog 0 [0,1,4,5,6,7,8,9,35,42,65] 55 ?a)=>?a) ?h
 case h=>
 intro zc zv zk zr hc hv hk hr
 conv=>lhs;cbv;try simp only[hc,hv,hk,hr,zclN,zvlN,zklN,zrlN]
theorem f55_ok:compF Go.Proofs.Tryz.prog 0 [0,1,4,5,6,7,8,9,35,42,65] 55=some f55:=by kernel_rfl
theorem f55_n:argsOK Go.Proofs.Tryz.prog 55 2=true:=by kernel_rfl
noncomputable def f56:AFunc:=by
 refine(fun(_:Cz zclN zvlN zklN zrlN Go.Proofs.Tryz.prog 0 [0,1,2,5,6,7,8,9,10,59] 56 ?a)=>?a) ?h
 case h=>
 intro zc zv zk zr hc hv hk hr
 conv=>lhs;cbv;try simp only[hc,hv,hk,hr,zclN,zvlN,zklN,zrlN]
theorem f56_ok:compF Go.Proofs.Tryz.prog 0 [0,1,2,5,6,7,8,9,10,59] 56=some f56:=by kernel_rfl
theorem f56_n:argsOK Go.Proofs.Tryz.prog 56 3=true:=by kernel_rfl
end Go.AM.F

set_option maxRecDepth 100000
set_option maxHeartbeats 0
namespace Go.AM.F
def Z70O:List Value:=[(.int .i64 0),(.int .i64 0),(.int .u64 0),(.int .u64 0),(.int .u64 0)]++List.replicate 64 (.int .u8 0)++[(.int .u32 0)]
def O68O:List Nat:=List.replicate 68 1
def Z68O:List Value:=[(.int .u64 0),(.int .u64 0),(.int .u64 0)]++List.replicate 64 (.int .u8 0)++[(.int .u32 0)]
def Z72O:List Value:=[(.int .u8 0),(.int .u64 0),(.int .u64 0),(.int .u64 0)]++List.replicate 64 (.int .u8 0)++[(.int .u32 0),(.int .i64 0),(.int .i64 0),(.slice none 0 0)]
def zclO:TypeId→List Value
 |162=>Z70O
 |94=>Z70O
 |89=>Z68O
 |91=>Z72O
 |_=>[]
def zvlO:TypeId→Value
 |_=>undef
def zklO:TypeId→List Nat
 |89=>O68O
 |_=>[]
def zrlO:Nat→TypeId→List Value
 |_,_=>[]
noncomputable def f57:AFunc:=by
 refine(fun(_:Cz zclO zvlO zklO zrlO Go.Proofs.Tryz.prog 0 [0,2,4] 57 ?a)=>?a) ?h
 case h=>
 intro zc zv zk zr hc hv hk hr
 conv=>lhs;cbv;try simp only[hc,hv,hk,hr,zclO,zvlO,zklO,zrlO]
theorem f57_ok:compF Go.Proofs.Tryz.prog 0 [0,2,4] 57=some f57:=by kernel_rfl
theorem f57_n:argsOK Go.Proofs.Tryz.prog 57 1=true:=by kernel_rfl
noncomputable def f58:AFunc:=by
 refine(fun(_:Cz zclO zvlO zklO zrlO Go.Proofs.Tryz.prog 0 [0,1,2,3,5,8,9,10,11,17,20,31,39,66] 58 ?a)=>?a) ?h
 case h=>
 intro zc zv zk zr hc hv hk hr
 conv=>lhs;cbv;try simp only[hc,hv,hk,hr,zclO,zvlO,zklO,zrlO]
theorem f58_ok:compF Go.Proofs.Tryz.prog 0 [0,1,2,3,5,8,9,10,11,17,20,31,39,66] 58=some f58:=by kernel_rfl
theorem f58_n:argsOK Go.Proofs.Tryz.prog 58 4=true:=by kernel_rfl
noncomputable def f59:AFunc:=by
 refine(fun(_:Cz zclO zvlO zklO zrlO Go.Proofs.Tryz.prog 0 [0,1,2,3,5,8,9,10,11,20,34,70] 59 ?a)=>?a) ?h
 case h=>
 intro zc zv zk zr hc hv hk hr
 conv=>lhs;cbv;try simp only[hc,hv,hk,hr,zclO,zvlO,zklO,zrlO]
theorem f59_ok:compF Go.Proofs.Tryz.prog 0 [0,1,2,3,5,8,9,10,11,20,34,70] 59=some f59:=by kernel_rfl
theorem f59_n:argsOK Go.Proofs.Tryz.prog 59 4=true:=by kernel_rfl
noncomputable def f60:AFunc:=by
 refine(fun(_:Cz zclO zvlO zklO zrlO Go.Proofs.Tryz.prog 0 [0,2,3,4,5,6,7] 60 ?a)=>?a) ?h
 case h=>
 intro zc zv zk zr hc hv hk hr
 conv=>lhs;cbv;try simp only[hc,hv,hk,hr,zclO,zvlO,zklO,zrlO]
theorem f60_ok:compF Go.Proofs.Tryz.prog 0 [0,2,3,4,5,6,7] 60=some f60:=by kernel_rfl
theorem f60_n:argsOK Go.Proofs.Tryz.prog 60 1=true:=by kernel_rfl
noncomputable def f61:AFunc:=by
 refine(fun(_:Cz zclO zvlO zklO zrlO Go.Proofs.Tryz.prog 0 [0,1,3,4,5] 61 ?a)=>?a) ?h
 case h=>
 intro zc zv zk zr hc hv hk hr
 conv=>lhs;cbv;try simp only[hc,hv,hk,hr,zclO,zvlO,zklO,zrlO]
theorem f61_ok:compF Go.Proofs.Tryz.prog 0 [0,1,3,4,5] 61=some f61:=by kernel_rfl
theorem f61_n:argsOK Go.Proofs.Tryz.prog 61 2=true:=by kernel_rfl
noncomputable def f62:AFunc:=by
 refine(fun(_:Cz zclO zvlO zklO zrlO Go.Proofs.Tryz.prog 0 [0,2,4] 62 ?a)=>?a) ?h
 case h=>
 intro zc zv zk zr hc hv hk hr
 conv=>lhs;cbv;try simp only[hc,hv,hk,hr,zclO,zvlO,zklO,zrlO]
theorem f62_ok:compF Go.Proofs.Tryz.prog 0 [0,2,4] 62=some f62:=by kernel_rfl
theorem f62_n:argsOK Go.Proofs.Tryz.prog 62 1=true:=by kernel_rfl
end Go.AM.F

set_option linter.unusedSimpArgs false
set_option linter.unusedVariables false
namespace Go.AM.Fd
open Nat (reduceAdd reduceEqDiff reduceLT reduceLeDiff reduceMul reduceSub)
open Go.Proofs Go.AM.F
def hasV(o:Option Lo):Value:=match o with
 |none=>.nilIface
 |some x=>.iface 162 (.agg (cLo x).toArray)
def lsC(c:Nat)(o:Option Lo)(w:Nat):AO:=.cells true false 3 [ptr c 0,hasV o,.int .i64 (w:Nat)] 161
def rsL(d:Nat)(o:Option Lo)(w:Nat):List Value:=ptr d 0::(cLo (o.getD Lo0)++[.bool o.isSome,.int .i64 (w:Nat)])
def rsC(d:Nat)(o:Option Lo)(w:Nat):AO:=.cells true false 73 (rsL d o w) 96
structure OkL (o:Option Lo):Prop where
 r:rgSt (o.getD Lo0).s
 c:okLo (o.getD Lo0)=true
theorem OkL.len{o:Option Lo}(h:OkL o):(cLo (o.getD Lo0)).length=70:=cLo_len h.r.ht
theorem hasV_one(o:Option Lo):(hasV o).oneCell'=true:=by cases o<;>rfl
theorem a_assertN(t:TypeId)(z:Value)(H:AHeap):asem (.assert t z true .nilIface) H=some (.tuple #[z,.bool false],H):=rfl
theorem z70:(.agg Z70Q.toArray:Value)=.agg (cLo Lo0).toArray:=by
 have:Z70Q=cLo Lo0:=by rfl
 rw[this]
section
variable {K:AHeap} {s c:Nat} {o:Option Lo} {w:Nat}
theorem t106(hg:K.get s=some (lsC c o w))(ho:OkL o):∃v K',ARun Go.Proofs.Tryz.prog 0 106 [ptr s 0] K v K'∧v=tLo o∧Keeps K K':=by
 refine walk2 f106_ok f106_n ?_
 intro Q hq1 hq2
 unfold lsC at hg
 have hr:∀fr H',resO f106.res fr H'=(celln 70 (fr.getD 1 undef) H').map fun c=>.tuple #[c,fr.getD 2 undef]:=fun fr H'=>resCT 70 1 2 fr
 have lz:Z70Q.length=70:=rfl
 have ozz:Z70Q.all Value.oneCell'=true:=rfl
 have lx:=ho.len
 have ox:=cLo_one (o.getD Lo0)
 have hlt:=AHeap.get_lt hg
 cases o with
 |none=>
  simp(disch:=first|assumption|omega|(simp only[LN]<;>omega)|(simp(disch:=first|assumption|omega|(simp only[LN]<;>omega))only[row_alloc,row_set];assumption))only[f106,W_block,P3,↓reduceIte,reduceAdd,reduceEqDiff,reduceCtorEq,initFr,reduceLT,clsA,reduceLeDiff,reduceMul,reduceSub,reduceIte,hg,hasV,a_assertN,ozz]
  refine hq2 _ _ ⟨_,by rw[hr];simp(disch:=first|assumption|omega|(simp only[LN]<;>omega)|(simp(disch:=first|assumption|omega|(simp only[LN]<;>omega))only[row_alloc,row_set];assumption))only[W_block,P3,↓reduceIte,reduceAdd,reduceEqDiff,reduceCtorEq,initFr,reduceLT,clsA,reduceLeDiff,reduceMul,reduceSub,reduceIte,ozz];rfl,?_,by((repeat (first|exact Keeps.refl _|assumption|refine Keeps.alloc ?_ _|(refine Keeps.set ?_ (by first|omega|(simp only[alloc_n,set_n]<;>omega)) (by first|omega|(simp only[alloc_n,set_n]<;>omega)) _)|(refine Keeps.trans' (by assumption) ?_))))⟩
  rw[z70];rfl
 |some x=>
  replace lx:(cLo x).length=70:=lx
  replace ox:(cLo x).all Value.oneCell'=true:=ox
  simp(disch:=first|assumption|omega|(simp only[LN]<;>omega)|(simp(disch:=first|assumption|omega|(simp only[LN]<;>omega))only[row_alloc,row_set];assumption))only[f106,W_block,P3,↓reduceIte,reduceAdd,reduceEqDiff,reduceCtorEq,initFr,reduceLT,clsA,reduceLeDiff,reduceMul,reduceSub,reduceIte,hg,hasV,ozz,ox]
  exact hq2 _ _ ⟨_,by rw[hr];simp(disch:=first|assumption|omega|(simp only[LN]<;>omega)|(simp(disch:=first|assumption|omega|(simp only[LN]<;>omega))only[row_alloc,row_set];assumption))only[W_block,P3,↓reduceIte,reduceAdd,reduceEqDiff,reduceCtorEq,initFr,reduceLT,clsA,reduceLeDiff,reduceMul,reduceSub,reduceIte,ozz,ox];rfl,rfl,by((repeat (first|exact Keeps.refl _|assumption|refine Keeps.alloc ?_ _|(refine Keeps.set ?_ (by first|omega|(simp only[alloc_n,set_n]<;>omega)) (by first|omega|(simp only[alloc_n,set_n]<;>omega)) _)|(refine Keeps.trans' (by assumption) ?_))))⟩
theorem resC4{H:AHeap}(n i j k l:Nat)(fr:List Value):resO [.cn n i,.t j,.t k,.t l] fr H=(celln n (fr.getD i undef) H).map fun c=>.tuple #[c,fr.getD j undef,fr.getD k undef,fr.getD l undef]:=by
 simp only[resO,resVs,RX.get]
 cases celln n (fr.getD i undef) H<;>rfl
theorem t60(hg:K.get s=some (lsC c o w))(ho:OkL o):∃v K',ARun Go.Proofs.Tryz.prog 0 60 [ptr s 0] K v K'∧v=.tuple #[.agg (cSt (o.getD Lo0).s).toArray,.int .i64 (o.getD Lo0).e,.int .i64 (o.getD Lo0).c,.bool o.isSome]∧Keeps K K':=by
 refine walk2 f60_ok f60_n ?_
 intro Q hq1 hq2
 have hr:∀fr H',resO f60.res fr H'=(celln 68 (fr.getD 1 undef) H').map fun c=>.tuple #[c,fr.getD 2 undef,fr.getD 3 undef,fr.getD 4 undef]:=fun fr H'=>resC4 68 1 2 3 4 fr
 have lz:Z68O.length=68:=rfl
 have ozz:Z68O.all Value.oneCell'=true:=rfl
 have lz2:Z70O.length=70:=rfl
 have oz2:Z70O.all Value.oneCell'=true:=rfl
 have lx:=ho.len
 have ox:=cLo_one (o.getD Lo0)
 have ht:=ho.r.ht
 have et:tLo o=.tuple #[.agg (cLo (o.getD Lo0)).toArray,.bool o.isSome]:=by cases o<;>rfl
 have sp:∀X,Keeps K X→∃v K',ARun Go.Proofs.Tryz.prog 0 106 [ptr s 0] X v K'∧v=.tuple #[.agg (cLo (o.getD Lo0)).toArray,.bool o.isSome]∧Keeps X K':=fun X k=>by rw[←et];exact t106 (k.at_ hg) ho
 generalize o.getD Lo0=y at*
 generalize o.isSome=z at*
 have l2:=cSt_len ht
 have o2:=cSt_one y.s
 simp(disch:=first|assumption|omega|(simp only[LN]<;>omega)|(simp(disch:=first|assumption|omega|(simp only[LN]<;>omega))only[row_alloc,row_set];assumption))only[f60,W_block,P3,↓reduceIte,reduceAdd,reduceEqDiff,reduceCtorEq,initFr,reduceLT,clsA,reduceLeDiff,reduceMul,reduceSub,reduceIte,ozz]
 refine callK (sp _ (by((repeat (first|exact Keeps.refl _|assumption|refine Keeps.alloc ?_ _|(refine Keeps.set ?_ (by first|omega|(simp only[alloc_n,set_n]<;>omega)) (by first|omega|(simp only[alloc_n,set_n]<;>omega)) _)|(refine Keeps.trans' (by assumption) ?_)))))) ?_
 rintro _ K1 ⟨rfl,k1⟩
 have g1:=k1.at_ (AHeap.get_alloc_new K _)
 have n1:=k1.n
 simp only[alloc_n]at n1
 simp(disch:=first|assumption|omega|(simp only[LN]<;>omega)|(simp(disch:=first|assumption|omega|(simp only[LN]<;>omega))only[row_alloc,row_set,Keeps.row k1];assumption))only[Keeps.get k1,Keeps.row k1,W_block,P3,↓reduceIte,reduceAdd,reduceEqDiff,reduceCtorEq,initFr,reduceLT,clsA,reduceLeDiff,reduceMul,reduceSub,reduceIte,oz2,ozz,g1,ox,cLo_0,cLo_1,cLo_s ht,o2]
 exact⟨by simp,hq2 _ _ ⟨_,by rw[hr];simp(disch:=first|assumption|omega|(simp only[LN]<;>omega)|(simp(disch:=first|assumption|omega|(simp only[LN]<;>omega))only[row_alloc,row_set,Keeps.row k1];assumption))only[Keeps.get k1,Keeps.row k1,W_block,P3,↓reduceIte,reduceAdd,reduceEqDiff,reduceCtorEq,initFr,reduceLT,clsA,reduceLeDiff,reduceMul,reduceSub,reduceIte,ozz,ox,o2],rfl,by((repeat (first|exact Keeps.refl _|assumption|refine Keeps.alloc ?_ _|(refine Keeps.set ?_ (by first|omega|(simp only[alloc_n,set_n]<;>omega)) (by first|omega|(simp only[alloc_n,set_n]<;>omega)) _)|(refine Keeps.trans' (by assumption) ?_))))⟩⟩
def notB(a b:Nat):Value:=.bool (IntKind.u64.wrap (BitVec.ofInt 64 (a:Nat)&&& ~~~ BitVec.ofInt 64 (b:Nat)).toNat==0)
theorem t61(hg:K.get s=some (lsC c o w))(ho:OkL o)(x:St)(hx:rgSt x):∃v K',ARun Go.Proofs.Tryz.prog 0 61 [ptr s 0,.agg (cSt x).toArray] K v K'∧v=notB x.a (o.getD Lo0).s.a∧Keeps K K':=by
 refine walk2 f61_ok f61_n ?_
 intro Q hq1 hq2
 have lz2:Z70O.length=70:=rfl
 have oz2:Z70O.all Value.oneCell'=true:=rfl
 have lx:=ho.len
 have ox:=cLo_one (o.getD Lo0)
 have ht:=ho.r.ht
 have et:tLo o=.tuple #[.agg (cLo (o.getD Lo0)).toArray,.bool o.isSome]:=by cases o<;>rfl
 have sp:∀X,Keeps K X→∃v K',ARun Go.Proofs.Tryz.prog 0 106 [ptr s 0] X v K'∧v=.tuple #[.agg (cLo (o.getD Lo0)).toArray,.bool o.isSome]∧Keeps X K':=fun X k=>by rw[←et];exact t106 (k.at_ hg) ho
 generalize o.getD Lo0=y at*
 generalize o.isSome=z at*
 have l2:=cSt_len hx.ht
 have o2:=cSt_one x
 simp(disch:=first|assumption|omega|(simp only[LN]<;>omega)|(simp(disch:=first|assumption|omega|(simp only[LN]<;>omega))only[row_alloc,row_set];assumption))only[f61,W_block,P3,↓reduceIte,reduceAdd,reduceEqDiff,reduceCtorEq,initFr,reduceLT,clsA,reduceLeDiff,reduceMul,reduceSub,reduceIte,o2]
 refine callK (sp _ (by((repeat (first|exact Keeps.refl _|assumption|refine Keeps.alloc ?_ _|(refine Keeps.set ?_ (by first|omega|(simp only[alloc_n,set_n]<;>omega)) (by first|omega|(simp only[alloc_n,set_n]<;>omega)) _)|(refine Keeps.trans' (by assumption) ?_)))))) ?_
 rintro _ K1 ⟨rfl,k1⟩
 have g1:=k1.at_ (AHeap.get_alloc_new K _)
 have n1:=k1.n
 simp only[alloc_n]at n1
 have c0:(cSt x)[0]? =some (.int .u64 (x.a:Nat)):=rfl
 have c2:(cLo y)[2]? =some (.int .u64 (y.s.a:Nat)):=rfl
 have ba:binA .andNot (.int .u64 (x.a:Nat)) (.int .u64 (y.s.a:Nat))=some (.int .u64 (IntKind.u64.wrap (BitVec.ofInt 64 (x.a:Nat)&&& ~~~ BitVec.ofInt 64 (y.s.a:Nat)).toNat)):=rfl
 simp(disch:=first|assumption|omega|(simp only[LN]<;>omega)|(simp(disch:=first|assumption|omega|(simp only[LN]<;>omega))only[row_alloc,row_set,Keeps.row k1];assumption))only[Keeps.get k1,Keeps.row k1,W_block,P3,↓reduceIte,reduceAdd,reduceEqDiff,reduceCtorEq,initFr,reduceLT,clsA,reduceLeDiff,reduceMul,reduceSub,reduceIte,oz2,g1,ox,o2,c0,c2,ba]
 exact hq2 _ _ ⟨_,rfl,rfl,by((repeat (first|exact Keeps.refl _|assumption|refine Keeps.alloc ?_ _|(refine Keeps.set ?_ (by first|omega|(simp only[alloc_n,set_n]<;>omega)) (by first|omega|(simp only[alloc_n,set_n]<;>omega)) _)|(refine Keeps.trans' (by assumption) ?_))))⟩
theorem t62(hg:K.get s=some (lsC c o w)):∃v K',ARun Go.Proofs.Tryz.prog 0 62 [ptr s 0] K v K'∧v=.int .i64 (w:Nat)∧K'=K:=by
 refine walk2 f62_ok f62_n ?_
 intro Q hq1 hq2
 unfold lsC at hg
 simp(disch:=first|assumption|omega|(simp only[LN]<;>omega)|(simp(disch:=first|assumption|omega|(simp only[LN]<;>omega))only[row_alloc,row_set];assumption))only[f62,W_block,P3,↓reduceIte,reduceAdd,reduceEqDiff,reduceCtorEq,initFr,reduceLT,clsA,reduceLeDiff,reduceMul,reduceSub,reduceIte,hg]
 exact hq2 _ _ ⟨_,rfl,rfl,rfl⟩
theorem t108(n:Int)(K:AHeap):∃v K',ARun Go.Proofs.Tryz.prog 0 108 [.int .i64 n] K v K'∧v=.bool (cyB n)∧K'=K:=by
 refine walk2 f108_ok f108_n ?_
 intro Q hq1 hq2
 by_cases h0:0≤n
 ·simp(disch:=first|assumption|omega|(simp only[LN]<;>omega)|(simp(disch:=first|assumption|omega|(simp only[LN]<;>omega))only[row_alloc,row_set];assumption))only[f108,W_block,P3,↓reduceIte,reduceAdd,reduceEqDiff,reduceCtorEq,initFr,reduceLT,clsA,reduceLeDiff,reduceMul,reduceSub,reduceIte]
  exact hq2 _ _ ⟨_,rfl,by simp[cyB,h0,tupV],rfl⟩
 ·simp(disch:=first|assumption|omega|(simp only[LN]<;>omega)|(simp(disch:=first|assumption|omega|(simp only[LN]<;>omega))only[row_alloc,row_set];assumption))only[f108,W_block,P3,↓reduceIte,reduceAdd,reduceEqDiff,reduceCtorEq,initFr,reduceLT,clsA,reduceLeDiff,reduceMul,reduceSub,reduceIte]
  exact hq2 _ _ ⟨_,rfl,by simp[cyB,h0,tupV],rfl⟩
theorem eqCs_app:∀(ks:List Nat) (xs ys:List Value) {a b:Bool} {ks':List Nat} {xs' ys':List Value},xs.length=ks.length→ys.length=ks.length→eqCs ks xs ys=some a→eqCs ks' xs' ys'=some b→eqCs (ks++ks') (xs++xs') (ys++ys')=some (a&&b)
 |[],[],[],a,b,_,_,_,_,_,h1,h2=>by simp only[eqCs,Option.some.injEq]at h1;subst h1;simpa using h2
 |k::ks,x::xs,y::ys,a,b,ks',xs',ys',e1,e2,h1,h2=>by
  simp only[eqCs]at h1
  cases hc:eqC k x y with
  |none=>rw[hc]at h1;simp at h1
  |some u=>
   cases hd:eqCs ks xs ys with
   |none=>rw[hc,hd]at h1;simp at h1
   |some w=>
    rw[hc,hd]at h1
    simp only[Option.some.injEq]at h1
    have:=eqCs_app ks xs ys (by simpa using e1) (by simpa using e2) hd h2
    simp only[List.cons_append,eqCs,hc,this,←h1,Bool.and_assoc]
 |[],_::_,_,_,_,_,_,_,h,_,_,_=>by simp at h
 |[],[],_::_,_,_,_,_,_,_,h,_,_=>by simp at h
 |_::_,[],_,_,_,_,_,_,h,_,_,_=>by simp at h
 |_::_,_::_,[],_,_,_,_,_,_,h,_,_=>by simp at h
theorem eqCs_bytes:∀(l m:List UInt8),l.length=m.length→eqCs (List.replicate l.length 1) (cellsOf l) (cellsOf m)=some (decide (l=m))
 |[],[],_=>by simp[eqCs,cellsOf]
 |a::l,b::m,h=>by
  have ih:=eqCs_bytes l m (by simpa using h)
  simp only[cellsOf]at ih
  simp only[cellsOf,List.length_cons,List.replicate_succ,List.map_cons,eqCs,eqC,if_true,ih]
  congr 1
  rw[Bool.eq_iff_iff]
  simp only[Bool.and_eq_true,beq_iff_eq,decide_eq_true_eq,List.cons.injEq]
  constructor
  ·rintro⟨h1,h2⟩;exact⟨UInt8.toNat_inj.1 (by omega),h2⟩
  ·rintro⟨h1,h2⟩;exact⟨by rw[h1],h2⟩
 |[],_::_,h=>by simp at h
 |_::_,[],h=>by simp at h
def stB(x y:St):Bool:=(x.a==y.a&&(x.b==y.b&&x.c==y.c))&&(decide (x.t=y.t)&&x.p==y.p)
theorem stB_iff(x y:St):stB x y=true↔x=y:=by
 cases x;cases y
 simp[stB,and_assoc]
theorem beq_nat(a b:Nat):(((a:Nat):Int)==((b:Nat):Int))=(a==b):=by
 rw[Bool.eq_iff_iff,beq_iff_eq,beq_iff_eq];omega
theorem eq_cSt(H:AHeap)(neg:Bool){x y:St}(hx:rgSt x)(hy:rgSt y):asem (.eqs (List.replicate 68 1) neg (.agg (cSt x).toArray) (.agg (cSt y).toArray)) H=some (.bool (if neg then !stB x y else stB x y),H):=by
 have h1:eqCs [1,1,1] [.int .u64 (x.a:Nat),.int .u64 (x.b:Nat),.int .u64 (x.c:Nat)] [.int .u64 (y.a:Nat),.int .u64 (y.b:Nat),.int .u64 (y.c:Nat)]=some (x.a==y.a&&(x.b==y.b&&x.c==y.c)):=by simp[eqCs,eqC,beq_nat]
 have h2:=eqCs_bytes x.t y.t (by rw[hx.ht,hy.ht])
 have h3:eqCs [1] [.int .u32 (x.p:Nat)] [.int .u32 (y.p:Nat)]=some (x.p==y.p):=by simp[eqCs,eqC,beq_nat]
 have h4:=eqCs_app _ _ _ rfl rfl h1 (eqCs_app _ _ _ (by simp[cellsOf]) (by simp[cellsOf,hx.ht,hy.ht]) h2 h3)
 rw[hx.ht]at h4
 have e1:(List.replicate 68 1:List Nat)=[1,1,1]++(List.replicate 64 1++[1]):=rfl
 simp only[asem]
 rw[e1]
 have h5:eqCs ([1,1,1]++(List.replicate 64 1++[1])) (cSt x).toArray.toList (cSt y).toArray.toList=some (stB x y):=h4
 rw[h5]
 rfl
end
end Go.AM.Fd

set_option linter.unusedSimpArgs false
set_option linter.unusedVariables false
namespace Go.AM.Fd
open Nat (reduceAdd reduceEqDiff reduceLT reduceLeDiff reduceMul reduceSub)
open Go.Proofs Go.AM.F
def saveT(D:Dk)(L:Lg)(o:Option Lo)(w:Nat)(y:Lo):Dk×Lg×Option Lo×Nat×Int:=
 if(saveW D L (fLo y)).2.2 =0 then((saveW D L (fLo y)).1,(saveW D L (fLo y)).2.1,some y,w+1,0)
 else((saveW D L (fLo y)).1,(saveW D L (fLo y)).2.1,o,w,(saveW D L (fLo y)).2.2)
def saveL(D:Dk)(L:Lg)(o:Option Lo)(w:Nat)(x:St)(e c:Int):Dk×Lg×Option Lo×Nat×Int:=
 if¬((0≤e∧0≤c)∧e≤1099511627776∧c≤1099511627776)then(D,L,o,w,2)else
 if o.isSome=true∧e<(o.getD Lo0).e then(D,L,o,w,230)else
 if o.isSome=true∧e=(o.getD Lo0).e∧stB x (o.getD Lo0).s=true then(D,L,o,w,0)else
 saveT D L o w ⟨e,c,x⟩
theorem fLo_len(x:Lo)(h:rgSt x.s):(fLo x).length≤1000:=by
 unfold fLo
 split
 ·rw[chk_len,List.length_cons,enLo_len h.ht];omega
 ·simp
structure LkS (A:List Th) (K0 K:AHeap) (s c lb b sb:Nat) (v:Value) (ab:Option Nat) (rv:Value) (items:List (Value×List UInt8)) (D:Dk) (L:Lg) (o:Option Lo) (w:Nat):Prop where
 u:Upd A (thB s (lsC c o w)::cT c lb b sb v ab rv items D L) K0 K
 ok:D.ok
 n3:3≤D.bl.length
 it:items.map (·.2)=L.rs
 lok:L.ok
 r:OkL o
 hw:w≤1000000
section
variable {A:List Th} {K0 K:AHeap} {s c lb b sb:Nat} {v rv:Value} {ab:Option Nat} {items:List (Value×List UInt8)} {D:Dk} {L:Lg} {o:Option Lo} {w:Nat}
theorem LkS.ck(h:LkS A K0 K s c lb b sb v ab rv items D L o w):CkS (cT c lb b sb v ab rv items D L) K K c lb b sb v ab rv items D L:=⟨Upd.refl (Sep.right (A:=[thB s (lsC c o w)]) h.u.sep),h.ok,h.n3,h.it,h.lok⟩
theorem LkS.gs(h:LkS A K0 K s c lb b sb v ab rv items D L o w):K.get s=some (lsC c o w):=h.u.sep.get 0 rfl
theorem LkS.keeps{K':AHeap}(h:LkS A K0 K s c lb b sb v ab rv items D L o w)(k:Keeps K K'):LkS A K0 K' s c lb b sb v ab rv items D L o w:=⟨h.u.keeps' k,h.ok,h.n3,h.it,h.lok,h.r,h.hw⟩
theorem LkS.sf(h:LkS A K0 K s c lb b sb v ab rv items D L o w):s∉fp (cT c lb b sb v ab rv items D L):=fun hz=>by
 obtain⟨x,hx,h1⟩:=mem_fp.1 hz
 exact(List.pairwise_cons.1 h.u.sep.ap).1 x hx s (by simp[thB]) h1
theorem LkS.check(h:LkS A K0 K s c lb b sb v ab rv items D L o w)(hs:D.st<999999)(hm:D.op.length<999999)(hT:L.turn<8999999999999999999)(hF:L.next≤9000000000000000000):∃x K',ARun Go.Proofs.Tryz.prog 0 57 [ptr s 0] K x K'∧x=.int .i64 (checkW D L).2.2 ∧∃v' ab' rv' items',LkS A K0 K' s c lb b sb v' ab' rv' items' (checkW D L).1 (checkW D L).2.1 o w:=by
 refine walk2 f57_ok f57_n ?_
 intro Q hq1 hq2
 have hg:=h.gs
 unfold lsC at hg
 simp(disch:=first|assumption|omega|(simp only[LN]<;>omega)|(simp(disch:=first|assumption|omega|(simp only[LN]<;>omega))only[row_alloc,row_set];assumption))only[f57,W_block,P3,↓reduceIte,reduceAdd,reduceEqDiff,reduceCtorEq,initFr,reduceLT,clsA,reduceLeDiff,reduceMul,reduceSub,reduceIte,hg]
 refine callK (h.ck.check hs hm hT hF) ?_
 rintro _ K1 ⟨rfl,v',ab',rv',it',s1⟩
 simp(disch:=first|assumption|omega|(simp only[LN]<;>omega)|(simp(disch:=first|assumption|omega|(simp only[LN]<;>omega))only[row_alloc,row_set];assumption))only[W_block,P3,↓reduceIte,reduceAdd,reduceEqDiff,reduceCtorEq,initFr,reduceLT,clsA,reduceLeDiff,reduceMul,reduceSub,reduceIte]
 exact hq2 _ _ ⟨_,rfl,rfl,v',ab',rv',it',h.u.trans (s1.u.extR (A:=[thB s (lsC c o w)]) h.u.sep),s1.ok,s1.n3,s1.it,s1.lok,h.r,h.hw⟩
theorem LkS.save(h:LkS A K0 K s c lb b sb v ab rv items D L o w)(hs:D.st<999990)(hm:D.op.length<999990)(hT:L.turn<8999999999999999999)(hF:L.next≤9000000000000000000)(hw:w<1000000){x:St}(hx:rgSt x)(e cy:Int):
 ∃y K',ARun Go.Proofs.Tryz.prog 0 58 [ptr s 0,.agg (cSt x).toArray,.int .i64 e,.int .i64 cy] K y K'∧y=.int .i64 (saveL D L o w x e cy).2.2.2.2 ∧∃v' ab' rv' items',LkS A K0 K' s c lb b sb v' ab' rv' items' (saveL D L o w x e cy).1 (saveL D L o w x e cy).2.1 (saveL D L o w x e cy).2.2.1 (saveL D L o w x e cy).2.2.2.1 :=by
 refine walk2 f58_ok f58_n ?_
 intro Q hq1 hq2
 have hg:=h.gs
 have ho:=h.r
 have lz2:Z70O.length=70:=rfl
 have oz2:Z70O.all Value.oneCell'=true:=rfl
 have lx:=ho.len
 have ox:=cLo_one (o.getD Lo0)
 have ht:=ho.r.ht
 have et:tLo o=.tuple #[.agg (cLo (o.getD Lo0)).toArray,.bool o.isSome]:=by cases o<;>rfl
 have sp:∀X,Keeps K X→∃v K',ARun Go.Proofs.Tryz.prog 0 106 [ptr s 0] X v K'∧v=.tuple #[.agg (cLo (o.getD Lo0)).toArray,.bool o.isSome]∧Keeps X K':=fun X k=>by rw[←et];exact t106 (k.at_ hg) ho
 have l2:=cSt_len hx.ht
 have o2:=cSt_one x
 refine W_part 3 (fun fr X=>∃(m:Nat) (y9 y10 y11 y12:Value),fr=[ptr s 0,.agg (cSt x).toArray,.int .i64 e,.int .i64 cy,ptr K.n 0,.int .i64 0,ptr m 0,.bool o.isSome,undef,y9,y10,y11,y12,undef]∧Keeps K X∧X.get K.n=some (.cells true false 68 (cSt x) 89)∧X.get m=some (.cells true false 70 (cLo (o.getD Lo0)) 162)∧K.n<m∧((0≤e∧0≤cy)∧e≤1099511627776∧cy≤1099511627776)∧saveL D L o w x e cy=saveT D L o w ⟨e,cy,x⟩) (by kernel_rfl) ?_ ?_
 ·intro Q' hk hex hret
  replace hq2:=fun fr H2 h=>hret fr H2 (hq2 fr H2 h)
  simp(disch:=first|assumption|omega|(simp only[LN]<;>omega)|(simp(disch:=first|assumption|omega|(simp only[LN]<;>omega))only[row_alloc,row_set];assumption))only[f58,W_block,P3,↓reduceIte,reduceAdd,reduceEqDiff,reduceCtorEq,initFr,reduceLT,clsA,reduceLeDiff,reduceMul,reduceSub,reduceIte,o2,cpre]
  refine callK (sp _ (by((repeat (first|exact Keeps.refl _|assumption|refine Keeps.alloc ?_ _|(refine Keeps.set ?_ (by first|omega|(simp only[alloc_n,set_n]<;>omega)) (by first|omega|(simp only[alloc_n,set_n]<;>omega)) _)|(refine Keeps.trans' (by assumption) ?_)))))) ?_
  rintro _ K1 ⟨rfl,k1⟩
  have g1:=k1.at_ (AHeap.get_alloc_new K _)
  have n1:=k1.n
  simp only[alloc_n]at n1
  by_cases c1:(0≤e∧0≤cy)∧e≤1099511627776∧cy≤1099511627776
  ·have m1:¬(if cy<e then cy else e)<0:=by split<;>omega
   have m2:¬1099511627776<(if e<cy then cy else e):=by split<;>omega
   have hsav:saveL D L o w x e cy=if o.isSome=true∧e<(o.getD Lo0).e then(D,L,o,w,230)else if o.isSome=true∧e=(o.getD Lo0).e∧stB x (o.getD Lo0).s=true then(D,L,o,w,0)else saveT D L o w ⟨e,cy,x⟩:=by
    unfold saveL;rw[if_neg (fun h=>h c1)]
   have hq3:=fun(K2:AHeap) (fr:List Value) (r:Int) (kk:Keeps K K2) (hs:saveL D L o w x e cy=(D,L,o,w,r)) (hr:resO f58.res fr K2=some (.int .i64 r))=>hq2 fr K2 ⟨_,hr,by rw[hs],by rw[hs];exact⟨v,ab,rv,items,h.keeps kk⟩⟩
   cases hi:o.isSome with
   |false=>
    rw[hi]at hsav
    simp(disch:=first|assumption|omega|(simp only[LN]<;>omega)|(simp(disch:=first|assumption|omega|(simp only[LN]<;>omega))only[row_alloc,row_set,Keeps.row k1];assumption))only[Keeps.get k1,Keeps.row k1,W_block,P3,↓reduceIte,reduceAdd,reduceEqDiff,reduceCtorEq,initFr,reduceLT,clsA,reduceLeDiff,reduceMul,reduceSub,reduceIte,oz2,g1,ox,o2]
    exact hk _ _ ⟨K1.n,_,_,_,_,by rw[hi],by((repeat (first|exact Keeps.refl _|assumption|refine Keeps.alloc ?_ _|(refine Keeps.set ?_ (by first|omega|(simp only[alloc_n,set_n]<;>omega)) (by first|omega|(simp only[alloc_n,set_n]<;>omega)) _)|(refine Keeps.trans' (by assumption) ?_)))),((Keeps.refl K1).alloc _).at_ g1,AHeap.get_alloc_new K1 _,by omega,c1,by rw[hsav,if_neg (by simp),if_neg (by simp)]⟩
   |true=>
    rw[hi]at hsav
    by_cases c2:e<(o.getD Lo0).e
    ·simp(disch:=first|assumption|omega|(simp only[LN]<;>omega)|(simp(disch:=first|assumption|omega|(simp only[LN]<;>omega))only[row_alloc,row_set,Keeps.row k1];assumption))only[Keeps.get k1,Keeps.row k1,W_block,P3,↓reduceIte,reduceAdd,reduceEqDiff,reduceCtorEq,initFr,reduceLT,clsA,reduceLeDiff,reduceMul,reduceSub,reduceIte,oz2,g1,ox,o2,cLo_0]
     exact hq3 _ _ 230 (by((repeat (first|exact Keeps.refl _|assumption|refine Keeps.alloc ?_ _|(refine Keeps.set ?_ (by first|omega|(simp only[alloc_n,set_n]<;>omega)) (by first|omega|(simp only[alloc_n,set_n]<;>omega)) _)|(refine Keeps.trans' (by assumption) ?_))))) (by rw[hsav,if_pos ⟨rfl,c2⟩]) rfl
    ·by_cases c3:e=(o.getD Lo0).e
     ·have heq:∀X,asem (.eqs O68O false (.agg (cSt x).toArray) (.agg (cSt (o.getD Lo0).s).toArray)) X=some (.bool (stB x (o.getD Lo0).s),X):=fun X=>eq_cSt X false hx ho.r
      have d3:(e==(o.getD Lo0).e)=true:=beqi_yes c3
      cases hb:stB x (o.getD Lo0).s with
      |true=>
       rw[hb]at heq
       simp(disch:=first|assumption|omega|(simp only[LN]<;>omega)|(simp(disch:=first|assumption|omega|(simp only[LN]<;>omega))only[row_alloc,row_set,Keeps.row k1];assumption))only[Keeps.get k1,Keeps.row k1,W_block,P3,↓reduceIte,reduceAdd,reduceEqDiff,reduceCtorEq,initFr,reduceLT,clsA,reduceLeDiff,reduceMul,reduceSub,reduceIte,oz2,g1,ox,o2,cLo_0,cLo_s ht,heq,d3]
       exact hq3 _ _ 0 (by((repeat (first|exact Keeps.refl _|assumption|refine Keeps.alloc ?_ _|(refine Keeps.set ?_ (by first|omega|(simp only[alloc_n,set_n]<;>omega)) (by first|omega|(simp only[alloc_n,set_n]<;>omega)) _)|(refine Keeps.trans' (by assumption) ?_))))) (by rw[hsav,if_neg (by simp;omega),if_pos ⟨rfl,c3,hb⟩]) rfl
      |false=>
       rw[hb]at heq
       simp(disch:=first|assumption|omega|(simp only[LN]<;>omega)|(simp(disch:=first|assumption|omega|(simp only[LN]<;>omega))only[row_alloc,row_set,Keeps.row k1];assumption))only[Keeps.get k1,Keeps.row k1,W_block,P3,↓reduceIte,reduceAdd,reduceEqDiff,reduceCtorEq,initFr,reduceLT,clsA,reduceLeDiff,reduceMul,reduceSub,reduceIte,oz2,g1,ox,o2,cLo_0,cLo_s ht,heq,d3]
       exact hk _ _ ⟨K1.n,_,_,_,_,by rw[hi],by((repeat (first|exact Keeps.refl _|assumption|refine Keeps.alloc ?_ _|(refine Keeps.set ?_ (by first|omega|(simp only[alloc_n,set_n]<;>omega)) (by first|omega|(simp only[alloc_n,set_n]<;>omega)) _)|(refine Keeps.trans' (by assumption) ?_)))),((Keeps.refl K1).alloc _).at_ g1,AHeap.get_alloc_new K1 _,by omega,c1,by rw[hsav,if_neg (by simp;omega),if_neg (by rw[hb];simp)]⟩
     ·have d3:(e==(o.getD Lo0).e)=false:=beqi_no c3
      simp(disch:=first|assumption|omega|(simp only[LN]<;>omega)|(simp(disch:=first|assumption|omega|(simp only[LN]<;>omega))only[row_alloc,row_set,Keeps.row k1];assumption))only[Keeps.get k1,Keeps.row k1,W_block,P3,↓reduceIte,reduceAdd,reduceEqDiff,reduceCtorEq,initFr,reduceLT,clsA,reduceLeDiff,reduceMul,reduceSub,reduceIte,oz2,g1,ox,o2,cLo_0,d3]
      exact hk _ _ ⟨K1.n,_,_,_,_,by rw[hi],by((repeat (first|exact Keeps.refl _|assumption|refine Keeps.alloc ?_ _|(refine Keeps.set ?_ (by first|omega|(simp only[alloc_n,set_n]<;>omega)) (by first|omega|(simp only[alloc_n,set_n]<;>omega)) _)|(refine Keeps.trans' (by assumption) ?_)))),((Keeps.refl K1).alloc _).at_ g1,AHeap.get_alloc_new K1 _,by omega,c1,by rw[hsav,if_neg (by simp;omega),if_neg (by simp[c3])]⟩
  ·have hsav:saveL D L o w x e cy=(D,L,o,w,2):=by unfold saveL;rw[if_pos c1]
   by_cases m1:(if cy<e then cy else e)<0
   ·simp(disch:=first|assumption|omega|(simp only[LN]<;>omega)|(simp(disch:=first|assumption|omega|(simp only[LN]<;>omega))only[row_alloc,row_set,Keeps.row k1];assumption))only[Keeps.get k1,Keeps.row k1,W_block,P3,↓reduceIte,reduceAdd,reduceEqDiff,reduceCtorEq,initFr,reduceLT,clsA,reduceLeDiff,reduceMul,reduceSub,reduceIte,oz2,g1,ox,o2]
    exact hq2 _ _ ⟨_,rfl,by rw[hsav];rfl,by rw[hsav];exact⟨v,ab,rv,items,h.keeps (by((repeat (first|exact Keeps.refl _|assumption|refine Keeps.alloc ?_ _|(refine Keeps.set ?_ (by first|omega|(simp only[alloc_n,set_n]<;>omega)) (by first|omega|(simp only[alloc_n,set_n]<;>omega)) _)|(refine Keeps.trans' (by assumption) ?_)))))⟩⟩
   ·have m2:1099511627776<(if e<cy then cy else e):=by
     revert m1;split<;>split<;>intros<;>omega
    simp(disch:=first|assumption|omega|(simp only[LN]<;>omega)|(simp(disch:=first|assumption|omega|(simp only[LN]<;>omega))only[row_alloc,row_set,Keeps.row k1];assumption))only[Keeps.get k1,Keeps.row k1,W_block,P3,↓reduceIte,reduceAdd,reduceEqDiff,reduceCtorEq,initFr,reduceLT,clsA,reduceLeDiff,reduceMul,reduceSub,reduceIte,oz2,g1,ox,o2]
    exact hq2 _ _ ⟨_,rfl,by rw[hsav];rfl,by rw[hsav];exact⟨v,ab,rv,items,h.keeps (by((repeat (first|exact Keeps.refl _|assumption|refine Keeps.alloc ?_ _|(refine Keeps.set ?_ (by first|omega|(simp only[alloc_n,set_n]<;>omega)) (by first|omega|(simp only[alloc_n,set_n]<;>omega)) _)|(refine Keeps.trans' (by assumption) ?_)))))⟩⟩
 ·rintro fr X ⟨m,y9,y10,y11,y12,rfl,kX,gx,gm,hKm,c1,hsv⟩
  rw[hsv]at hq1 hq2
  have hX:=h.keeps kX
  have hgX:=hX.gs
  unfold lsC at hgX
  have hsX:=AHeap.get_lt hgX
  have hmX:=AHeap.get_lt gm
  have hsK:=AHeap.get_lt hg
  have hfl:fillA Z70O [(0,1,.int .i64 e),(1,1,.int .i64 cy),(2,68,.agg (cSt x).toArray)]=some (cLo ⟨e,cy,x⟩):=fillLo hx.ht
  have ly:=cLo_len (x:=⟨e,cy,x⟩) hx.ht
  have oy:=cLo_one ⟨e,cy,x⟩
  have kY:Keeps K (X.set m (.cells true false 70 (cLo ⟨e,cy,x⟩) 162)):=kX.set (by omega) (by omega) _
  have gY:=kY.at_ hg
  unfold lsC at gY
  have gmY:(X.set m (.cells true false 70 (cLo ⟨e,cy,x⟩) 162)).get m=some (.cells true false 70 (cLo ⟨e,cy,x⟩) 162):=AHeap.get_set_same gm _
  simp(disch:=first|assumption|omega|(simp only[LN]<;>omega)|(simp(disch:=first|assumption|omega|(simp only[LN]<;>omega))only[row_alloc,row_set];assumption))only[f58,P3,↓reduceIte,reduceAdd,reduceEqDiff,reduceCtorEq,initFr,reduceLT,clsA,reduceLeDiff,reduceMul,reduceSub,reduceIte,cpost,gx,o2,hfl,ly,oy,gm,gY,gmY]
  generalize X.set m (.cells true false 70 (cLo ⟨e,cy,x⟩) 162)=Y at*
  refine callK (t107 ⟨e,cy,x⟩ hx Y) ?_
  rintro y Z ⟨ap,kZ,fy⟩
  have gZ:=kZ.at_ gY
  have gmZ:=kZ.at_ gmY
  have hZ:=h.keeps (kY.trans kZ)
  have hKY:=kY.n
  have fbY:∀z∈tb y,Y.n≤z:=fy.tb
  simp(disch:=first|assumption|omega|(simp only[LN]<;>omega)|(simp(disch:=first|assumption|omega|(simp only[LN]<;>omega))only[row_alloc,row_set];assumption))only[W_block,P3,↓reduceIte,reduceAdd,reduceEqDiff,reduceCtorEq,initFr,reduceLT,clsA,reduceLeDiff,reduceMul,reduceSub,reduceIte,gZ,gY]
  refine⟨by simp,?_⟩
  have ltK:∀z∈fp (cT c lb b sb v ab rv items D L),z<K.n:=fun z hz=>h.ck.u.sep.lt hz
  refine callK (hZ.ck.save hs hm hT hF ap.bs (by have:=fLo_len ⟨e,cy,x⟩ hx;omega) (fun z hz hz2=>by
   have:=fbY z hz
   have:=ltK z (by simp only[fp,List.flatMap_cons,List.mem_append]at hz2 ⊢;exact .inr hz2)
   omega)) ?_
  rintro _ K2 ⟨rfl,v2,ab2,rv2,it2,s1⟩
  have g2:=s1.u.chg.at_ gZ h.sf
  have gm2:=s1.u.chg.at_ gmZ (fun hz=>by have:=ltK _ hz;omega)
  have U:=hZ.u.trans (s1.u.extR (A:=[thB s (lsC c o w)]) hZ.u.sep)
  have hnx:saveT D L o w ⟨e,cy,x⟩=if(saveW D L (fLo ⟨e,cy,x⟩)).2.2 =0 then((saveW D L (fLo ⟨e,cy,x⟩)).1,(saveW D L (fLo ⟨e,cy,x⟩)).2.1,some ⟨e,cy,x⟩,w+1,0)else((saveW D L (fLo ⟨e,cy,x⟩)).1,(saveW D L (fLo ⟨e,cy,x⟩)).2.1,o,w,(saveW D L (fLo ⟨e,cy,x⟩)).2.2):=rfl
  rw[hnx]at hq1 hq2
  clear hnx
  generalize saveW D L (fLo ⟨e,cy,x⟩)=r at*
  have hw1:IntKind.i64.wrap ((w:Int)+1)=((w+1:Nat):Int):=by rw[wrap_i64 (by omega) (by omega)];simp
  have ho1:=hasV_one o
  by_cases he:r.2.2=0
  ·rw[if_pos he]at hq1 hq2
   have d0:(r.2.2 != 0)=false:=bnei_no he
   have hs2:=AHeap.get_lt g2
   have hok:okLo ⟨e,cy,x⟩=true:=by
    have h1:cyB e=true:=by simp[cyB];omega
    have h2:cyB cy=true:=by simp[cyB];omega
    show(cyB e&&cyB cy)=true
    rw[h1,h2];rfl
   simp(disch:=first|assumption|omega|(simp only[LN]<;>omega)|(simp(disch:=first|assumption|omega|(simp only[LN]<;>omega))only[row_alloc,row_set];assumption))only[W_block,P3,↓reduceIte,reduceAdd,reduceEqDiff,reduceCtorEq,initFr,reduceLT,clsA,reduceLeDiff,reduceMul,reduceSub,reduceIte,d0,g2,gm2,oy,hw1,ho1]
   exact hq2 _ _ ⟨_,rfl,rfl,v2,ab2,rv2,it2,Upd.next (l:=[]) (t':=thB s (lsC c (some ⟨e,cy,x⟩) (w+1))) U (Chg.set K2 hs2 _) (AHeap.get_set_same g2 _) (by simp[thB]),s1.ok,s1.n3,s1.it,s1.lok,⟨hx,hok⟩,by show w+1≤1000000;omega⟩
  ·rw[if_neg he]at hq1 hq2
   have d0:(r.2.2 != 0)=true:=bnei_yes he
   simp(disch:=first|assumption|omega|(simp only[LN]<;>omega)|(simp(disch:=first|assumption|omega|(simp only[LN]<;>omega))only[row_alloc,row_set];assumption))only[W_block,P3,↓reduceIte,reduceAdd,reduceEqDiff,reduceCtorEq,initFr,reduceLT,clsA,reduceLeDiff,reduceMul,reduceSub,reduceIte,d0]
   exact hq2 _ _ ⟨_,rfl,rfl,v2,ab2,rv2,it2,U,s1.ok,s1.n3,s1.it,s1.lok,h.r,h.hw⟩
end
end Go.AM.Fd

set_option linter.unusedSimpArgs false
set_option linter.unusedVariables false
namespace Go.AM.Fd
open Nat (reduceAdd reduceEqDiff reduceLT reduceLeDiff reduceMul reduceSub)
open Go.Proofs Go.AM.F
def openL(D:Dk):Dk×Option (Lg×Option Lo)×Int:=match (openW D).2.1 with
 |none=>((openW D).1,none,(openW D).2.2)
 |some L=>match pastW L 0 with
  |none=>((openW D).1,some (L,none),0)
  |some b=>match geLo b with
   |none=>((openW D).1,none,151)
   |some x=>((openW D).1,some (L,some x),0)
theorem OkL.none:OkL none:=⟨⟨rfl,by decide,by decide,by decide,by decide⟩,rfl⟩
theorem OkL.got{b:List UInt8}{x:Lo}(h:geLo b=some x):OkL (some x):=by
 unfold geLo at h
 split at h
 ·obtain⟨_,h2,h3⟩:=pdLo_e h
  exact⟨h3,h2⟩
 ·cases h
def LkOpenR(A:List Th)(K H:AHeap)(b sb:Nat)(res:Dk×Option (Lg×Option Lo)×Int)(w:Value):Prop:=
 (res.2.1=none∧w=.tuple #[.pointer none,.int .i64 res.2.2]∧res.2.2≠0∧res.1.ok∧∃v' ab',Upd A (dkT b sb v' ab' res.1) K H)∨
 ∃L o s c lb v' ab' rv items,res.2.1=some (L,o)∧res.2.2=0∧w=.tuple #[ptr s 0,.int .i64 0]∧LkS A K H s c lb b sb v' ab' rv items res.1 L o 0
theorem past_len{L:Lg}(h:L.ok){l:List UInt8}(e:pastW L 0=some l):l.length≤232:=by
 have:=pastW_len h 0
 rw[e]at this
 exact this
section
variable {K:AHeap} {b sb:Nat} {v vb vo:Value} {ab:Option Nat} {inn:Int} {D:Dk}
theorem t53(h:DkR K b sb v ab D)(hs:D.st<999999)(hm:D.op.length<999999):∃w K',ARun Go.Proofs.Tryz.prog 0 53 [ptr b 0] K w K'∧LkOpenR (dkT b sb v ab D) K K' b sb (openL D) w:=by
 refine walk2 f53_ok f53_n ?_
 intro Q hq1 hq2
 unfold LkOpenR at hq1 hq2
 simp(disch:=first|assumption|omega|(simp only[LN]<;>omega)|(simp(disch:=first|assumption|omega|(simp only[LN]<;>omega))only[row_alloc,row_set];assumption))only[f53,W_block,P3,↓reduceIte,reduceAdd,reduceEqDiff,reduceCtorEq,initFr,reduceLT,clsA,reduceLeDiff,reduceMul,reduceSub,reduceIte]
 refine callK (t39 h hs hm) ?_
 rintro w K1 ho
 have her:=openW_er D
 unfold CkOpenR at ho
 unfold ErOk at her
 unfold openL at hq2
 cases hl:(openW D).2.1 with
 |none=>
  rw[hl]at ho her
  simp only[hl]at hq2
  obtain⟨rfl,o1,v',ab',u1⟩:=ho
  have d1:((openW D).2.2 != 0)=true:=bnei_yes her
  simp(disch:=first|assumption|omega|(simp only[LN]<;>omega)|(simp(disch:=first|assumption|omega|(simp only[LN]<;>omega))only[row_alloc,row_set];assumption))only[W_block,P3,↓reduceIte,reduceAdd,reduceEqDiff,reduceCtorEq,initFr,reduceLT,clsA,reduceLeDiff,reduceMul,reduceSub,reduceIte,d1]
  exact hq2 _ _ ⟨_,rfl,.inl ⟨by trivial,rfl,her,o1,v',ab',u1⟩⟩
 |some L=>
  rw[hl]at ho her
  simp only[hl]at hq2
  obtain⟨c,lb,v',ab',rv,items,rfl,h1,u1⟩:=ho
  have hf1:fillA [.pointer none] [(0,1,ptr c 0)]=some [ptr c 0]:=rfl
  have hf2:fillA [.pointer none,.nilIface,.int .i64 0] [(0,1,.agg #[ptr c 0])]=some [ptr c 0,.nilIface,.int .i64 0]:=rfl
  have k2:=(Keeps.refl K1).alloc (lsC c none 0)
  have lz2:Z70N.length=70:=rfl
  have oz2:Z70N.all Value.oneCell'=true:=rfl
  have on:Value.nilIface.oneCell'=true:=rfl
  simp(disch:=first|assumption|omega|(simp only[LN]<;>omega)|(simp(disch:=first|assumption|omega|(simp only[LN]<;>omega))only[row_alloc,row_set];assumption))only[P3,↓reduceIte,reduceAdd,reduceEqDiff,reduceCtorEq,initFr,reduceLT,clsA,reduceLeDiff,reduceMul,reduceSub,reduceIte,hf1,hf2,on]
  have hc1:K1.get c=some (ckC lb):=u1.sep.get 0 rfl
  have U2:=Upd.add (t:=thB K1.n (lsC c none 0)) u1 k2 (AHeap.get_alloc_new K1 _) (by simp[thB])
  have n2:(K1.alloc (lsC c none 0)).n=K1.n+1:=rfl
  have e2:K1.alloc (lsC c none 0)=K1.alloc (.cells true false 3 [ptr c 0,.nilIface,.int .i64 0] 161):=rfl
  rw[←e2]
  generalize K1.alloc (lsC c none 0)=K2 at*
  refine callK (t47 (h1.keeps k2) (k2.at_ hc1)) ?_
  rintro _ K3 ⟨k3,y,rfl,ap,fy⟩
  have U3:=U2.keeps' k3
  have g3:K3.get K1.n=some (lsC c none 0):=U3.sep.get 0 rfl
  cases hp:pastW L 0 with
  |none=>
   rw[hp]at ap
   simp only[hp]at hq2
   have so:(none:Option (List UInt8)).isSome=false:=rfl
   rw[so]
   simp(disch:=first|assumption|omega|(simp only[LN]<;>omega)|(simp(disch:=first|assumption|omega|(simp only[LN]<;>omega))only[row_alloc,row_set];assumption))only[W_block,P3,↓reduceIte,reduceAdd,reduceEqDiff,reduceCtorEq,initFr,reduceLT,clsA,reduceLeDiff,reduceMul,reduceSub,reduceIte]
   exact hq2 _ _ ⟨_,rfl,.inr ⟨L,none,K1.n,c,lb,v',ab',rv,items,rfl,by trivial,rfl,U3,h1.ok,h1.n3,h1.it,h1.lok,OkL.none,by omega⟩⟩
  |some l=>
   rw[hp]at ap
   simp only[hp]at hq2
   have so:(some l).isSome=true:=rfl
   have hl2:=past_len h1.lok hp
   rw[so]
   simp(disch:=first|assumption|omega|(simp only[LN]<;>omega)|(simp(disch:=first|assumption|omega|(simp only[LN]<;>omega))only[row_alloc,row_set];assumption))only[W_block,P3,↓reduceIte,reduceAdd,reduceEqDiff,reduceCtorEq,initFr,reduceLT,clsA,reduceLeDiff,reduceMul,reduceSub,reduceIte]
   refine callK (t104 (show BQ K3 y l from ap.bq) (by omega)) ?_
   rintro _ K4 ⟨k4,rfl⟩
   have U4:=U3.keeps' k4
   have g4:K4.get K1.n=some (lsC c none 0):=U4.sep.get 0 rfl
   have n4:=AHeap.get_lt g4
   unfold lsC hasV at g4
   cases hg:geLo l with
   |none=>
    simp only[hg]at hq2 ⊢
    have l0:(cLo Lo0).length=70:=rfl
    have o0:(cLo Lo0).all Value.oneCell'=true:=rfl
    have U5:Upd (dkT b sb v ab D) ((thB K1.n (lsC c none 0)::thB c (ckC lb)::lgT lb b rv items L)++dkT b sb v' ab' (openW D).1) K K4:=U4
    simp(disch:=first|assumption|omega|(simp only[LN]<;>omega)|(simp(disch:=first|assumption|omega|(simp only[LN]<;>omega))only[row_alloc,row_set];assumption))only[W_block,P3,↓reduceIte,reduceAdd,reduceEqDiff,reduceCtorEq,initFr,reduceLT,clsA,reduceLeDiff,reduceMul,reduceSub,reduceIte,GotV,oz2,o0]
    exact hq2 _ _ ⟨_,rfl,.inl ⟨by trivial,rfl,by decide,h1.ok,v',ab',(U5.dropL).keeps' (by((repeat (first|exact Keeps.refl _|assumption|refine Keeps.alloc ?_ _|(refine Keeps.set ?_ (by first|omega|(simp only[alloc_n,set_n]<;>omega)) (by first|omega|(simp only[alloc_n,set_n]<;>omega)) _)|(refine Keeps.trans' (by assumption) ?_)))))⟩⟩
   |some x=>
    simp only[hg]at hq2 ⊢
    have hx:=OkL.got hg
    have lx:(cLo x).length=70:=hx.len
    have ox:=cLo_one x
    simp(disch:=first|assumption|omega|(simp only[LN]<;>omega)|(simp(disch:=first|assumption|omega|(simp only[LN]<;>omega))only[row_alloc,row_set];assumption))only[W_block,P3,↓reduceIte,reduceAdd,reduceEqDiff,reduceCtorEq,initFr,reduceLT,clsA,reduceLeDiff,reduceMul,reduceSub,reduceIte,GotV,oz2,ox,g4]
    have g4':K4.get K1.n=some (lsC c none 0):=U4.sep.get 0 rfl
    have U5:=Upd.next (l:=[]) (t':=thB K1.n (lsC c (some x) 0)) U4 (Chg.set K4 n4 _) (AHeap.get_set_same g4' _) (by simp[thB])
    exact hq2 _ _ ⟨_,rfl,.inr ⟨L,some x,K1.n,c,lb,v',ab',rv,items,rfl,by trivial,rfl,U5.keeps' ((Keeps.refl _).alloc _),h1.ok,h1.n3,h1.it,h1.lok,hx,by omega⟩⟩
end
theorem rsL_len{d:Nat}{o:Option Lo}{w:Nat}(h:OkL o):(rsL d o w).length=73:=by simp only[rsL,List.length_cons,List.length_append,h.len,List.length_nil]
theorem rsL_one(d:Nat)(o:Option Lo)(w:Nat):(rsL d o w).all Value.oneCell'=true:=by
 simp only[rsL,List.all_cons,List.all_append,cLo_one];rfl
theorem rsL_0(d:Nat)(o:Option Lo)(w:Nat):(rsL d o w)[0]? =some (ptr d 0):=rfl
theorem rsL_e(d:Nat)(o:Option Lo)(w:Nat):(rsL d o w)[1]? =some (.int .i64 (o.getD Lo0).e):=rfl
theorem rsL_c(d:Nat)(o:Option Lo)(w:Nat):(rsL d o w)[2]? =some (.int .i64 (o.getD Lo0).c):=rfl
theorem rsL_a(d:Nat)(o:Option Lo)(w:Nat):(rsL d o w)[3]? =some (.int .u64 ((o.getD Lo0).s.a:Nat)):=rfl
theorem rsL_s{d:Nat}{o:Option Lo}{w:Nat}(h:OkL o):((rsL d o w).drop 3).take 68=cSt (o.getD Lo0).s:=by
 simp only[rsL,cLo,List.cons_append,List.drop_succ_cons,List.drop_zero]
 rw[List.take_left' (cSt_len h.r.ht)]
theorem rsL_eq(d:Nat)(o:Option Lo)(w:Nat):rsL d o w=(ptr d 0::cLo (o.getD Lo0))++[.bool o.isSome,.int .i64 (w:Nat)]:=rfl
theorem rsL_b{d:Nat}{o:Option Lo}{w:Nat}(h:OkL o):(rsL d o w)[71]? =some (.bool o.isSome):=by
 have l:(ptr d 0::cLo (o.getD Lo0)).length=71:=by rw[List.length_cons,h.len]
 rw[rsL_eq,List.getElem?_append_right (by omega),l];rfl
theorem rsL_w{d:Nat}{o:Option Lo}{w:Nat}(h:OkL o):(rsL d o w)[72]? =some (.int .i64 (w:Nat)):=by
 have l:(ptr d 0::cLo (o.getD Lo0)).length=71:=by rw[List.length_cons,h.len]
 rw[rsL_eq,List.getElem?_append_right (by omega),l];rfl
theorem rsL_set{d:Nat}{o:Option Lo}{w:Nat}{x:Lo}(h:OkL o)(hx:OkL (some x)):(rsL d o w).take 1++cLo x++(rsL d o w).drop 71=ptr d 0::(cLo x++[.bool o.isSome,.int .i64 (w:Nat)]):=by
 have l:(ptr d 0::cLo (o.getD Lo0)).length=71:=by rw[List.length_cons,h.len]
 have e1:(rsL d o w).take 1=[ptr d 0]:=rfl
 have e2:(rsL d o w).drop 71=[.bool o.isSome,.int .i64 (w:Nat)]:=by
  rw[rsL_eq,←l,List.drop_left]
 rw[e1,e2];rfl
theorem set70{x:Lo}{a b:Value}(hx:OkL (some x))(z:Value):(cLo x++[a,b]).set 70 z=cLo x++[z,b]:=by
 have l:(cLo x).length=70:=hx.len
 rw[List.set_append_right 70 z (by omega),l];rfl
theorem set71{x:Lo}{a b:Value}(hx:OkL (some x))(z:Value):(cLo x++[a,b]).set 71 z=cLo x++[a,z]:=by
 have l:(cLo x).length=70:=hx.len
 rw[List.set_append_right 71 z (by omega),l];rfl
theorem get71{x:Lo}{a b:Value}(hx:OkL (some x)):(cLo x++[a,b])[71]? =some b:=by
 have l:(cLo x).length=70:=hx.len
 rw[List.getElem?_append_right (by omega),l];rfl
theorem len72{x:Lo}(hx:OkL (some x))(a b:Value):(cLo x++[a,b]).length=72:=by
 have l:(cLo x).length=70:=hx.len
 rw[List.length_append,l];rfl
structure MkS (A:List Th) (K0 K:AHeap) (s d le e:Nat) (vb vo:Value) (inn:Int) (vl:Value) (D:Dk) (L:Lg) (o:Option Lo) (w:Nat):Prop where
 u:Upd A (thB s (rsC d o w)::kT d le e vb vo inn vl D L) K0 K
 ok:D.ok
 i:∀n,D.ar=some n→inn=(n:Nat)
 n3:3≤D.bl.length
 lok:L.ok
 r:OkL o
 hw:w≤1000000
section
variable {A:List Th} {K0 K:AHeap} {s d le e:Nat} {vb vo vl:Value} {inn:Int} {D:Dk} {L:Lg} {o:Option Lo} {w:Nat}
theorem MkS.rk(h:MkS A K0 K s d le e vb vo inn vl D L o w):RkS (kT d le e vb vo inn vl D L) K K d le e vb vo inn vl D L:=⟨Upd.refl (Sep.right (A:=[thB s (rsC d o w)]) h.u.sep),h.ok,h.i,h.n3,h.lok⟩
theorem MkS.gs(h:MkS A K0 K s d le e vb vo inn vl D L o w):K.get s=some (rsC d o w):=h.u.sep.get 0 rfl
theorem MkS.keeps{K':AHeap}(h:MkS A K0 K s d le e vb vo inn vl D L o w)(k:Keeps K K'):MkS A K0 K' s d le e vb vo inn vl D L o w:=⟨h.u.keeps' k,h.ok,h.i,h.n3,h.lok,h.r,h.hw⟩
theorem MkS.sf(h:MkS A K0 K s d le e vb vo inn vl D L o w):s∉fp (kT d le e vb vo inn vl D L):=fun hz=>by
 obtain⟨x,hx,h1⟩:=mem_fp.1 hz
 exact(List.pairwise_cons.1 h.u.sep.ap).1 x hx s (by simp[thB]) h1
def MkOpenR(A:List Th)(K H:AHeap)(b:Nat)(vb:Value)(res:Dk×Option (Lg×Option Lo)×Int)(w:Value):Prop:=
 (res.2.1=none∧w=.tuple #[.pointer none,.int .i64 res.2.2]∧∃vo' inn',EkR H b vb vo' inn' res.1∧Upd A (ekT b vb vo' inn' res.1) K H)∨
 ∃L o s d le vo' inn' vl,res.2.1=some (L,o)∧w=.tuple #[ptr s 0,.int .i64 0]∧MkS A K H s d le b vb vo' inn' vl res.1 L o 0
theorem t54(h:EkR K e vb vo inn D)(hs:D.st<999999)(hm:D.op.length<999999):∃w K',ARun Go.Proofs.Tryz.prog 0 54 [ptr e 0] K w K'∧MkOpenR (ekT e vb vo inn D) K K' e vb (openL D) w:=by
 refine walk2 f54_ok f54_n ?_
 intro Q hq1 hq2
 unfold MkOpenR at hq1 hq2
 simp(disch:=first|assumption|omega|(simp only[LN]<;>omega)|(simp(disch:=first|assumption|omega|(simp only[LN]<;>omega))only[row_alloc,row_set];assumption))only[f54,W_block,P3,↓reduceIte,reduceAdd,reduceEqDiff,reduceCtorEq,initFr,reduceLT,clsA,reduceLeDiff,reduceMul,reduceSub,reduceIte]
 refine callK (t40 h hs hm) ?_
 rintro w K1 ho
 have her:=openW_er D
 unfold RkOpenR at ho
 unfold ErOk at her
 unfold openL at hq2
 cases hl:(openW D).2.1 with
 |none=>
  rw[hl]at ho her
  simp only[hl]at hq2
  obtain⟨rfl,vo',inn',e1,u1⟩:=ho
  have d1:((openW D).2.2 != 0)=true:=bnei_yes her
  simp(disch:=first|assumption|omega|(simp only[LN]<;>omega)|(simp(disch:=first|assumption|omega|(simp only[LN]<;>omega))only[row_alloc,row_set];assumption))only[W_block,P3,↓reduceIte,reduceAdd,reduceEqDiff,reduceCtorEq,initFr,reduceLT,clsA,reduceLeDiff,reduceMul,reduceSub,reduceIte,d1]
  exact hq2 _ _ ⟨_,rfl,.inl ⟨by trivial,rfl,vo',inn',e1,u1⟩⟩
 |some L=>
  rw[hl]at ho her
  simp only[hl]at hq2
  obtain⟨d,le,vo',inn',vl,rfl,h1,u1⟩:=ho
  have hf1:fillA Z73N [(0,1,ptr d 0)]=some (rsL d none 0):=rfl
  have l73:(rsL d none 0).length=73:=rfl
  have o73:=rsL_one d none 0
  have k2:=(Keeps.refl K1).alloc (rsC d none 0)
  have lz2:Z70N.length=70:=rfl
  have oz2:Z70N.all Value.oneCell'=true:=rfl
  simp(disch:=first|assumption|omega|(simp only[LN]<;>omega)|(simp(disch:=first|assumption|omega|(simp only[LN]<;>omega))only[row_alloc,row_set];assumption))only[P3,↓reduceIte,reduceAdd,reduceEqDiff,reduceCtorEq,initFr,reduceLT,clsA,reduceLeDiff,reduceMul,reduceSub,reduceIte,hf1,o73]
  have hc1:K1.get d=some (rkC le):=u1.sep.get 0 rfl
  have U2:=Upd.add (t:=thB K1.n (rsC d none 0)) u1 k2 (AHeap.get_alloc_new K1 _) (by simp[thB])
  have e2:K1.alloc (rsC d none 0)=K1.alloc (.cells true false 73 (rsL d none 0) 96):=rfl
  rw[←e2]
  generalize K1.alloc (rsC d none 0)=K2 at*
  refine callK (t97 (h1.keeps k2) (k2.at_ hc1) 0 (by omega)) ?_
  rintro _ X ⟨rfl,hX⟩
  rw[hX]
  have g2:K2.get K1.n=some (rsC d none 0):=U2.sep.get 0 rfl
  cases hp:pastW L 0 with
  |none=>
   simp only[hp]at hq2
   have so:(none:Option (List UInt8)).isSome=false:=rfl
   rw[so]
   simp(disch:=first|assumption|omega|(simp only[LN]<;>omega)|(simp(disch:=first|assumption|omega|(simp only[LN]<;>omega))only[row_alloc,row_set];assumption))only[W_block,P3,↓reduceIte,reduceAdd,reduceEqDiff,reduceCtorEq,initFr,reduceLT,clsA,reduceLeDiff,reduceMul,reduceSub,reduceIte]
   exact hq2 _ _ ⟨_,rfl,.inr ⟨L,none,K1.n,d,le,vo',inn',vl,rfl,rfl,U2,h1.ok,h1.i,h1.n3,h1.lok,OkL.none,by omega⟩⟩
  |some l=>
   simp only[hp]at hq2
   have so:(some l).isSome=true:=rfl
   have hl2:=past_len h1.lok hp
   have gd:(some l).getD []=l:=rfl
   rw[so,gd]
   have e2:=a_s2bl (H:=K2) 5 l
   simp(disch:=first|assumption|omega|(simp only[LN]<;>omega)|(simp(disch:=first|assumption|omega|(simp only[LN]<;>omega))only[row_alloc,row_set];assumption))only[W_block,P3,↓reduceIte,reduceAdd,reduceEqDiff,reduceCtorEq,initFr,reduceLT,clsA,reduceLeDiff,reduceMul,reduceSub,reduceIte,e2]
   have k3:=(Keeps.refl K2).alloc (.cells true true 1 (cellsOf l) 5)
   have b3:BS (K2.alloc (.cells true true 1 (cellsOf l) 5)) (slc K2.n 0 l.length l.length) l:=bs_new K2 _ true l
   have U3:=U2.keeps' k3
   have q3:BQ (K2.alloc (.cells true true 1 (cellsOf l) 5)) (slc K2.n 0 l.length l.length) l:=.inr (.inr ⟨K2.n,0,l.length,true,true,1,cellsOf l,5,rfl,Nat.le_refl _,AHeap.get_alloc_new K2 _,.inl rfl,by simp only[List.drop_zero];exact List.take_of_length_le (by simp[cellsOf]),by simp[cellsOf]⟩)
   generalize K2.alloc (.cells true true 1 (cellsOf l) 5)=K3 at*
   refine callK (t105 q3 (by omega)) ?_
   rintro _ X ⟨rfl,hX⟩
   rw[hX]
   have g3:K3.get K1.n=some (rsC d none 0):=U3.sep.get 0 rfl
   have n3:=AHeap.get_lt g3
   unfold rsC at g3
   cases hg:geLo l with
   |none=>
    simp only[hg]at hq2
    have l0:(cLo Lo0).length=70:=rfl
    have o0:(cLo Lo0).all Value.oneCell'=true:=rfl
    have U5:Upd (ekT e vb vo inn D) ((thB K1.n (rsC d none 0)::thB d (rkC le)::rlT le e vl L)++ekT e vb vo' inn' (openW D).1) K K3:=U3
    have U6:=U5.dropL
    have kk:Keeps K3 (K3.alloc (.cells true false 70 (cLo Lo0) 94)):=(Keeps.refl K3).alloc _
    have U7:=U6.keeps' kk
    simp(disch:=first|assumption|omega|(simp only[LN]<;>omega)|(simp(disch:=first|assumption|omega|(simp only[LN]<;>omega))only[row_alloc,row_set];assumption))only[W_block,P3,↓reduceIte,reduceAdd,reduceEqDiff,reduceCtorEq,initFr,reduceLT,clsA,reduceLeDiff,reduceMul,reduceSub,reduceIte,tLo,GotB,oz2,o0]
    exact hq2 _ _ ⟨_,rfl,.inl ⟨by trivial,rfl,vo',inn',⟨U7.sep,h1.ok,h1.i⟩,U7⟩⟩
   |some x=>
    simp only[hg]at hq2
    have hx:=OkL.got hg
    have lx:(cLo x).length=70:=hx.len
    have ox:=cLo_one x
    have r1:=rsL_set (d:=d) (w:=0) OkL.none hx
    simp(disch:=first|assumption|omega|(simp only[LN]<;>omega)|(simp(disch:=first|assumption|omega|(simp only[LN]<;>omega))only[row_alloc,row_set];assumption))only[W_block,P3,↓reduceIte,reduceAdd,reduceEqDiff,reduceCtorEq,initFr,reduceLT,clsA,reduceLeDiff,reduceMul,reduceSub,reduceIte,tLo,GotB,oz2,ox,g3,r1,len72 hx,set70 hx]
    have U5:=Upd.next (l:=[]) (t':=thB K1.n (rsC d (some x) 0)) U3 (Chg.set K3 n3 (rsC d (some x) 0)) (AHeap.get_set_same g3 _) (by simp[thB])
    refine hq2 _ _ ?_
    exact⟨_,rfl,.inr ⟨L,some x,K1.n,d,le,vo',inn',vl,rfl,rfl,U5.keeps' ((Keeps.refl _).alloc _),h1.ok,h1.i,h1.n3,h1.lok,hx,by omega⟩⟩
end
end Go.AM.Fd

set_option linter.unusedSimpArgs false
set_option linter.unusedVariables false
namespace Go.AM.Fd
open Nat (reduceAdd reduceEqDiff reduceLT reduceLeDiff reduceMul reduceSub)
open Go.Proofs Go.AM.F
section
variable {A:List Th} {K0 K:AHeap} {s d le e:Nat} {vb vo vl:Value} {inn:Int} {D:Dk} {L:Lg} {o:Option Lo} {w:Nat}
theorem MkS.save(h:MkS A K0 K s d le e vb vo inn vl D L o w)(hs:D.st<999990)(hm:D.op.length<999990)(hT:L.turn<8999999999999999999)(hF:L.next≤9000000000000000000)(hw:w<1000000){x:St}(hx:rgSt x)(n cy:Int):
 ∃y K',ARun Go.Proofs.Tryz.prog 0 59 [ptr s 0,.agg (cSt x).toArray,.int .i64 n,.int .i64 cy] K y K'∧y=.int .i64 (saveL D L o w x n cy).2.2.2.2 ∧∃vo' inn' vl',MkS A K0 K' s d le e vb vo' inn' vl' (saveL D L o w x n cy).1 (saveL D L o w x n cy).2.1 (saveL D L o w x n cy).2.2.1 (saveL D L o w x n cy).2.2.2.1 :=by
 refine walk2 f59_ok f59_n ?_
 intro Q hq1 hq2
 have hg:=h.gs
 have ho:=h.r
 have lz2:Z70O.length=70:=rfl
 have oz2:Z70O.all Value.oneCell'=true:=rfl
 have l73:=rsL_len (d:=d) (w:=w) ho
 have o73:=rsL_one d o w
 have l2:=cSt_len hx.ht
 have o2:=cSt_one x
 have hsK:=AHeap.get_lt hg
 refine W_part 2 (fun fr X=>∃(y8 y9 y10:Value),fr=[ptr s 0,.agg (cSt x).toArray,.int .i64 n,.int .i64 cy,ptr K.n 0,.int .i64 0,undef,undef,y8,y9,y10,undef]∧Keeps K X∧X.get K.n=some (.cells true false 68 (cSt x) 89)∧((0≤n∧0≤cy)∧n≤1099511627776∧cy≤1099511627776)∧saveL D L o w x n cy=saveT D L o w ⟨n,cy,x⟩) (by kernel_rfl) ?_ ?_
 ·intro Q' hk hex hret
  replace hq2:=fun fr H2 h=>hret fr H2 (hq2 fr H2 h)
  have hg0:=hg
  unfold rsC at hg0
  simp(disch:=first|assumption|omega|(simp only[LN]<;>omega)|(simp(disch:=first|assumption|omega|(simp only[LN]<;>omega))only[row_alloc,row_set];assumption))only[f59,W_block,P3,↓reduceIte,reduceAdd,reduceEqDiff,reduceCtorEq,initFr,reduceLT,clsA,reduceLeDiff,reduceMul,reduceSub,reduceIte,o2,cpre]
  obtain⟨X,hX⟩:∃Y,Y=K.alloc (.cells true false 68 (cSt x) 89):=⟨_,rfl⟩
  rw[←hX]
  have kX:Keeps K X:=by rw[hX];exact(Keeps.refl K).alloc _
  have gX:X.get K.n=some (.cells true false 68 (cSt x) 89):=by rw[hX];exact AHeap.get_alloc_new K _
  have hgX:=kX.at_ hg0
  have hq3:=fun(fr:List Value) (r:Int) (hs:saveL D L o w x n cy=(D,L,o,w,r)) (hr:resO f59.res fr X=some (.int .i64 r))=>hq2 fr X ⟨_,hr,by rw[hs],by rw[hs];exact⟨vo,inn,vl,h.keeps kX⟩⟩
  refine callK (t108 n X) ?_
  rintro _ Z ⟨rfl,hZ⟩
  rw[hZ]
  by_cases c1:(0≤n∧0≤cy)∧n≤1099511627776∧cy≤1099511627776
  ·have hn:cyB n=true:=by simp[cyB];omega
   have hc:cyB cy=true:=by simp[cyB];omega
   have hsav:saveL D L o w x n cy=if o.isSome=true∧n<(o.getD Lo0).e then(D,L,o,w,230)else if o.isSome=true∧n=(o.getD Lo0).e∧stB x (o.getD Lo0).s=true then(D,L,o,w,0)else saveT D L o w ⟨n,cy,x⟩:=by
    unfold saveL;rw[if_neg (fun h=>h c1)]
   rw[hn]
   simp(disch:=first|assumption|omega|(simp only[LN]<;>omega)|(simp(disch:=first|assumption|omega|(simp only[LN]<;>omega))only[row_alloc,row_set];assumption))only[W_block,P3,↓reduceIte,reduceAdd,reduceEqDiff,reduceCtorEq,initFr,reduceLT,clsA,reduceLeDiff,reduceMul,reduceSub,reduceIte]
   refine callK (t108 cy X) ?_
   rintro _ Z ⟨rfl,hZ⟩
   rw[hZ,hc]
   have r71:=rsL_b (d:=d) (w:=w) ho
   have heq:∀X,asem (.eqs O68O false (.agg (cSt x).toArray) (.agg (cSt (o.getD Lo0).s).toArray)) X=some (.bool (stB x (o.getD Lo0).s),X):=fun X=>eq_cSt X false hx ho.r
   cases hi:o.isSome with
   |false=>
    rw[hi]at hsav r71
    simp(disch:=first|assumption|omega|(simp only[LN]<;>omega)|(simp(disch:=first|assumption|omega|(simp only[LN]<;>omega))only[row_alloc,row_set];assumption))only[W_block,P3,↓reduceIte,reduceAdd,reduceEqDiff,reduceCtorEq,initFr,reduceLT,clsA,reduceLeDiff,reduceMul,reduceSub,reduceIte,hgX,r71,l73]
    exact hk _ _ ⟨_,_,_,rfl,kX,gX,c1,by rw[hsav,if_neg (by simp),if_neg (by simp)]⟩
   |true=>
    rw[hi]at hsav r71
    by_cases c2:n<(o.getD Lo0).e
    ·simp(disch:=first|assumption|omega|(simp only[LN]<;>omega)|(simp(disch:=first|assumption|omega|(simp only[LN]<;>omega))only[row_alloc,row_set];assumption))only[W_block,P3,↓reduceIte,reduceAdd,reduceEqDiff,reduceCtorEq,initFr,reduceLT,clsA,reduceLeDiff,reduceMul,reduceSub,reduceIte,hgX,r71,l73,rsL_e]
     exact hq3 _ 230 (by rw[hsav,if_pos ⟨rfl,c2⟩]) rfl
    ·by_cases c3:n=(o.getD Lo0).e
     ·have d3:(n==(o.getD Lo0).e)=true:=beqi_yes c3
      cases hb:stB x (o.getD Lo0).s with
      |true=>
       rw[hb]at heq
       simp(disch:=first|assumption|omega|(simp only[LN]<;>omega)|(simp(disch:=first|assumption|omega|(simp only[LN]<;>omega))only[row_alloc,row_set];assumption))only[W_block,P3,↓reduceIte,reduceAdd,reduceEqDiff,reduceCtorEq,initFr,reduceLT,clsA,reduceLeDiff,reduceMul,reduceSub,reduceIte,hgX,gX,r71,l73,rsL_e,rsL_s ho,heq,d3]
       exact hq3 _ 0 (by rw[hsav,if_neg (by simp;omega),if_pos ⟨rfl,c3,hb⟩]) rfl
      |false=>
       rw[hb]at heq
       simp(disch:=first|assumption|omega|(simp only[LN]<;>omega)|(simp(disch:=first|assumption|omega|(simp only[LN]<;>omega))only[row_alloc,row_set];assumption))only[W_block,P3,↓reduceIte,reduceAdd,reduceEqDiff,reduceCtorEq,initFr,reduceLT,clsA,reduceLeDiff,reduceMul,reduceSub,reduceIte,hgX,gX,r71,l73,rsL_e,rsL_s ho,heq,d3]
       exact hk _ _ ⟨_,_,_,rfl,kX,gX,c1,by rw[hsav,if_neg (by simp;omega),if_neg (by rw[hb];simp)]⟩
     ·have d3:(n==(o.getD Lo0).e)=false:=beqi_no c3
      cases hb:stB x (o.getD Lo0).s
      all_goals
       rw[hb]at heq
       simp(disch:=first|assumption|omega|(simp only[LN]<;>omega)|(simp(disch:=first|assumption|omega|(simp only[LN]<;>omega))only[row_alloc,row_set];assumption))only[W_block,P3,↓reduceIte,reduceAdd,reduceEqDiff,reduceCtorEq,initFr,reduceLT,clsA,reduceLeDiff,reduceMul,reduceSub,reduceIte,hgX,gX,r71,l73,rsL_e,rsL_s ho,heq,d3]
       exact hk _ _ ⟨_,_,_,rfl,kX,gX,c1,by rw[hsav,if_neg (by simp;omega),if_neg (by simp[c3])]⟩
  ·have hsav:saveL D L o w x n cy=(D,L,o,w,2):=by unfold saveL;rw[if_pos c1]
   by_cases m1:cyB n=true
   ·have m2:cyB cy=false:=by
     have:¬(cyB cy=true):=fun h=>by simp[cyB]at h m1;omega
     simpa using this
    rw[m1]
    simp(disch:=first|assumption|omega|(simp only[LN]<;>omega)|(simp(disch:=first|assumption|omega|(simp only[LN]<;>omega))only[row_alloc,row_set];assumption))only[W_block,P3,↓reduceIte,reduceAdd,reduceEqDiff,reduceCtorEq,initFr,reduceLT,clsA,reduceLeDiff,reduceMul,reduceSub,reduceIte]
    refine callK (t108 cy X) ?_
    rintro _ Z ⟨rfl,hZ⟩
    rw[hZ,m2]
    simp(disch:=first|assumption|omega|(simp only[LN]<;>omega)|(simp(disch:=first|assumption|omega|(simp only[LN]<;>omega))only[row_alloc,row_set];assumption))only[W_block,P3,↓reduceIte,reduceAdd,reduceEqDiff,reduceCtorEq,initFr,reduceLT,clsA,reduceLeDiff,reduceMul,reduceSub,reduceIte]
    exact hq3 _ 2 hsav rfl
   ·have m2:cyB n=false:=by simpa using m1
    rw[m2]
    simp(disch:=first|assumption|omega|(simp only[LN]<;>omega)|(simp(disch:=first|assumption|omega|(simp only[LN]<;>omega))only[row_alloc,row_set];assumption))only[W_block,P3,↓reduceIte,reduceAdd,reduceEqDiff,reduceCtorEq,initFr,reduceLT,clsA,reduceLeDiff,reduceMul,reduceSub,reduceIte]
    exact hq3 _ 2 hsav rfl
 ·rintro fr X ⟨y8,y9,y10,rfl,kX,gx,c1,hsv⟩
  rw[hsv]at hq1 hq2
  have hX:=h.keeps kX
  have hgX:=hX.gs
  unfold rsC at hgX
  have hsX:=AHeap.get_lt hgX
  have hfl:fillA Z70O [(0,1,.int .i64 n),(1,1,.int .i64 cy),(2,68,.agg (cSt x).toArray)]=some (cLo ⟨n,cy,x⟩):=fillLo hx.ht
  have ly:=cLo_len (x:=⟨n,cy,x⟩) hx.ht
  have oy:=cLo_one ⟨n,cy,x⟩
  have kY:Keeps X (X.alloc (.cells true false 70 (cLo ⟨n,cy,x⟩) 94)):=(Keeps.refl X).alloc _
  have gY:=kY.at_ hgX
  have gmY:(X.alloc (.cells true false 70 (cLo ⟨n,cy,x⟩) 94)).get X.n=some (.cells true false 70 (cLo ⟨n,cy,x⟩) 94):=AHeap.get_alloc_new X _
  simp(disch:=first|assumption|omega|(simp only[LN]<;>omega)|(simp(disch:=first|assumption|omega|(simp only[LN]<;>omega))only[row_alloc,row_set];assumption))only[f59,P3,↓reduceIte,reduceAdd,reduceEqDiff,reduceCtorEq,initFr,reduceLT,clsA,reduceLeDiff,reduceMul,reduceSub,reduceIte,cpost,gx,o2,hfl,ly,oy,gY,gmY,oz2,rsL_0,l73,hgX]
  generalize X.alloc (.cells true false 70 (cLo ⟨n,cy,x⟩) 94)=Y at*
  refine callK (t109 ⟨n,cy,x⟩ hx Y) ?_
  rintro y Z ob
  have kZ:=ob.k
  have gZ:=kZ.at_ gY
  have gmZ:=kZ.at_ gmY
  have hZ:=h.keeps (kX.trans (kY.trans kZ))
  have eZ:=a_b2sB ob.bs
  simp(disch:=first|assumption|omega|(simp only[LN]<;>omega)|(simp(disch:=first|assumption|omega|(simp only[LN]<;>omega))only[row_alloc,row_set];assumption))only[W_block,P3,↓reduceIte,reduceAdd,reduceEqDiff,reduceCtorEq,initFr,reduceLT,clsA,reduceLeDiff,reduceMul,reduceSub,reduceIte,gZ,gY,eZ]
  refine⟨by simp,?_⟩
  have ltK:∀z∈fp (kT d le e vb vo inn vl D L),z<K.n:=fun z hz=>h.rk.u.sep.lt hz
  refine callK (hZ.rk.save hs hm hT hF (by have:=fLo_len ⟨n,cy,x⟩ hx;omega)) ?_
  rintro _ K2 ⟨rfl,vo2,in2,vl2,s1⟩
  have hKX:=kX.n
  have g2:=s1.u.chg.at_ gZ h.sf
  have gm2:=s1.u.chg.at_ gmZ (fun hz=>by have:=ltK _ hz;omega)
  have U:=hZ.u.trans (s1.u.extR (A:=[thB s (rsC d o w)]) hZ.u.sep)
  have hnx:saveT D L o w ⟨n,cy,x⟩=if(saveW D L (fLo ⟨n,cy,x⟩)).2.2 =0 then((saveW D L (fLo ⟨n,cy,x⟩)).1,(saveW D L (fLo ⟨n,cy,x⟩)).2.1,some ⟨n,cy,x⟩,w+1,0)else((saveW D L (fLo ⟨n,cy,x⟩)).1,(saveW D L (fLo ⟨n,cy,x⟩)).2.1,o,w,(saveW D L (fLo ⟨n,cy,x⟩)).2.2):=rfl
  rw[hnx]at hq1 hq2
  clear hnx
  generalize saveW D L (fLo ⟨n,cy,x⟩)=r at*
  have hw1:IntKind.i64.wrap ((w:Int)+1)=((w+1:Nat):Int):=by rw[wrap_i64 (by omega) (by omega)];simp
  by_cases he:r.2.2=0
  ·rw[if_pos he]at hq1 hq2
   have d0:(r.2.2==0)=true:=beqi_yes he
   have hs2:=AHeap.get_lt g2
   have h1:cyB n=true:=by simp[cyB];omega
   have h2:cyB cy=true:=by simp[cyB];omega
   have hok:OkL (some ⟨n,cy,x⟩):=⟨hx,by show(cyB n&&cyB cy)=true;rw[h1,h2];rfl⟩
   have r1:=rsL_set (d:=d) (w:=w) ho hok
   simp(disch:=first|assumption|omega|(simp only[LN]<;>omega)|(simp(disch:=first|assumption|omega|(simp only[LN]<;>omega))only[row_alloc,row_set];assumption))only[W_block,P3,↓reduceIte,reduceAdd,reduceEqDiff,reduceCtorEq,initFr,reduceLT,clsA,reduceLeDiff,reduceMul,reduceSub,reduceIte,d0,g2,gm2,oy,hw1,r1,l73,len72 hok,set70 hok,set71 hok,get71 hok]
   have U5:=Upd.next (l:=[]) (t':=thB s (rsC d (some ⟨n,cy,x⟩) (w+1))) U (Chg.set K2 hs2 (rsC d (some ⟨n,cy,x⟩) (w+1))) (AHeap.get_set_same g2 _) (by simp[thB])
   refine hq2 _ _ ?_
   exact⟨_,rfl,by show Value.int .i64 r.2.2=.int .i64 0;rw[he],vo2,in2,vl2,U5,s1.ok,s1.i,s1.n3,s1.lok,hok,by show w+1≤1000000;omega⟩
  ·rw[if_neg he]at hq1 hq2
   have d0:(r.2.2==0)=false:=beqi_no he
   simp(disch:=first|assumption|omega|(simp only[LN]<;>omega)|(simp(disch:=first|assumption|omega|(simp only[LN]<;>omega))only[row_alloc,row_set];assumption))only[W_block,P3,↓reduceIte,reduceAdd,reduceEqDiff,reduceCtorEq,initFr,reduceLT,clsA,reduceLeDiff,reduceMul,reduceSub,reduceIte,d0]
   exact hq2 _ _ ⟨_,rfl,rfl,vo2,in2,vl2,U,s1.ok,s1.i,s1.n3,s1.lok,h.r,h.hw⟩
end
end Go.AM.Fd

set_option linter.unusedSimpArgs false
set_option linter.unusedVariables false
namespace Go.AM.Fd
open Nat (reduceAdd reduceEqDiff reduceLT reduceLeDiff reduceMul reduceSub)
open Go.Proofs Go.AM.F
section
variable {K:AHeap} {b sb e:Nat} {v vb vo:Value} {ab:Option Nat} {inn:Int} {D:Dk}
theorem t55(h:DkR K b sb v ab D)(he:EkR K e vb vo inn D):∃w K',ARun Go.Proofs.Tryz.prog 0 55 [ptr b 0,ptr e 0] K w K'∧w=.bool true∧Keeps K K':=by
 refine walk2 f55_ok f55_n ?_
 intro Q hq1 hq2
 have g:=he.g
 have n4:=he.ok.n
 have le:=he.lt
 have ib:=Sl.is he.sb
 have lb2:lenS vb=D.bl.length:=by have:=Sl.len he.sb;simpa using this
 obtain⟨av,hav⟩:=he.oo.shape
 have io:isS vo=true:=by rw[hav];rfl
 have lo:lenS vo=D.op.length:=by rw[hav];rfl
 clear hav
 simp(disch:=first|assumption|omega|(simp only[LN]<;>omega)|(simp(disch:=first|assumption|omega|(simp only[LN]<;>omega))only[row_alloc,row_set];assumption))only[f55,W_block,P3,↓reduceIte,reduceAdd,reduceEqDiff,reduceCtorEq,initFr,reduceLT,clsA,reduceLeDiff,reduceMul,reduceSub,reduceIte]
 refine callK (t81 h) ?_
 rintro _ X ⟨rfl,hX⟩
 rw[hX]
 simp(disch:=first|assumption|omega|(simp only[LN]<;>omega)|(simp(disch:=first|assumption|omega|(simp only[LN]<;>omega))only[row_alloc,row_set];assumption))only[W_block,P3,↓reduceIte,reduceAdd,reduceEqDiff,reduceCtorEq,initFr,reduceLT,clsA,reduceLeDiff,reduceMul,reduceSub,reduceIte,g]
 refine callK (t66 h) ?_
 rintro _ X ⟨rfl,hX⟩
 rw[hX]
 have hoff:D.off=true∨D.off=false:=by cases D.off<;>simp
 have key:∀off:Bool,D.off=off→True:=fun _ _=>trivial
 rcases hoff with ho|ho
 all_goals
  rw[ho]at g
  rw[ho]
  simp(disch:=first|assumption|omega|(simp only[LN]<;>omega)|(simp(disch:=first|assumption|omega|(simp only[LN]<;>omega))only[row_alloc,row_set];assumption))only[W_block,P3,↓reduceIte,reduceAdd,reduceEqDiff,reduceCtorEq,initFr,reduceLT,clsA,reduceLeDiff,reduceMul,reduceSub,reduceIte,g]
  refine callK (t82 h) ?_
  rintro _ X ⟨rfl,hX⟩
  rw[hX]
  simp(disch:=first|assumption|omega|(simp only[LN]<;>omega)|(simp(disch:=first|assumption|omega|(simp only[LN]<;>omega))only[row_alloc,row_set];assumption))only[P3,↓reduceIte,reduceAdd,reduceEqDiff,reduceCtorEq,initFr,reduceLT,clsA,reduceLeDiff,reduceMul,reduceSub,reduceIte,g,lo]
  rw[W_block]
  refine W_loop2 (fun k fr Y=>Keeps K Y∧∃i y4 y5 y6 y7 y9 y10,fr=[ptr b 0,ptr e 0,.bool false,.int .i64 (i:Nat),y4,y5,y6,y7,.bool false,y9,y10]∧i≤D.bl.length∧k=D.bl.length-i) D.bl.length ⟨Keeps.refl K,0,_,_,_,_,_,_,rfl,by omega,by omega⟩ ?_
  rintro Q2 k fr Y ⟨kY,i,y4,y5,y6,y7,y9,y10,rfl,hi,rfl⟩ hnx hx hret2
  have g2:=kY.at_ g
  have h2:DkR Y b sb v ab D:=⟨h.s.keeps kY,h.ok⟩
  have he2:EkR Y e vb vo inn D:=⟨he.s.keeps kY,he.ok,he.i⟩
  by_cases hlt:i<D.bl.length
  ·have d1:(i:Int)<((D.bl.length:Nat):Int):=by omega
   have hw:IntKind.i64.wrap ((i:Int)+1)=((i+1:Nat):Int):=by rw[wrap_i64 (by omega) (by omega)];simp
   simp(disch:=first|assumption|omega|(simp only[LN]<;>omega)|(simp(disch:=first|assumption|omega|(simp only[LN]<;>omega))only[row_alloc,row_set];assumption))only[W_block,P3,↓reduceIte,reduceAdd,reduceEqDiff,reduceCtorEq,initFr,reduceLT,clsA,reduceLeDiff,reduceMul,reduceSub,reduceIte,g2,lb2]
   refine callK (t67 h2 ((i:Nat):Int)) ?_
   rintro _ Y2 ⟨k2,x,rfl,hx1,hx2⟩
   simp(disch:=first|assumption|omega|(simp only[LN]<;>omega)|(simp(disch:=first|assumption|omega|(simp only[LN]<;>omega))only[row_alloc,row_set];assumption))only[W_block,P3,↓reduceIte,reduceAdd,reduceEqDiff,reduceCtorEq,initFr,reduceLT,clsA,reduceLeDiff,reduceMul,reduceSub,reduceIte]
   refine callK (t73 (⟨he2.s.keeps k2,he2.ok,he2.i⟩:EkR Y2 e vb vo inn D) ((i:Nat):Int)) ?_
   rintro _ Y3 ⟨rfl,hY3⟩
   rw[hY3]
   have d2:(askD D ((i:Nat):Int) != askD D ((i:Nat):Int))=false:=bnei_no rfl
   by_cases ha:askD D ((i:Nat):Int)=0
   ·obtain⟨bx,vb2,rfl,hvb2⟩:=hx2 ha
    have e1:=a_b2sB bx
    rw[if_pos ha]
    simp(disch:=first|assumption|omega|(simp only[LN]<;>omega)|(simp(disch:=first|assumption|omega|(simp only[LN]<;>omega))only[row_alloc,row_set];assumption))only[W_block,P3,↓reduceIte,reduceAdd,reduceEqDiff,reduceCtorEq,initFr,reduceLT,clsA,reduceLeDiff,reduceMul,reduceSub,reduceIte,d2,e1]
    rw[hw]
    exact hnx _ _ _ ⟨kY.trans k2,i+1,_,_,_,_,_,_,rfl,by omega,rfl⟩ (by omega)
   ·have hxe:=hx1 ha
    subst hxe
    have e1:=a_b2sB (H:=Y2) (v:=.slice none 0 0) (l:=[]) ⟨⟨_,_,rfl⟩,rfl⟩
    rw[if_neg ha]
    simp(disch:=first|assumption|omega|(simp only[LN]<;>omega)|(simp(disch:=first|assumption|omega|(simp only[LN]<;>omega))only[row_alloc,row_set];assumption))only[W_block,P3,↓reduceIte,reduceAdd,reduceEqDiff,reduceCtorEq,initFr,reduceLT,clsA,reduceLeDiff,reduceMul,reduceSub,reduceIte,d2,e1]
    rw[hw]
    exact hnx _ _ _ ⟨kY.trans k2,i+1,_,_,_,_,_,_,rfl,by omega,rfl⟩ (by omega)
  ·have d1:¬(i:Int)<((D.bl.length:Nat):Int):=by omega
   simp(disch:=first|assumption|omega|(simp only[LN]<;>omega)|(simp(disch:=first|assumption|omega|(simp only[LN]<;>omega))only[row_alloc,row_set];assumption))only[W_block,P3,↓reduceIte,reduceAdd,reduceEqDiff,reduceCtorEq,initFr,reduceLT,clsA,reduceLeDiff,reduceMul,reduceSub,reduceIte,g2,lb2]
   refine hx 0 _ _ (show W Go.Proofs.Tryz.prog 0 _ Q _ _ from ?_)
   simp(disch:=first|assumption|omega|(simp only[LN]<;>omega)|(simp(disch:=first|assumption|omega|(simp only[LN]<;>omega))only[row_alloc,row_set];assumption))only[W_block,P3,↓reduceIte,reduceAdd,reduceEqDiff,reduceCtorEq,initFr,reduceLT,clsA,reduceLeDiff,reduceMul,reduceSub,reduceIte]
   exact hq2 _ _ ⟨_,rfl,rfl,kY⟩
end
end Go.AM.Fd

set_option linter.unusedSimpArgs false
set_option linter.unusedVariables false
namespace Go.AM.Fd
open Nat (reduceAdd reduceEqDiff reduceLT reduceLeDiff reduceMul reduceSub)
open Go.Proofs Go.AM.F
theorem stB_rfl(x:St):stB x x=true:=(stB_iff x x).2 rfl
theorem t56{K:AHeap}{s t c d:Nat}{o:Option Lo}{w:Nat}(hs:K.get s=some (lsC c o w))(hm:K.get t=some (rsC d o w))(ho:OkL o)(x:St)(hx:rgSt x):∃v K',ARun Go.Proofs.Tryz.prog 0 56 [ptr s 0,ptr t 0,.agg (cSt x).toArray] K v K'∧v=.bool true∧Keeps K K':=by
 refine walk2 f56_ok f56_n ?_
 intro Q hq1 hq2
 have lz:Z68N.length=68:=rfl
 have ozz:Z68N.all Value.oneCell'=true:=rfl
 have hm0:=hm
 unfold rsC at hm0
 have htK:=AHeap.get_lt hm
 have l73:=rsL_len (d:=d) (w:=w) ho
 have r71:=rsL_b (d:=d) (w:=w) ho
 have r72:=rsL_w (d:=d) (w:=w) ho
 have rs:=rsL_s (d:=d) (w:=w) ho
 have l2:=cSt_len hx.ht
 have o2:=cSt_one x
 have l3:=cSt_len ho.r.ht
 have o3:=cSt_one (o.getD Lo0).s
 have heq:∀X,asem (.eqs O68N true (.agg (cSt (o.getD Lo0).s).toArray) (.agg (cSt (o.getD Lo0).s).toArray)) X=some (.bool false,X):=fun X=>(eq_cSt X true ho.r ho.r).trans (by rw[stB_rfl];rfl)
 have ce:∀n:Int,(n != n)=false:=fun n=>bnei_no rfl
 simp(disch:=first|assumption|omega|(simp only[LN]<;>omega)|(simp(disch:=first|assumption|omega|(simp only[LN]<;>omega))only[row_alloc,row_set];assumption))only[f56,W_block,P3,↓reduceIte,reduceAdd,reduceEqDiff,reduceCtorEq,initFr,reduceLT,clsA,reduceLeDiff,reduceMul,reduceSub,reduceIte,o2]
 obtain⟨X,hX⟩:∃Y,Y=K.alloc (.cells true false 68 (cSt x) 89):=⟨_,rfl⟩
 have kX:Keeps K X:=by rw[hX];exact(Keeps.refl K).alloc _
 have gX:X.get K.n=some (.cells true false 68 (cSt x) 89):=by rw[hX];exact AHeap.get_alloc_new K _
 rw[←hX]
 refine callK (t60 (kX.at_ hs) ho) ?_
 rintro _ K1 ⟨rfl,k1⟩
 have hm1:=k1.at_ (kX.at_ hm0)
 have hs1:=k1.at_ (kX.at_ hs)
 have gx1:=k1.at_ gX
 have n1:=k1.n
 have nX:=kX.n
 have hsK:=AHeap.get_lt hs
 have k2:Keeps K1 (K1.alloc (.cells true false 68 (cSt (o.getD Lo0).s) 89)):=(Keeps.refl K1).alloc _
 have hs2:=k2.at_ hs1
 have hm2:=k2.at_ hm1
 have gx2:=k2.at_ gx1
 have ltm:=AHeap.get_lt hm1
 have ltx:=AHeap.get_lt gx1
 have ce2:(o.isSome != o.isSome)=false:=by cases o<;>rfl
 have eqv:∀X,asem (.eqv 0 true (.bool o.isSome) (.bool o.isSome)) X=some (.bool false,X):=fun X=>by cases o<;>rfl
 simp(disch:=first|assumption|omega|(simp only[LN]<;>omega)|(simp(disch:=first|assumption|omega|(simp only[LN]<;>omega))only[row_alloc,row_set];assumption))only[W_block,P3,↓reduceIte,reduceAdd,reduceEqDiff,reduceCtorEq,initFr,reduceLT,clsA,reduceLeDiff,reduceMul,reduceSub,reduceIte,ozz,o3,hm1,rs,l73,heq,ce,ce2,eqv,rsL_e,rsL_c,r71]
 generalize K1.alloc (.cells true false 68 (cSt (o.getD Lo0).s) 89)=Y at*
 refine callK (t62 hs2) ?_
 rintro _ Z ⟨rfl,hZ⟩
 rw[hZ]
 simp(disch:=first|assumption|omega|(simp only[LN]<;>omega)|(simp(disch:=first|assumption|omega|(simp only[LN]<;>omega))only[row_alloc,row_set];assumption))only[W_block,P3,↓reduceIte,reduceAdd,reduceEqDiff,reduceCtorEq,initFr,reduceLT,clsA,reduceLeDiff,reduceMul,reduceSub,reduceIte,hm2,l73,r72,ce]
 refine⟨AHeap.get_lt hm2,?_⟩
 simp(disch:=first|assumption|omega|(simp only[LN]<;>omega)|(simp(disch:=first|assumption|omega|(simp only[LN]<;>omega))only[row_alloc,row_set];assumption))only[W_block,P3,↓reduceIte,reduceAdd,reduceEqDiff,reduceCtorEq,initFr,reduceLT,clsA,reduceLeDiff,reduceMul,reduceSub,reduceIte,gx2,l2]
 refine callK (t61 hs2 ho x hx) ?_
 rintro _ Z ⟨rfl,kZ⟩
 have gx3:=kZ.at_ gx2
 have hm3:=kZ.at_ hm2
 have hs3:=kZ.at_ hs2
 have c0:(cSt x)[0]? =some (.int .u64 (x.a:Nat)):=rfl
 have ba:binA .andNot (.int .u64 (x.a:Nat)) (.int .u64 ((o.getD Lo0).s.a:Nat))=some (.int .u64 (IntKind.u64.wrap (BitVec.ofInt 64 (x.a:Nat)&&& ~~~ BitVec.ofInt 64 ((o.getD Lo0).s.a:Nat)).toNat)):=rfl
 have key:∀b:Bool,eqA 0 (.bool b) (.bool b)=some true:=fun b=>by cases b<;>rfl
 have ltm2:=AHeap.get_lt hm2
 have ltx2:=AHeap.get_lt gx2
 unfold notB
 simp(disch:=first|assumption|omega|(simp only[LN]<;>omega)|(simp(disch:=first|assumption|omega|(simp only[LN]<;>omega))only[row_alloc,row_set];assumption))only[W_block,P3,↓reduceIte,reduceAdd,reduceEqDiff,reduceCtorEq,initFr,reduceLT,clsA,reduceLeDiff,reduceMul,reduceSub,reduceIte,gx3,hm3,gx2,hm2,l73,c0,rsL_a,ba,rs,key]
 refine callK (t61 hs3 ho (o.getD Lo0).s ho.r) ?_
 rintro _ Z2 ⟨rfl,kZ2⟩
 have n0:notB (o.getD Lo0).s.a (o.getD Lo0).s.a=.bool true:=by
  unfold notB
  have:(BitVec.ofInt 64 (((o.getD Lo0).s.a:Nat):Int)&&& ~~~ BitVec.ofInt 64 (((o.getD Lo0).s.a:Nat):Int))=0:=by
   apply BitVec.eq_of_getLsbD_eq;intro i hi;simp
  rw[this];rfl
 rw[n0]
 simp(disch:=first|assumption|omega|(simp only[LN]<;>omega)|(simp(disch:=first|assumption|omega|(simp only[LN]<;>omega))only[row_alloc,row_set];assumption))only[W_block,P3,↓reduceIte,reduceAdd,reduceEqDiff,reduceCtorEq,initFr,reduceLT,clsA,reduceLeDiff,reduceMul,reduceSub,reduceIte]
 exact hq2 _ _ ⟨_,rfl,rfl,kX.trans (k1.trans (k2.trans (kZ.trans kZ2)))⟩
theorem fitSt{G:Gf}{l:List Value}(hf:fitsL Go.Proofs.Tryz.prog G (.int .u64:: .int .u64:: .int .u64::(List.replicate 64 (.int .u8)++[.int .u32])) l):∃x,l=cSt x∧rgSt x:=by
 obtain⟨a,r0,rfl,h0,g0⟩:=hf.inv
 obtain⟨b,r1,rfl,h1,g1⟩:=g0.inv
 obtain⟨c,r2,rfl,h2,g2⟩:=g1.inv
 obtain⟨n0,rfl,w0⟩:=fits_u64 h0
 obtain⟨n1,rfl,w1⟩:=fits_u64 h1
 obtain⟨n2,rfl,w2⟩:=fits_u64 h2
 obtain⟨h4,h5⟩:=g2.split
 rw[List.length_replicate]at h4 h5
 obtain⟨t,ht,e4⟩:=h4.u8
 have e:r2=r2.take 64++r2.drop 64:=(List.take_append_drop 64 r2).symm
 obtain⟨p,q,e5,h5,h6⟩:=h5.inv
 obtain rfl:=h6.end_
 obtain⟨n3,rfl,w3⟩:=fits_u32 h5
 exact⟨⟨n0,n1,n2,t,n3⟩,by rw[e,e4,e5];rfl,⟨ht,w0,w1,w2,w3⟩⟩
structure CK where
 k:Nat
 x:St
 e:Int
 c:Int
 f:Value
 fs:List UInt8
def ckRow(p:CK):List Value:=.int .u8 (p.k:Nat)::(cSt p.x++[.int .i64 p.e,.int .i64 p.c,p.f])
structure CkO (H:AHeap) (p:CK):Prop where
 k:p.k<256
 x:rgSt p.x
 f:BS H p.f p.fs
 c:p.c≤9223372036854775807
 fl:∀z∈tb p.f,z<H.n
structure CkL (H:AHeap) (v:Value) (l:List CK):Prop where
 s:Sl H 72 v (l.map ckRow)
 c:∀p∈l,CkO H p
theorem CkO.keeps{H K:AHeap}{p:CK}(h:CkO H p)(k:Keeps H K):CkO K p:=⟨h.k,h.x,h.f.keeps k,h.c,fun z hz=>Nat.lt_of_lt_of_le (h.fl z hz) k.n⟩
theorem CkL.keeps{H K:AHeap}{v:Value}{l:List CK}(h:CkL H v l)(k:Keeps H K):CkL K v l:=⟨h.s.keeps k,fun p hp=>(h.c p hp).keeps k⟩
theorem CkL.at_{H:AHeap}{v:Value}{l:List CK}(h:CkL H v l){i:Nat}(hi:i<l.length):nnS v=true∧rowA H 72 v i=some (ckRow l[i]):=by
 have:=Sl.at_ h.s (by omega) (i:=i) (by simpa using hi)
 simpa using this
theorem ckRow_len{p:CK}(h:rgSt p.x):(ckRow p).length=72:=by simp only[ckRow,List.length_cons,List.length_append,cSt_len h.ht,List.length_nil]
theorem ckRow_s{p:CK}(h:rgSt p.x):((ckRow p).drop 1).take 68=cSt p.x:=by
 simp only[ckRow,List.drop_succ_cons,List.drop_zero]
 rw[List.take_left' (cSt_len h.ht)]
theorem ckRow_0(p:CK):(ckRow p)[0]? =some (.int .u8 (p.k:Nat)):=rfl
theorem ckRow_r{p:CK}(h:rgSt p.x)(i:Nat)(hi:i<3):(ckRow p)[69+i]? =[Value.int .i64 p.e,.int .i64 p.c,p.f][i]? :=by
 have e:ckRow p=(.int .u8 (p.k:Nat)::cSt p.x)++[.int .i64 p.e,.int .i64 p.c,p.f]:=rfl
 have l:(Value.int .u8 (p.k:Nat)::cSt p.x).length=69:=by rw[List.length_cons,cSt_len h.ht]
 rw[e,List.getElem?_append_right (by omega),l,Nat.add_sub_cancel_left]
theorem ckRow_e{p:CK}(h:rgSt p.x):(ckRow p)[69]? =some (.int .i64 p.e):=ckRow_r h 0 (by omega)
theorem ckRow_c{p:CK}(h:rgSt p.x):(ckRow p)[70]? =some (.int .i64 p.c):=ckRow_r h 1 (by omega)
theorem ckRow_f{p:CK}(h:rgSt p.x):(ckRow p)[71]? =some p.f:=ckRow_r h 2 (by omega)
theorem call_of17{H:AHeap}{cells:List Value}(h:AR Go.Proofs.Tryz.prog H.get 91 cells):∃p,cells=ckRow p∧CkO H p:=by
 have h1:=h.flat (d:=20) (ks:=.int .u8::((.int .u64:: .int .u64:: .int .u64::(List.replicate 64 (.int .u8)++[.int .u32]))++[.int .i64,.int .i64,.sl 38])) (by kernel_rfl)
 obtain⟨_,as1,rfl,ha,h2⟩:=h1.inv
 obtain⟨h3,h4⟩:=h2.split
 obtain⟨x,ex,hx⟩:=fitSt h3
 obtain⟨_,cs,ec,he,h5⟩:=h4.inv
 obtain⟨_,ds,rfl,hc,h6⟩:=h5.inv
 obtain⟨d,es,rfl,hd,h7⟩:=h6.inv
 have:=h7.end_;subst this
 obtain⟨k,rfl,hk⟩:=fits_u8 ha
 obtain⟨e,rfl,_⟩:=fits_i64 he
 obtain⟨c,rfl,hc1⟩:=fits_i64 hc
 obtain⟨fs,hf⟩:=AR.bs (P:=Go.Proofs.Tryz.prog) (t:=38) (e:=5) (by kernel_rfl) (by kernel_rfl) (by kernel_rfl) (show AR Go.Proofs.Tryz.prog H.get 38 [d]from hd)
 have ea:as1=cSt x++[.int .i64 e,.int .i64 c,d]:=by rw[←ex,←ec];exact(List.take_append_drop _ as1).symm
 exact⟨⟨k,x,e,c,d,fs⟩,by rw[ea];rfl,hk,hx,hf,hc1.2,bs_lt hf⟩
theorem av_calls17{H:AHeap}{v:Value}(h:AV Go.Proofs.Tryz.prog H.get 77 v):∃l:List CK,CkL H v l:=by
 have h1:=h.2.2 (by kernel_rfl)
 have hc:v.cells.toList=[v]:=by rw[cells_one h1]
 have h2:=h.1
 rw[hc]at h2
 obtain⟨rows,hr,hrow⟩:=h2.rows (e:=91) (esz:=72) (by kernel_rfl) (by kernel_rfl)
 obtain⟨l,rfl,hl⟩:=list_choose (f:=ckRow) (Q:=CkO H) (l:=rows) (fun r hm=>call_of17 (hrow r hm))
 exact⟨l,hr,hl⟩
theorem t51{H:AHeap}{v:Value}{l:List CK}(h:CkL H v l):∃w K,ARun Go.Proofs.Tryz.prog 0 51 [v] H w K∧(∃b,w=.bool b∧(b=true→l.length≤60))∧K=H:=by
 refine walk2 f51_ok f51_n ?_
 intro Q hq1 hq2
 have isv:=Sl.is h.s
 have lv:lenS v=l.length:=by have:=Sl.len h.s;simpa using this
 by_cases h60:(60:Int)<((l.length:Nat):Int)
 ·simp(disch:=first|assumption|omega|(simp only[LN]<;>omega)|(simp(disch:=first|assumption|omega|(simp only[LN]<;>omega))only[row_alloc,row_set];assumption))only[f51,W_block,P3,↓reduceIte,reduceAdd,reduceEqDiff,reduceCtorEq,initFr,reduceLT,clsA,reduceLeDiff,reduceMul,reduceSub,reduceIte,isv,lv,h60]
  exact hq2 _ _ ⟨_,rfl,⟨false,rfl,fun e=>by cases e⟩,rfl⟩
 simp(disch:=first|assumption|omega|(simp only[LN]<;>omega)|(simp(disch:=first|assumption|omega|(simp only[LN]<;>omega))only[row_alloc,row_set];assumption))only[f51,P3,↓reduceIte,reduceAdd,reduceEqDiff,reduceCtorEq,initFr,reduceLT,clsA,reduceLeDiff,reduceMul,reduceSub,reduceIte,isv,lv,h60]
 rw[W_block]
 refine W_loop2 (fun q fr K=>∃i tot x5 x6,fr=[v,.bool false,.int .i64 (tot:Nat),.int .i64 ((i:Nat):Int),.bool false,x5,x6]∧K=H∧tot≤1000∧i≤l.length∧q=l.length-i) l.length
  ⟨0,0,_,_,rfl,rfl,by omega,by omega,rfl⟩ ?_
 rintro Q' q fr K ⟨i,tot,x5,x6,rfl,rfl,htot,hi,rfl⟩ hn' hx' hret
 by_cases hlt:i<l.length
 ·obtain⟨nn,ra⟩:=h.at_ hlt
  have e0:(0:Int)≤(i:Int):=by omega
  have e1:(i:Int)<((l.length:Nat):Int):=by omega
  have hw:IntKind.i64.wrap ((i:Int)+1)=((i+1:Nat):Int):=by rw[wrap_i64 (by omega) (by omega)];simp
  have oc:=h.c _ (List.getElem_mem hlt)
  obtain⟨P,eP⟩:∃P,l[i]=P:=⟨_,rfl⟩
  rw[eP]at oc ra
  have m3:=ckRow_f oc.x
  have isb:=oc.f.isS
  have lb:lenS P.f=P.fs.length:=oc.f.lenS
  have hs:IntKind.i64.wrap (1000-((tot:Nat):Int))=1000-((tot:Nat):Int):=wrap_i64 (by omega) (by omega)
  by_cases c2:1000-((tot:Nat):Int)<((P.fs.length:Nat):Int)
  ·simp(disch:=first|assumption|omega|(simp only[LN]<;>omega)|(simp(disch:=first|assumption|omega|(simp only[LN]<;>omega))only[row_alloc,row_set];assumption))only[W_block,P3,↓reduceIte,reduceAdd,reduceEqDiff,reduceCtorEq,initFr,reduceLT,clsA,reduceLeDiff,reduceMul,reduceSub,reduceIte,isv,lv,e0,e1,nn,ra,a_load1v,m3,isb,lb,hs,c2]
   exact hret _ _ (hq2 _ _ ⟨_,rfl,⟨false,rfl,fun e=>by cases e⟩,rfl⟩)
  have ht2:IntKind.i64.wrap (((tot:Nat):Int)+((P.fs.length:Nat):Int))=((tot+P.fs.length:Nat):Int):=by rw[wrap_i64 (by omega) (by omega)];simp
  simp(disch:=first|assumption|omega|(simp only[LN]<;>omega)|(simp(disch:=first|assumption|omega|(simp only[LN]<;>omega))only[row_alloc,row_set];assumption))only[W_block,P3,↓reduceIte,reduceAdd,reduceEqDiff,reduceCtorEq,initFr,reduceLT,clsA,reduceLeDiff,reduceMul,reduceSub,reduceIte,isv,lv,e0,e1,nn,ra,a_load1v,m3,isb,lb,hs,c2,hw,ht2]
  exact hn' _ _ _ ⟨i+1,tot+P.fs.length,_,_,rfl,rfl,by omega,by omega,rfl⟩ (by omega)
 ·have e1:¬(i:Int)<((l.length:Nat):Int):=by omega
  simp(disch:=first|assumption|omega|(simp only[LN]<;>omega)|(simp(disch:=first|assumption|omega|(simp only[LN]<;>omega))only[row_alloc,row_set];assumption))only[W_block,P3,↓reduceIte,reduceAdd,reduceEqDiff,reduceCtorEq,initFr,reduceLT,clsA,reduceLeDiff,reduceMul,reduceSub,reduceIte,isv,lv,e1]
  refine hx' 0 _ _ (show W Go.Proofs.Tryz.prog 0 _ Q _ _ from ?_)
  simp(disch:=first|assumption|omega|(simp only[LN]<;>omega)|(simp(disch:=first|assumption|omega|(simp only[LN]<;>omega))only[row_alloc,row_set];assumption))only[W_block,P3,↓reduceIte,reduceAdd,reduceEqDiff,reduceCtorEq,initFr,reduceLT,clsA,reduceLeDiff,reduceMul,reduceSub,reduceIte]
  exact hq2 _ _ ⟨_,rfl,⟨_,rfl,fun _=>by omega⟩,rfl⟩
end Go.AM.Fd

set_option linter.unusedSimpArgs false
set_option linter.unusedVariables false
set_option maxRecDepth 100000
namespace Go.AM.Fd
open Nat (reduceAdd reduceEqDiff reduceLT reduceLeDiff reduceMul reduceSub)
open Go.Proofs Go.AM.F
def x8(n:Nat):St:=⟨n,0,0,Z64,0⟩
theorem x8_rg{n:Nat}(h:n<100):rgSt (x8 n):=⟨rfl,by show n<_;omega,by show 0<_;omega,by show 0<_;omega,by show 0<_;omega⟩
def D1L:Dk:=(openL (newD 5)).1
def L1L:Lg:=⟨1,1,[],0⟩
def y8:Lo:=⟨1,9,x8 8⟩
theorem wkF1:(openL (newD 5)).2 =(some (L1L,none),0):=by kernel_rfl
def D2L:Dk:=(saveL D1L L1L none 0 (x8 8) 1 9).1
def L2L:Lg:=⟨1,1,[fLo y8],0⟩
theorem wkF2:saveL D1L L1L none 0 (x8 8) 1 9=(D2L,L2L,some y8,1,0):=by kernel_rfl
theorem wkF3:saveL D2L L2L (some y8) 1 (x8 8) 1 10=(D2L,L2L,some y8,1,0):=by kernel_rfl
theorem wkF4:saveL D2L L2L (some y8) 1 (x8 0) 0 11=(D2L,L2L,some y8,1,230):=by kernel_rfl
theorem wkF5:(openL D2L).2 =(some (L2L,some y8),0):=by kernel_rfl
theorem wkB1:D1L.st<100∧D1L.op.length<100:=by decide+kernel
theorem wkB2:D2L.st<100∧D2L.op.length<100:=by decide+kernel
theorem LkOpenR.got{A:List Th}{K H:AHeap}{b sb:Nat}{D:Dk}{L:Lg}{o:Option Lo}{n:Int}{w:Value}(h:LkOpenR A K H b sb (openL D) w)(e:(openL D).2 =(some (L,o),n)):∃s c lb v' ab' rv items,w=.tuple #[ptr s 0,.int .i64 0]∧LkS A K H s c lb b sb v' ab' rv items (openL D).1 L o 0:=by
 rcases h with⟨h1,_⟩|⟨L',o',s,c,lb,v',ab',rv,items,h1,h2,h3,h4⟩
 ·rw[e]at h1;cases h1
 ·rw[e]at h1;cases h1
  exact⟨s,c,lb,v',ab',rv,items,h3,h4⟩
theorem t52(K:AHeap):∃w K',ARun Go.Proofs.Tryz.prog 0 52 [] K w K'∧w=.bool true:=by
 refine walk2 f52_ok f52_n ?_
 intro Q hq1 hq2
 have lz:Z68N.length=68:=rfl
 have ozz:Z68N.all Value.oneCell'=true:=rfl
 simp(disch:=first|assumption|omega|(simp only[LN]<;>omega)|(simp(disch:=first|assumption|omega|(simp only[LN]<;>omega))only[row_alloc,row_set];assumption))only[f52,W_block,P3,↓reduceIte,reduceAdd,reduceEqDiff,reduceCtorEq,initFr,reduceLT,clsA,reduceLeDiff,reduceMul,reduceSub,reduceIte]
 refine callK (t11 K 5) ?_
 rintro _ K1 ⟨k1,b,sb,rfl,hd,hfd⟩
 simp(disch:=first|assumption|omega|(simp only[LN]<;>omega)|(simp(disch:=first|assumption|omega|(simp only[LN]<;>omega))only[row_alloc,row_set];assumption))only[W_block,P3,↓reduceIte,reduceAdd,reduceEqDiff,reduceCtorEq,initFr,reduceLT,clsA,reduceLeDiff,reduceMul,reduceSub,reduceIte]
 refine callK (t53 hd (by show 0<999999;omega) (by show 0<999999;omega)) ?_
 rintro _ K2 ho
 obtain⟨s,c,lb,v1,ab1,rv1,it1,rfl,s1⟩:=ho.got wkF1
 have hD1:(openL (newD 5)).1 =D1L:=rfl
 rw[hD1]at s1
 have f8:fillA Z68N [(0,1,.int .u64 8)]=some (cSt (x8 8)):=rfl
 have f9:fillA Z68N [(0,1,.int .u64 9)]=some (cSt (x8 9)):=rfl
 have f0:fillA Z68N []=some (cSt (x8 0)):=rfl
 have b1:=wkB1
 have b2:=wkB2
 simp(disch:=first|assumption|omega|(simp only[LN]<;>omega)|(simp(disch:=first|assumption|omega|(simp only[LN]<;>omega))only[row_alloc,row_set];assumption))only[W_block,P3,↓reduceIte,reduceAdd,reduceEqDiff,reduceCtorEq,initFr,reduceLT,clsA,reduceLeDiff,reduceMul,reduceSub,reduceIte,f8]
 refine callK (s1.save (by omega) (by omega) (by decide) (by decide) (by omega) (x8_rg (n:=8) (by omega)) 1 9) ?_
 rintro _ K3 ⟨rfl,v2,ab2,rv2,it2,s2⟩
 rw[wkF2]at s2 ⊢
 replace s2:LkS _ K1 K3 s c lb b sb v2 ab2 rv2 it2 D2L L2L (some y8) 1:=s2
 simp(disch:=first|assumption|omega|(simp only[LN]<;>omega)|(simp(disch:=first|assumption|omega|(simp only[LN]<;>omega))only[row_alloc,row_set];assumption))only[W_block,P3,↓reduceIte,reduceAdd,reduceEqDiff,reduceCtorEq,initFr,reduceLT,clsA,reduceLeDiff,reduceMul,reduceSub,reduceIte,f8]
 refine callK (s2.save (by omega) (by omega) (by decide) (by decide) (by omega) (x8_rg (n:=8) (by omega)) 1 10) ?_
 rintro _ K4 ⟨rfl,v3,ab3,rv3,it3,s3⟩
 rw[wkF3]at s3 ⊢
 replace s3:LkS _ K1 K4 s c lb b sb v3 ab3 rv3 it3 D2L L2L (some y8) 1:=s3
 simp(disch:=first|assumption|omega|(simp only[LN]<;>omega)|(simp(disch:=first|assumption|omega|(simp only[LN]<;>omega))only[row_alloc,row_set];assumption))only[W_block,P3,↓reduceIte,reduceAdd,reduceEqDiff,reduceCtorEq,initFr,reduceLT,clsA,reduceLeDiff,reduceMul,reduceSub,reduceIte,f0]
 refine callK (s3.save (by omega) (by omega) (by decide) (by decide) (by omega) (x8_rg (n:=0) (by omega)) 0 11) ?_
 rintro _ K5 ⟨rfl,v4,ab4,rv4,it4,s4⟩
 rw[wkF4]at s4 ⊢
 replace s4:LkS _ K1 K5 s c lb b sb v4 ab4 rv4 it4 D2L L2L (some y8) 1:=s4
 simp(disch:=first|assumption|omega|(simp only[LN]<;>omega)|(simp(disch:=first|assumption|omega|(simp only[LN]<;>omega))only[row_alloc,row_set];assumption))only[W_block,P3,↓reduceIte,reduceAdd,reduceEqDiff,reduceCtorEq,initFr,reduceLT,clsA,reduceLeDiff,reduceMul,reduceSub,reduceIte]
 refine callK (t53 s4.ck.lg.d (by omega) (by omega)) ?_
 rintro _ K6 ho
 obtain⟨t,c5,lb5,v5,ab5,rv5,it5,rfl,s5⟩:=ho.got wkF5
 have g6:K6.get s=some (lsC c (some y8) 1):=s5.u.chg.at_ s4.gs (fun hz=>s4.sf (by
  simp only[fp,List.flatMap_cons,List.flatMap_append,List.mem_append]at hz ⊢
  exact .inr (.inr hz)))
 have hy:OkL (some y8):=s5.r
 simp(disch:=first|assumption|omega|(simp only[LN]<;>omega)|(simp(disch:=first|assumption|omega|(simp only[LN]<;>omega))only[row_alloc,row_set];assumption))only[W_block,P3,↓reduceIte,reduceAdd,reduceEqDiff,reduceCtorEq,initFr,reduceLT,clsA,reduceLeDiff,reduceMul,reduceSub,reduceIte]
 refine callK (t60 s5.gs hy) ?_
 rintro _ K7 ⟨rfl,k7⟩
 have oy:=cSt_one (Option.getD (some y8) Lo0).s
 have l8:(cSt (Option.getD (some y8) Lo0).s).length=68:=rfl
 have c0:(cSt (Option.getD (some y8) Lo0).s)[0]? =some (.int .u64 8):=rfl
 have i1:(some y8).isSome=true:=rfl
 have i2:(Option.getD (some y8) Lo0).e=1:=rfl
 have i3:(Option.getD (some y8) Lo0).c=9:=rfl
 rw[i1,i2,i3]
 simp(disch:=first|assumption|omega|(simp only[LN]<;>omega)|(simp(disch:=first|assumption|omega|(simp only[LN]<;>omega))only[row_alloc,row_set];assumption))only[W_block,P3,↓reduceIte,reduceAdd,reduceEqDiff,reduceCtorEq,initFr,reduceLT,clsA,reduceLeDiff,reduceMul,reduceSub,reduceIte,ozz,oy]
 have k8:Keeps K7 (K7.alloc (.cells true false 68 (cSt (Option.getD (some y8) Lo0).s) 89)):=(Keeps.refl K7).alloc _
 refine callK (t62 ((k7.trans k8).at_ g6)) ?_
 rintro _ X ⟨rfl,hX⟩
 rw[hX]
 simp(disch:=first|assumption|omega|(simp only[LN]<;>omega)|(simp(disch:=first|assumption|omega|(simp only[LN]<;>omega))only[row_alloc,row_set];assumption))only[W_block,P3,↓reduceIte,reduceAdd,reduceEqDiff,reduceCtorEq,initFr,reduceLT,clsA,reduceLeDiff,reduceMul,reduceSub,reduceIte,c0,l8,f8]
 refine callK (t61 ((k7.trans k8).at_ s5.gs) hy (x8 8) (x8_rg (by omega))) ?_
 rintro _ K9 ⟨rfl,k9⟩
 have n1:notB (x8 8).a (Option.getD (some y8) Lo0).s.a=.bool true:=by kernel_rfl
 have n2:notB (x8 9).a (Option.getD (some y8) Lo0).s.a=.bool false:=by kernel_rfl
 rw[n1]
 simp(disch:=first|assumption|omega|(simp only[LN]<;>omega)|(simp(disch:=first|assumption|omega|(simp only[LN]<;>omega))only[row_alloc,row_set];assumption))only[W_block,P3,↓reduceIte,reduceAdd,reduceEqDiff,reduceCtorEq,initFr,reduceLT,clsA,reduceLeDiff,reduceMul,reduceSub,reduceIte,f9]
 refine callK (t61 (k9.at_ ((k7.trans k8).at_ s5.gs)) hy (x8 9) (x8_rg (by omega))) ?_
 rintro _ K10 ⟨rfl,k10⟩
 rw[n2]
 simp(disch:=first|assumption|omega|(simp only[LN]<;>omega)|(simp(disch:=first|assumption|omega|(simp only[LN]<;>omega))only[row_alloc,row_set];assumption))only[W_block,P3,↓reduceIte,reduceAdd,reduceEqDiff,reduceCtorEq,initFr,reduceLT,clsA,reduceLeDiff,reduceMul,reduceSub,reduceIte]
 exact hq2 _ _ ⟨_,rfl,rfl⟩
end Go.AM.Fd

set_option linter.unusedSimpArgs false
set_option linter.unusedVariables false
namespace Go.AM.Fd
open Go.Proofs Go.AM.F
structure T4 (H K:AHeap) (s c lb b sb:Nat) (v:Value) (ab:Option Nat) (rv:Value) (items:List (Value×List UInt8)) (t d le e:Nat) (vb vo:Value) (inn:Int) (vl:Value) (D:Dk) (L:Lg) (o:Option Lo) (w:Nat):Prop where
 u:Upd [] ((thB s (lsC c o w)::cT c lb b sb v ab rv items D L)++(thB t (rsC d o w)::kT d le e vb vo inn vl D L)) H K
 ok:D.ok
 n3:3≤D.bl.length
 it:items.map (·.2)=L.rs
 lok:L.ok
 i:∀n,D.ar=some n→inn=(n:Nat)
 r:OkL o
 hw:w≤1000000
section
variable {H K:AHeap} {s c lb b sb t d le e:Nat} {v rv vb vo vl:Value} {ab:Option Nat} {items:List (Value×List UInt8)} {inn:Int} {D:Dk} {L:Lg} {o:Option Lo} {w:Nat}
theorem T4.lk(h:T4 H K s c lb b sb v ab rv items t d le e vb vo inn vl D L o w):LkS (thB s (lsC c o w)::cT c lb b sb v ab rv items D L) K K s c lb b sb v ab rv items D L o w:=⟨Upd.refl h.u.sep.left,h.ok,h.n3,h.it,h.lok,h.r,h.hw⟩
theorem T4.mk_{K1:AHeap}{A:List Th}(h:T4 H K s c lb b sb v ab rv items t d le e vb vo inn vl D L o w)(sp:Sep K1 (A++(thB t (rsC d o w)::kT d le e vb vo inn vl D L))):MkS (thB t (rsC d o w)::kT d le e vb vo inn vl D L) K1 K1 t d le e vb vo inn vl D L o w:=⟨Upd.refl sp.right,h.ok,h.i,h.n3,h.lok,h.r,h.hw⟩
theorem T4.keeps{K':AHeap}(h:T4 H K s c lb b sb v ab rv items t d le e vb vo inn vl D L o w)(k:Keeps K K'):T4 H K' s c lb b sb v ab rv items t d le e vb vo inn vl D L o w:=⟨h.u.keeps' k,h.ok,h.n3,h.it,h.lok,h.i,h.r,h.hw⟩
theorem T4.far(h:T4 H K s c lb b sb v ab rv items t d le e vb vo inn vl D L o w){z:Nat}(hz:z∈fp ((thB s (lsC c o w)::cT c lb b sb v ab rv items D L)++(thB t (rsC d o w)::kT d le e vb vo inn vl D L))):H.n≤z∧z<K.n:=by
 refine⟨?_,h.u.sep.lt hz⟩
 rcases h.u.fr z hz with h1|h1
 ·cases h1
 ·exact h1
theorem T4.d2(h:T4 H K s c lb b sb v ab rv items t d le e vb vo inn vl D L o w):D2 H K b sb v ab e vb vo inn D:=by
 have p:((thB s (lsC c o w)::cT c lb b sb v ab rv items D L)++(thB t (rsC d o w)::kT d le e vb vo inn vl D L)).Perm ((thB s (lsC c o w)::thB c (ckC lb)::(lgT lb b rv items L++(thB t (rsC d o w)::thB d (rkC le)::rlT le e vl L)))++(dkT b sb v ab D++ekT e vb vo inn D)):=by
  have:=perm22 (thB s (lsC c o w)::thB c (ckC lb)::lgT lb b rv items L) (dkT b sb v ab D) (thB t (rsC d o w)::thB d (rkC le)::rlT le e vl L) (ekT e vb vo inn D)
  simpa using this
 exact⟨(h.u.permR p).dropL,h.ok,h.i⟩
def S4(H K:AHeap)(b sb e:Nat)(vb:Value)(D:Dk)(lo:Option (Lg×Option Lo))(w:Nat)(p5 p7:Value)(er:Int):Prop:=match lo with
 |none=>er≠0∧p5=.pointer none∧p7=.pointer none∧∃v ab vo inn,D2 H K b sb v ab e vb vo inn D
 |some (L,o)=>er=0∧∃s c lb t d le v ab rv items vo inn vl,p5=ptr s 0∧p7=ptr t 0∧T4 H K s c lb b sb v ab rv items t d le e vb vo inn vl D L o w
theorem S4.d2{lo:Option (Lg×Option Lo)}{p5 p7:Value}{er:Int}(h:S4 H K b sb e vb D lo w p5 p7 er):∃v ab vo inn,D2 H K b sb v ab e vb vo inn D:=by
 match lo,h with
 |none,h=>exact h.2.2.2
 |some (L,o),h=>
  obtain⟨_,s,c,lb,t,d,le,v,ab,rv,items,vo,inn,vl,_,_,t⟩:=h
  exact⟨v,ab,vo,inn,t.d2⟩
theorem S4.keeps{K':AHeap}{lo:Option (Lg×Option Lo)}{p5 p7:Value}{er:Int}(h:S4 H K b sb e vb D lo w p5 p7 er)(k:Keeps K K'):S4 H K' b sb e vb D lo w p5 p7 er:=by
 match lo,h with
 |none,h=>
  obtain⟨h1,h2,h3,v,ab,vo,inn,d⟩:=h
  exact⟨h1,h2,h3,v,ab,vo,inn,d.keeps k⟩
 |some (L,o),h=>
  obtain⟨h0,s,c,lb,t,d,le,v,ab,rv,items,vo,inn,vl,h1,h2,t⟩:=h
  exact⟨h0,s,c,lb,_,d,le,v,ab,rv,items,vo,inn,vl,h1,h2,t.keeps k⟩
theorem S4.open1(h:D2 H K b sb v ab e vb vo inn D){x:Value}{K1:AHeap}(ho:LkOpenR (dkT b sb v ab D) K K1 b sb (openL D) x):∃p,x=.tuple #[p,.int .i64 (openL D).2.2]∧EkR K1 e vb vo inn D∧Keeps H K1∧
 ∀{w2:Value} {K2:AHeap},MkOpenR (ekT e vb vo inn D) K1 K2 e vb (openL D) w2→∃p2,w2=.tuple #[p2,.int .i64 (openL D).2.2]∧S4 H K2 b sb e vb (openL D).1 (openL D).2.1 0 p p2 (openL D).2.2 :=by
 rcases ho with⟨hl,rfl,her,o1,v',ab',u1⟩|⟨L,o,s,c,lb,v',ab',rv,items,hl,her,rfl,l1⟩
 ·have U1:=h.u.trans (u1.ext h.u.sep)
  refine⟨_,rfl,⟨U1.sep.right,h.ok,h.i⟩,⟨U1.chg.n,fun y hy=>U1.chg.get y hy (by simp[fp])⟩,fun{w2 K2} h2=>?_⟩
  rcases h2 with⟨_,rfl,vo',inn',e2,u2⟩|⟨L,o,s,d,le,vo',inn',vl,hl2,_⟩
  ·rw[hl]
   exact⟨_,rfl,her,rfl,rfl,v',ab',vo',inn',U1.trans (u2.extR U1.sep),o1,e2.i⟩
  ·rw[hl]at hl2;cases hl2
 ·have U1:=h.u.trans (l1.u.ext h.u.sep)
  rw[her]
  refine⟨_,rfl,⟨U1.sep.right,h.ok,h.i⟩,⟨U1.chg.n,fun y hy=>U1.chg.get y hy (by simp[fp])⟩,fun{w2 K2} h2=>?_⟩
  rcases h2 with⟨hl2,_⟩|⟨L',o',t,d,le,vo',inn',vl,hl2,rfl,m2⟩
  ·rw[hl]at hl2;cases hl2
  ·rw[hl]at hl2;cases hl2
   rw[hl]
   exact⟨_,rfl,rfl,s,c,lb,t,d,le,v',ab',rv,items,vo',inn',vl,rfl,rfl,U1.trans (m2.u.extR U1.sep),l1.ok,l1.n3,l1.it,l1.lok,m2.i,l1.r,l1.hw⟩
structure Bnd5 (D:Dk) (lo:Option (Lg×Option Lo)) (w m:Nat):Prop where
 s:D.st≤4*m
 o:D.op.length≤4*m
 l:∀p,lo=some p→p.1.turn≤4611686018427387904+2*m∧p.1.next≤4611686018427392000+2*m
 w:w≤m
theorem openL_1(D:Dk):(openL D).1 =(openW D).1 ∧∀p,(openL D).2.1 =some p→(openW D).2.1 =some p.1:=by
 unfold openL
 cases hl:(openW D).2.1 with
 |none=>exact⟨rfl,fun p hp=>by simp at hp⟩
 |some L=>
  cases hp:pastW L 0 with
  |none=>simp only[hp];exact⟨trivial,fun p hq=>by simp only[Option.some.injEq]at hq;rw[←hq]⟩
  |some b=>
   cases hg:geLo b with
   |none=>simp only[hp,hg];exact⟨trivial,fun p hq=>by cases hq⟩
   |some x=>simp only[hp,hg];exact⟨trivial,fun p hq=>by simp only[Option.some.injEq]at hq;rw[←hq]⟩
theorem openL_b5{D:Dk}(h:D.ok){m:Nat}(hs:D.st≤4*m)(ho:D.op.length≤4*m)(hs2:D.st<999999)(ho2:D.op.length<999999):Bnd5 (openL D).1 (openL D).2.1 0 (m+1):=by
 obtain⟨s,o,l⟩:=openW_b4 h hs ho hs2 ho2
 obtain⟨e1,e2⟩:=openL_1 D
 rw[←e1]at s o
 exact⟨s,o,fun p hp=>l p.1 (e2 p hp),by omega⟩
theorem failD_b5{D:Dk}{lo:Option (Lg×Option Lo)}{w m:Nat}(h:Bnd5 D lo w m)(n:Int):Bnd5 (failD D n) lo w (m+1):=⟨by have:=h.s;show D.st≤_;omega,by have:=h.o;show D.op.length≤_;omega,fun p hp=>by have:=h.l p hp;omega,by have:=h.w;omega⟩
theorem Bnd5.up{D:Dk}{lo:Option (Lg×Option Lo)}{w m:Nat}(h:Bnd5 D lo w m):Bnd5 D lo w (m+1):=⟨by have:=h.s;omega,by have:=h.o;omega,fun p hp=>by have:=h.l p hp;omega,by have:=h.w;omega⟩
theorem Bnd5.b4{D:Dk}{L:Lg}{o:Option Lo}{w m:Nat}(h:Bnd5 D (some (L,o)) w m):Bnd4 D (some L) m:=⟨h.s,h.o,fun L' hL=>by cases hL;exact h.l (L,o) rfl⟩
theorem Bnd4.b5{D:Dk}{L:Lg}{o:Option Lo}{w m:Nat}(h:Bnd4 D (some L) m)(hw:w≤m):Bnd5 D (some (L,o)) w m:=⟨h.s,h.o,fun p hp=>by cases hp;exact h.l L rfl,hw⟩
theorem saveL_b5{D:Dk}{L:Lg}{o:Option Lo}{w m:Nat}(h:Bnd5 D (some (L,o)) w m)(x:St)(e c:Int):Bnd5 (saveL D L o w x e c).1 (some ((saveL D L o w x e c).2.1,(saveL D L o w x e c).2.2.1)) (saveL D L o w x e c).2.2.2.1 (m+1):=by
 have hw:=h.w
 have hb:=saveW_bl h.b4 (fLo ⟨e,c,x⟩)
 unfold saveL saveT
 split
 ·exact h.up
 ·split
  ·exact h.up
  ·split
   ·exact h.up
   ·split
    ·exact hb.b5 (by show w+1≤m+1;omega)
    ·exact hb.b5 (by show w≤m+1;omega)
end
end Go.AM.Fd
