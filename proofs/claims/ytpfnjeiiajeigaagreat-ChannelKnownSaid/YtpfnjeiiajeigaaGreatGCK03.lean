/- Part of the proof. -/
import Derived.Test.YtpfnjeiiajeigaaGreatGCK02
set_option maxRecDepth 100000
set_option maxHeartbeats 0
set_option linter.unusedSimpArgs false
set_option linter.unusedVariables false
namespace Go.AM.Fd
open Nat (reduceAdd reduceEqDiff reduceLT reduceLeDiff reduceMul reduceSub)
open Go.Proofs Go.AM.F
def WRr(H:Aaa)(e esz:Nat)(v:Value)(rows:List (List Value)):Prop:=WR H e esz v rows.length rows.flatten/\∀r∈rows,r.length=esz
theorem WRr.sl{H:Aaa}{e esz:Nat}{v:Value}{rows:List (List Value)}(h:WRr H e esz v rows):Sl H esz v rows:=h.1.sl h.2 rfl
theorem WRr.keeps{H K:Aaa}{e esz:Nat}{v:Value}{rows:List (List Value)}(h:WRr H e esz v rows)(k:Aac H K):WRr K e esz v rows:=⟨h.1.keeps k,h.2⟩
theorem WRr.pre{H:Aaa}{e esz:Nat}{v:Value}{rows:List (List Value)}(h:WRr H e esz v rows){kd:IntKind}{i:Nat}(hi:i<=rows.length):∃w,Aak (.slsl esz v none (some (.int kd (i:Nat))) none) H=some (w,H)/\Sl H esz w (rows.take i):=by
 have hr:∀r∈rows.take i,r.length=esz:=fun r hm=>h.2 r (List.mem_of_mem_take hm)
 rcases h.1 with⟨rfl,h1,h2⟩|⟨b,k,room,d,rfl,h1,h2,h3,h4⟩
 ·have:rows=[]:=List.eq_nil_of_length_eq_zero h1
  subst this
  have:i=0:=by simpa using hi
  subst this
  exact⟨_,Aeo ⟨0,0,0,Abl 0 0,Ac3 kd 0 0 0 (Nat.le_refl _),Abl 0 0⟩,Sl.nil _ _⟩
 ·refine⟨_,Alq h4 (Abl _ _) (Ac3 kd i rows.length k (by omega)) (Abl 0 i),⟨⟨_,_,by rw[List.length_take,Nat.min_eq_left hi,Nat.sub_zero];rfl⟩,hr,?_⟩⟩
  have hle:i*esz<=k*esz:=Nat.mul_le_mul_right _ (by omega)
  have hle2:i*esz<=rows.length*esz:=Nat.mul_le_mul_right _ hi
  simp only[Abf,slc,h4,Nat.zero_mul,Nat.add_zero,Nat.zero_add,Nat.sub_zero]
  rw[if_pos (by omega),List.drop_zero]
  congr 1
  have e:rows.flatten=(rows.take i).flatten++(rows.drop i).flatten:=by rw[<-List.flatten_append,List.take_append_drop]
  have hl:(rows.take i).flatten.length=i*esz:=by rw[Ab7 hr,List.length_take,Nat.min_eq_left hi]
  have e2:d.take (i*esz)=(d.take (rows.length*esz)).take (i*esz):=by rw[List.take_take,Nat.min_eq_left hle2]
  rw[e2,h3,e,<-hl,List.take_left]
theorem t103(H:Aaa)(n:Nat)(hn:n<=1000000):∃w H',Aaq Tryz.prog 0 103 [.slice none 0 0,.int .i64 (n:Nat)] H w H'/\WR H' 3 1 w 0 []/\Aac H H'/\Ads H.n w:=by
 refine Aam A94 ?_
 intro Q hq1 hq2
 have h0:¬((n:Nat):Int)<0:=by omega
 have hw0:IntKind.i64.wrap (0-((0:Nat):Int))=0:=rfl
 have hw:IntKind.i64.wrap ((n:Int)-0)=(n:Nat):=by rw[Aa5 (by omega) (by omega)];omega
 have hs:=Aeo (H:=H) (esz:=1) (lo:=none) (hi:=some (.int .i64 0)) (mx:=none) ⟨0,0,0,Abl 0 0,Ac3 .i64 0 0 0 (Nat.le_refl _),Abl 0 0⟩
 by_cases hz:n=0
 ·subst hz
  have h1:¬(0:Int)<((0:Nat):Int):=by omega
  simp(disch:=first|assumption|omega|(simp only[LN]<;>omega)|(simp(disch:=first|assumption|omega|(simp only[LN]<;>omega))only[Aab,Aad];assumption))only[A94,Aag,P3,↓reduceIte,reduceAdd,reduceEqDiff,reduceCtorEq,Aah,reduceLT,Aao,reduceLeDiff,reduceMul,reduceSub,reduceIte,Anv,Akm,hw0,hw,Anw,Ab9]
  exact hq2 _ _ ⟨.slice none 0 0,rfl,.inl ⟨rfl,rfl,rfl⟩,Aac.refl _,fun b hb=>by cases hb⟩
 ·have h1:(0:Int)<((n:Nat):Int):=by omega
  have hlen:(List.replicate n [Value.int .i64 0]).flatten.length=n*1:=by simp
  have ha:Aak (.appz 3 1 8 [Value.int .i64 0] (.slice none 0 0) (.int .i64 (n:Nat))) H=some (slc H.n 0 n n,H.alloc (.cells true true 1 (List.replicate n [Value.int .i64 0]).flatten 3)):=by
   simp only[Aak,Int.toNat_natCast,Ajd,if_neg hz]
   rw[if_pos (by omega)]
   simp only[and_self,if_true]
   rw[if_pos (by omega)]
  have hs2:=Alq (Aaa.Bfd H (.cells true true 1 (List.replicate n [Value.int .i64 0]).flatten 3)) (o:=0) (n:=n) (k:=n) (lo:=none) (hi:=some (.int .i64 (0:Nat))) (mx:=none) (Abl _ _) (Ac3 .i64 0 n n (by omega)) (Abl 0 0)
  simp only[slc]at ha hs2
  simp(disch:=first|assumption|omega|(simp only[LN]<;>omega)|(simp(disch:=first|assumption|omega|(simp only[LN]<;>omega))only[Aab,Aad];assumption))only[A94,Aag,P3,↓reduceIte,reduceAdd,reduceEqDiff,reduceCtorEq,Aah,reduceLT,Aao,reduceLeDiff,reduceMul,reduceSub,reduceIte,Anv,Akm,hw0,hw,Anw,Ab9,hs,ha,hs2]
  exact hq2 _ _ ⟨slc H.n 0 0 n,rfl,.inr ⟨H.n,n,true,_,rfl,Nat.zero_le _,hlen,by simp,Aaa.Bfd H _⟩,(Aac.refl H).alloc _,fun b hb=>by cases hb;exact Nat.le_refl _⟩
theorem t65{H:Aaa}{V:Value}{vs:List (Value×List (List Value))}(hV:Sl H 1 V (vs.map fun x=>[x.1]))(hx:∀x∈vs,Sl H 1 x.1 x.2)(hl:vs.length<=1000)(hT:(vs.map (·.2.length)).sum<=1000000):
 ∃w H',Aaq Tryz.prog 0 65 [V] H w H'/\WRr H' 3 1 w (vs.map (·.2)).flatten/\Aac H H'/\Ads H.n w:=by
 refine Aam f65 ?_
 intro Q hq1 hq2
 have iV:=Sl.is hV
 have lV:Ab9 V=vs.length:=by have:=Sl.len hV;simpa using this
 have el:∀{i:Nat} (hi:i<vs.length) {K:Aaa},Aac H K->nnS V=true/\Afs K 1 V i=some [vs[i].1]:=fun{i} hi {K} k=>by
  have:=Sl.at_ (hV.keeps k) (by omega) (i:=i) (by simpa using hi)
  simpa using this
 have tk:∀{i:Nat} (hi:i<vs.length),((vs.take (i+1)).map (·.2.length)).sum=((vs.take i).map (·.2.length)).sum+vs[i].2.length:=fun{i} hi=>by
  rw[List.take_succ_eq_append_getElem hi,List.map_append,List.sum_append];simp
 have tle:∀i,((vs.take i).map (·.2.length)).sum<=1000000:=fun i=>by
  have:vs=vs.take i++vs.drop i:=(List.take_append_drop i vs).symm
  rw[this,List.map_append,List.sum_append]at hT;omega
 simp(disch:=first|assumption|omega)only[f65,P3,seval,Aah,Aao,lV]
 rw[Aag]
 refine Aal (fun k fr K=>∃i x3 x9 x10,fr=[V,.slice none 0 0,.int .i64 (((vs.take i).map (·.2.length)).sum:Nat),x3,undef,undef,V,.int .i64 ((vs.length:Nat):Int),.int .i64 ((i:Nat):Int),x9,x10,undef,undef,undef,undef]/\K=H/\i<=vs.length/\k=vs.length-i) vs.length
  ⟨0,_,_,_,rfl,rfl,by omega,rfl⟩ ?_
 rintro Q' k fr K0 ⟨i,x3,x9,x10,rfl,rfl,hi,rfl⟩ hn hx1 hret
 by_cases hlt:i<vs.length
 ·obtain⟨na,ra⟩:=el hlt (Aac.refl _)
  have h0:(0:Int)<=(i:Int):=by omega
  have h1:(i:Int)<((vs.length:Nat):Int):=by omega
  have hw:=wrS (i:=i) (by omega)
  have lx:Ab9 vs[i].1 =vs[i].2.length:=Sl.len (hx _ (List.getElem_mem _))
  have ix:=Sl.is (hx _ (List.getElem_mem hlt))
  have hs:IntKind.i64.wrap ((((vs.take i).map (·.2.length)).sum:Nat)+(vs[i].2.length:Nat):Int)=((((vs.take (i+1)).map (·.2.length)).sum:Nat):Int):=by
   have:=tle (i+1);have:=tk hlt
   rw[Aa5 (by omega) (by omega)];omega
  have hneg:¬((((vs.take (i+1)).map (·.2.length)).sum:Nat):Int)<0:=by omega
  simp(disch:=first|assumption|omega)only[P4,seval,lV,ra,na,Aaj,hw,lx,hs]
  exact hn _ _ _ ⟨i+1,_,_,_,rfl,rfl,by omega,rfl⟩ (by omega)
 ·have h1:¬(i:Int)<((vs.length:Nat):Int):=by omega
  have:i=vs.length:=by omega
  subst this
  simp(disch:=first|assumption|omega)only[P4,seval,lV]
  refine hx1 0 _ _ ?_
  simp(disch:=first|assumption|omega)only[P3,seval,Aah,Aao]
  refine Aae (t103 _ _ (tle _)) ?_
  rintro w K ⟨wr,kk,fw⟩
  simp(disch:=first|assumption|omega)only[P3,seval,Aah,Aao,lV]
  rw[Aag]
  refine Aal (fun k fr M=>∃i w x3 x5 x9 x10 x14,fr=[V,.slice none 0 0,.int .i64 (((vs.take vs.length).map (·.2.length)).sum:Nat),x3,w,x5,V,.int .i64 ((vs.length:Nat):Int),.int .i64 ((vs.length:Nat):Int),x9,x10,V,.int .i64 ((vs.length:Nat):Int),.int .i64 ((i:Nat):Int),x14]∧
   WR M 3 1 w ((vs.take i).map (·.2.length)).sum ((vs.take i).map (·.2)).flatten.flatten/\Aac K0 M/\Ads K0.n w/\i<=vs.length/\k=vs.length-i) vs.length
   ⟨0,w,_,_,_,_,_,rfl,wr,kk,fw,by omega,rfl⟩ ?_
  clear wr kk fw w K
  rintro Q2 k fr M ⟨i,w,x3,x5,x9,x10,x14,rfl,wr,kk,fw,hi,rfl⟩ hn2 hx2 hret2
  by_cases hlt:i<vs.length
  ·obtain⟨na,ra⟩:=el hlt kk
   have h0:(0:Int)<=(i:Int):=by omega
   have h1:(i:Int)<((vs.length:Nat):Int):=by omega
   have hw:=wrS (i:=i) (by omega)
   have sx:=(hx _ (List.getElem_mem hlt)).keeps kk
   have iw:=wr.is
   have t1:=tk hlt
   have t2:=tle (i+1)
   simp(disch:=first|assumption|omega)only[P4,seval,lV,ra,na,Aaj]
   refine wr.appR (bytes:=8) sx.sh sx.el (Ab7 sx.row) (by omega) ?_
   intro w' M' wr' c' hb'
   simp(disch:=first|assumption|omega)only[P4,seval,hw]
   refine hn2 _ _ _ ⟨i+1,w',_,_,_,_,_,rfl,?_,kk.Bfh c' (fun x hx=>fw x (Abu.1 hx)),fun b hb=>?_,by omega,rfl⟩ (by omega)
   ·rw[t1]
    have e:((vs.take (i+1)).map (·.2)).flatten.flatten=((vs.take i).map (·.2)).flatten.flatten++vs[i].2.flatten:=by
     rw[List.take_succ_eq_append_getElem hlt,List.map_append,List.flatten_append,List.flatten_append];simp
    rw[e];exact wr'
   ·rcases hb' with e|e
    ·exact fw b (by rw[<-e];exact hb)
    ·rw[e]at hb;cases hb;exact kk.n
  ·have h1:¬(i:Int)<((vs.length:Nat):Int):=by omega
   have:i=vs.length:=by omega
   subst this
   simp(disch:=first|assumption|omega)only[P4,seval,lV]
   refine hx2 2 _ _ ?_
   simp(disch:=first|assumption|omega)only[P4,seval]
   refine hq2 _ _ ⟨_,rfl,?_,kk,fw⟩
   rw[List.take_length]at wr
   refine⟨?_,fun r hr=>?_⟩
   ·have e:(vs.map (·.2)).flatten.length=(vs.map (·.2.length)).sum:=by simp[List.length_flatten,List.map_map,Function.comp_def]
    rw[e];exact wr
   ·obtain⟨l,hl,hm⟩:=List.mem_flatten.1 hr
    obtain⟨x,hxm,rfl⟩:=List.mem_map.1 hl
    exact(hx x hxm).row r hm
theorem t104(H:Aaa)(n:Nat)(hn:n<=1000000):∃w H',Aaq Tryz.prog 0 104 [.slice none 0 0,.int .i64 (n:Nat)] H w H'/\WR H' 120 2 w 0 []/\Aac H H'/\Ads H.n w:=by
 refine Aam A95 ?_
 intro Q hq1 hq2
 have h0:¬((n:Nat):Int)<0:=by omega
 have hw0:IntKind.i64.wrap (0-((0:Nat):Int))=0:=rfl
 have hw:IntKind.i64.wrap ((n:Int)-0)=(n:Nat):=by rw[Aa5 (by omega) (by omega)];omega
 have hs:=Aeo (H:=H) (esz:=2) (lo:=none) (hi:=some (.int .i64 0)) (mx:=none) ⟨0,0,0,Abl 0 0,Ac3 .i64 0 0 0 (Nat.le_refl _),Abl 0 0⟩
 by_cases hz:n=0
 ·subst hz
  have h1:¬(0:Int)<((0:Nat):Int):=by omega
  simp(disch:=first|assumption|omega|(simp only[LN]<;>omega)|(simp(disch:=first|assumption|omega|(simp only[LN]<;>omega))only[Aab,Aad];assumption))only[A95,Aag,P3,↓reduceIte,reduceAdd,reduceEqDiff,reduceCtorEq,Aah,reduceLT,Aao,reduceLeDiff,reduceMul,reduceSub,reduceIte,Anv,Akm,hw0,hw,Anw,Ab9]
  exact hq2 _ _ ⟨.slice none 0 0,rfl,.inl ⟨rfl,rfl,rfl⟩,Aac.refl _,fun b hb=>by cases hb⟩
 ·have h1:(0:Int)<((n:Nat):Int):=by omega
  have hlen:(List.replicate n [Value.int .i64 0,Value.bool false]).flatten.length=n*2:=by simp
  have ha:Aak (.appz 120 2 16 [Value.int .i64 0,Value.bool false] (.slice none 0 0) (.int .i64 (n:Nat))) H=some (slc H.n 0 n n,H.alloc (.cells true true 2 (List.replicate n [Value.int .i64 0,Value.bool false]).flatten 120)):=by
   simp only[Aak,Int.toNat_natCast,Ajd,if_neg hz]
   rw[if_pos (by omega)]
   simp only[and_self,if_true]
   rw[if_pos (by omega)]
  have hs2:=Alq (Aaa.Bfd H (.cells true true 2 (List.replicate n [Value.int .i64 0,Value.bool false]).flatten 120)) (o:=0) (n:=n) (k:=n) (lo:=none) (hi:=some (.int .i64 (0:Nat))) (mx:=none) (Abl _ _) (Ac3 .i64 0 n n (by omega)) (Abl 0 0)
  simp only[slc]at ha hs2
  simp(disch:=first|assumption|omega|(simp only[LN]<;>omega)|(simp(disch:=first|assumption|omega|(simp only[LN]<;>omega))only[Aab,Aad];assumption))only[A95,Aag,P3,↓reduceIte,reduceAdd,reduceEqDiff,reduceCtorEq,Aah,reduceLT,Aao,reduceLeDiff,reduceMul,reduceSub,reduceIte,Anv,Akm,hw0,hw,Anw,Ab9,hs,ha,hs2]
  exact hq2 _ _ ⟨slc H.n 0 0 n,rfl,.inr ⟨H.n,n,true,_,rfl,Nat.zero_le _,hlen,by simp,Aaa.Bfd H _⟩,(Aac.refl H).alloc _,fun b hb=>by cases hb;exact Nat.le_refl _⟩
theorem t66{H:Aaa}{V:Value}{vs:List (Value×List (List Value))}(hV:Sl H 1 V (vs.map fun x=>[x.1]))(hx:∀x∈vs,Sl H 2 x.1 x.2)(hl:vs.length<=1000)(hT:(vs.map (·.2.length)).sum<=1000000):
 ∃w H',Aaq Tryz.prog 0 66 [V] H w H'/\WRr H' 120 2 w (vs.map (·.2)).flatten/\Aac H H'/\Ads H.n w:=by
 refine Aam f66 ?_
 intro Q hq1 hq2
 have iV:=Sl.is hV
 have lV:Ab9 V=vs.length:=by have:=Sl.len hV;simpa using this
 have el:∀{i:Nat} (hi:i<vs.length) {K:Aaa},Aac H K->nnS V=true/\Afs K 1 V i=some [vs[i].1]:=fun{i} hi {K} k=>by
  have:=Sl.at_ (hV.keeps k) (by omega) (i:=i) (by simpa using hi)
  simpa using this
 have tk:∀{i:Nat} (hi:i<vs.length),((vs.take (i+1)).map (·.2.length)).sum=((vs.take i).map (·.2.length)).sum+vs[i].2.length:=fun{i} hi=>by
  rw[List.take_succ_eq_append_getElem hi,List.map_append,List.sum_append];simp
 have tle:∀i,((vs.take i).map (·.2.length)).sum<=1000000:=fun i=>by
  have:vs=vs.take i++vs.drop i:=(List.take_append_drop i vs).symm
  rw[this,List.map_append,List.sum_append]at hT;omega
 simp(disch:=first|assumption|omega)only[f66,P3,seval,Aah,Aao,lV]
 rw[Aag]
 refine Aal (fun k fr K=>∃i x3 x9 x10,fr=[V,.slice none 0 0,.int .i64 (((vs.take i).map (·.2.length)).sum:Nat),x3,undef,undef,V,.int .i64 ((vs.length:Nat):Int),.int .i64 ((i:Nat):Int),x9,x10,undef,undef,undef,undef]/\K=H/\i<=vs.length/\k=vs.length-i) vs.length
  ⟨0,_,_,_,rfl,rfl,by omega,rfl⟩ ?_
 rintro Q' k fr K0 ⟨i,x3,x9,x10,rfl,rfl,hi,rfl⟩ hn hx1 hret
 by_cases hlt:i<vs.length
 ·obtain⟨na,ra⟩:=el hlt (Aac.refl _)
  have h0:(0:Int)<=(i:Int):=by omega
  have h1:(i:Int)<((vs.length:Nat):Int):=by omega
  have hw:=wrS (i:=i) (by omega)
  have lx:Ab9 vs[i].1 =vs[i].2.length:=Sl.len (hx _ (List.getElem_mem _))
  have ix:=Sl.is (hx _ (List.getElem_mem hlt))
  have hs:IntKind.i64.wrap ((((vs.take i).map (·.2.length)).sum:Nat)+(vs[i].2.length:Nat):Int)=((((vs.take (i+1)).map (·.2.length)).sum:Nat):Int):=by
   have:=tle (i+1);have:=tk hlt
   rw[Aa5 (by omega) (by omega)];omega
  have hneg:¬((((vs.take (i+1)).map (·.2.length)).sum:Nat):Int)<0:=by omega
  simp(disch:=first|assumption|omega)only[P4,seval,lV,ra,na,Aaj,hw,lx,hs]
  exact hn _ _ _ ⟨i+1,_,_,_,rfl,rfl,by omega,rfl⟩ (by omega)
 ·have h1:¬(i:Int)<((vs.length:Nat):Int):=by omega
  have:i=vs.length:=by omega
  subst this
  simp(disch:=first|assumption|omega)only[P4,seval,lV]
  refine hx1 0 _ _ ?_
  simp(disch:=first|assumption|omega)only[P3,seval,Aah,Aao]
  refine Aae (t104 _ _ (tle _)) ?_
  rintro w K ⟨wr,kk,fw⟩
  simp(disch:=first|assumption|omega)only[P3,seval,Aah,Aao,lV]
  rw[Aag]
  refine Aal (fun k fr M=>∃i w x3 x5 x9 x10 x14,fr=[V,.slice none 0 0,.int .i64 (((vs.take vs.length).map (·.2.length)).sum:Nat),x3,w,x5,V,.int .i64 ((vs.length:Nat):Int),.int .i64 ((vs.length:Nat):Int),x9,x10,V,.int .i64 ((vs.length:Nat):Int),.int .i64 ((i:Nat):Int),x14]∧
   WR M 120 2 w ((vs.take i).map (·.2.length)).sum ((vs.take i).map (·.2)).flatten.flatten/\Aac K0 M/\Ads K0.n w/\i<=vs.length/\k=vs.length-i) vs.length
   ⟨0,w,_,_,_,_,_,rfl,wr,kk,fw,by omega,rfl⟩ ?_
  clear wr kk fw w K
  rintro Q2 k fr M ⟨i,w,x3,x5,x9,x10,x14,rfl,wr,kk,fw,hi,rfl⟩ hn2 hx2 hret2
  by_cases hlt:i<vs.length
  ·obtain⟨na,ra⟩:=el hlt kk
   have h0:(0:Int)<=(i:Int):=by omega
   have h1:(i:Int)<((vs.length:Nat):Int):=by omega
   have hw:=wrS (i:=i) (by omega)
   have sx:=(hx _ (List.getElem_mem hlt)).keeps kk
   have iw:=wr.is
   have t1:=tk hlt
   have t2:=tle (i+1)
   simp(disch:=first|assumption|omega)only[P4,seval,lV,ra,na,Aaj]
   refine wr.appR (bytes:=16) sx.sh sx.el (Ab7 sx.row) (by omega) ?_
   intro w' M' wr' c' hb'
   simp(disch:=first|assumption|omega)only[P4,seval,hw]
   refine hn2 _ _ _ ⟨i+1,w',_,_,_,_,_,rfl,?_,kk.Bfh c' (fun x hx=>fw x (Abu.1 hx)),fun b hb=>?_,by omega,rfl⟩ (by omega)
   ·rw[t1]
    have e:((vs.take (i+1)).map (·.2)).flatten.flatten=((vs.take i).map (·.2)).flatten.flatten++vs[i].2.flatten:=by
     rw[List.take_succ_eq_append_getElem hlt,List.map_append,List.flatten_append,List.flatten_append];simp
    rw[e];exact wr'
   ·rcases hb' with e|e
    ·exact fw b (by rw[<-e];exact hb)
    ·rw[e]at hb;cases hb;exact kk.n
  ·have h1:¬(i:Int)<((vs.length:Nat):Int):=by omega
   have:i=vs.length:=by omega
   subst this
   simp(disch:=first|assumption|omega)only[P4,seval,lV]
   refine hx2 2 _ _ ?_
   simp(disch:=first|assumption|omega)only[P4,seval]
   refine hq2 _ _ ⟨_,rfl,?_,kk,fw⟩
   rw[List.take_length]at wr
   refine⟨?_,fun r hr=>?_⟩
   ·have e:(vs.map (·.2)).flatten.length=(vs.map (·.2.length)).sum:=by simp[List.length_flatten,List.map_map,Function.comp_def]
    rw[e];exact wr
   ·obtain⟨l,hl,hm⟩:=List.mem_flatten.1 hr
    obtain⟨x,hxm,rfl⟩:=List.mem_map.1 hl
    exact(hx x hxm).row r hm
theorem t124{H:Aaa}{v:Value}{l:List Int}(h:IL H v l)(hl:l.length<=1000000)(x:Int):
 ∃w H',Aaq Tryz.prog 0 124 [v,.int .i64 x] H w H'/\H'=H/\∃i:Int,w=.int .i64 i/\decide (0<=i)=l.contains x:=by
 refine Aam Bb3 ?_
 intro Q hq1 hq2
 have ia:=Sl.is h
 have la:=h.len
 simp(disch:=first|assumption|omega)only[Bb3,P3,seval,Aah,Aao,la]
 rw[Aag]
 refine Aal (fun k fr K=>∃i x3 x6 x7,fr=[v,.int .i64 x,.int .i64 0,x3,.int .i64 ((l.length:Nat):Int),.int .i64 ((i:Nat):Int),x6,x7]/\K=H/\i<=l.length/\(l.take i).contains x=false/\k=l.length-i) l.length
  ⟨0,_,_,_,rfl,rfl,by omega,by simp,rfl⟩ ?_
 rintro Q' k fr K ⟨i,x3,x6,x7,rfl,rfl,hi,hp,rfl⟩ hn hx hret
 by_cases hlt:i<l.length
 ·obtain⟨na,ra⟩:=h.at_ hlt
  have h0:(0:Int)<=(i:Int):=by omega
  have h1:(i:Int)<((Ab9 v:Nat):Int):=by omega
  have h3:(i:Int)<((l.length:Nat):Int):=by omega
  have hw:=wrS (i:=i) (by omega)
  have e1:l.getD i 0=l[i]:=by simp[List.getD,List.getElem?_eq_getElem hlt]
  have tk:x≠l[i]->(l.take (i+1)).contains x=false:=fun e=>by
   rw[List.take_succ_eq_append_getElem hlt]
   simp only[List.contains_eq_any_beq,List.any_append]at hp ⊢
   rw[hp];simpa using e
  have an:x=l[i]->l.contains x=true:=fun e=>by rw[e];simp
  rw[e1]at ra
  generalize l[i]=y at*
  by_cases hxy:x=y
  ·have e2:(x==y)=true:=by simpa using hxy
   simp(disch:=first|assumption|omega)only[P4,seval,la,ra,na,Aaj,e2]
   exact hret _ _ (hq2 _ _ ⟨_,rfl,rfl,(i:Int),rfl,by rw[an hxy];simp⟩)
  ·have e2:(x==y)=false:=by simpa using hxy
   simp(disch:=first|assumption|omega)only[P4,seval,la,ra,na,Aaj,e2,hw]
   exact hn _ _ _ ⟨i+1,_,_,_,rfl,rfl,by omega,tk hxy,rfl⟩ (by omega)
 ·have h3:¬(i:Int)<((l.length:Nat):Int):=by omega
  simp(disch:=first|assumption|omega)only[P4,seval,la]
  refine hx 0 _ _ ?_
  simp(disch:=first|assumption|omega)only[P4,seval]
  refine hq2 _ _ ⟨_,rfl,rfl,-1,rfl,?_⟩
  rw[List.take_of_length_le (by omega)]at hp
  rw[hp];rfl
theorem t99{H:Aaa}{v:Value}{l:List Int}(h:IL H v l)(hl:l.length<=1000000)(x:Int):
 ∃w H',Aaq Tryz.prog 0 99 [v,.int .i64 x] H w H'/\w=.bool (l.contains x)/\H'=H:=by
 refine Aam f99 ?_
 intro Q hq1 hq2
 simp(disch:=first|assumption|omega)only[f99,P3,seval,Aah,Aao]
 refine Aae (t124 h hl x) ?_
 rintro _ _ ⟨rfl,i,rfl,hi⟩
 simp(disch:=first|assumption|omega)only[P4,seval]
 exact hq2 _ _ ⟨_,rfl,by rw[<-hi];rfl,rfl⟩
theorem t75{H:Aaa}{v:Value}{l:List Int}(h:IL H v l)(hl:l.length<=1000000){g:FuncId}{fi ca:Array Value}{p:Int->Bool}
 (hF:∀x∈l,∃w K',Aaq Tryz.prog 0 g (fi.toList++[Value.int .i64 x]++ca.toList) H w K'/\w=.bool (p x)/\K'=H):
 ∃w H',Aaq Tryz.prog 0 75 [v,.func (.func g) fi ca] H w H'/\H'=H/\∃i:Int,w=.int .i64 i/\decide (0<=i)=l.any p:=by
 refine Aam f75 ?_
 intro Q hq1 hq2
 have ia:=Sl.is h
 have la:=h.len
 simp(disch:=first|assumption|omega)only[f75,P3,seval,Aah,Aao,la]
 rw[Aag]
 refine Aal (fun k fr K=>∃i x3 x6 x7,fr=[v,.func (.func g) fi ca,.int .i64 0,x3,.int .i64 ((l.length:Nat):Int),.int .i64 ((i:Nat):Int),x6,x7]/\K=H/\i<=l.length/\(l.take i).any p=false/\k=l.length-i) l.length
  ⟨0,_,_,_,rfl,rfl,by omega,by simp,rfl⟩ ?_
 rintro Q' k fr K ⟨i,x3,x6,x7,rfl,rfl,hi,hp,rfl⟩ hn hx hret
 by_cases hlt:i<l.length
 ·obtain⟨na,ra⟩:=h.at_ hlt
  have h0:(0:Int)<=(i:Int):=by omega
  have h1:(i:Int)<((Ab9 v:Nat):Int):=by omega
  have h3:(i:Int)<((l.length:Nat):Int):=by omega
  have hw:=wrS (i:=i) (by omega)
  have e1:l.getD i 0=l[i]:=by simp[List.getD,List.getElem?_eq_getElem hlt]
  have hf:=hF _ (List.getElem_mem hlt)
  have tk:(l.take (i+1)).any p=p l[i]:=by rw[List.take_succ_eq_append_getElem hlt,List.any_append,hp];simp
  have an:p l[i]=true->l.any p=true:=fun e=>List.any_eq_true.2 ⟨_,List.getElem_mem hlt,e⟩
  rw[e1]at ra
  generalize l[i]=x at*
  simp(disch:=first|assumption|omega)only[P4,seval,la,ra,na,Aaj,Agn,Ac4,ia]
  refine Aae hf ?_
  rintro _ _ ⟨rfl,rfl⟩
  cases hpx:p x with
  |true=>
   simp(disch:=first|assumption|omega)only[P4,seval]
   exact hret _ _ (hq2 _ _ ⟨_,rfl,rfl,(i:Int),rfl,by rw[an hpx];simp⟩)
  |false=>
   simp(disch:=first|assumption|omega)only[P4,seval,hw]
   exact hn _ _ _ ⟨i+1,_,_,_,rfl,rfl,by omega,by rw[tk,hpx],rfl⟩ (by omega)
 ·have h3:¬(i:Int)<((l.length:Nat):Int):=by omega
  simp(disch:=first|assumption|omega)only[P4,seval,la]
  refine hx 0 _ _ ?_
  simp(disch:=first|assumption|omega)only[P4,seval]
  refine hq2 _ _ ⟨_,rfl,rfl,-1,rfl,?_⟩
  rw[List.take_of_length_le (by omega)]at hp
  rw[hp];rfl
theorem t43{H:Aaa}{v:Value}{l:List Int}(h:IL H v l)(hl:l.length<=1000000){g:FuncId}{fi ca:Array Value}{p:Int->Bool}
 (hF:∀x∈l,∃w K',Aaq Tryz.prog 0 g (fi.toList++[Value.int .i64 x]++ca.toList) H w K'/\w=.bool (p x)/\K'=H):
 ∃w H',Aaq Tryz.prog 0 43 [v,.func (.func g) fi ca] H w H'/\w=.bool (l.any p)/\H'=H:=by
 refine Aam f43 ?_
 intro Q hq1 hq2
 simp(disch:=first|assumption|omega)only[f43,P3,seval,Aah,Aao]
 refine Aae (t75 h hl hF) ?_
 rintro _ _ ⟨rfl,i,rfl,hi⟩
 simp(disch:=first|assumption|omega)only[P4,seval]
 exact hq2 _ _ ⟨_,rfl,by rw[<-hi];rfl,rfl⟩
theorem t76{H:Aaa}{v:Value}{l:List (Int×Bool)}(h:NL H v l)(hl:l.length<=1000000){g:FuncId}{fi ca:Array Value}{p:(Int×Bool)->Bool}
 (hF:∀x∈l,∃w K',Aaq Tryz.prog 0 g (fi.toList++[Value.agg (Aft x).toArray]++ca.toList) H w K'/\w=.bool (p x)/\K'=H):
 ∃w H',Aaq Tryz.prog 0 76 [v,.func (.func g) fi ca] H w H'/\H'=H/\∃i:Int,w=.int .i64 i/\decide (0<=i)=l.any p:=by
 refine Aam f76 ?_
 intro Q hq1 hq2
 have ia:=Sl.is h
 have la:=h.len
 simp(disch:=first|assumption|omega)only[f76,P3,seval,Aah,Aao,la]
 rw[Aag]
 refine Aal (fun k fr K=>∃i x3 x6 x7,fr=[v,.func (.func g) fi ca,.int .i64 0,x3,.int .i64 ((l.length:Nat):Int),.int .i64 ((i:Nat):Int),x6,x7]/\K=H/\i<=l.length/\(l.take i).any p=false/\k=l.length-i) l.length
  ⟨0,_,_,_,rfl,rfl,by omega,by simp,rfl⟩ ?_
 rintro Q' k fr K ⟨i,x3,x6,x7,rfl,rfl,hi,hp,rfl⟩ hn hx hret
 by_cases hlt:i<l.length
 ·obtain⟨na,ra⟩:=h.at_ hlt
  have h0:(0:Int)<=(i:Int):=by omega
  have h1:(i:Int)<((Ab9 v:Nat):Int):=by omega
  have h3:(i:Int)<((l.length:Nat):Int):=by omega
  have hw:=wrS (i:=i) (by omega)
  have e1:l.getD i (0,false)=l[i]:=by simp[List.getD,List.getElem?_eq_getElem hlt]
  have hf:=hF _ (List.getElem_mem hlt)
  have tk:(l.take (i+1)).any p=p l[i]:=by rw[List.take_succ_eq_append_getElem hlt,List.any_append,hp];simp
  have an:p l[i]=true->l.any p=true:=fun e=>List.any_eq_true.2 ⟨_,List.getElem_mem hlt,e⟩
  rw[e1]at ra
  generalize l[i]=x at*
  simp(disch:=first|assumption|omega)only[P4,seval,la,ra,na,Aaj,Agn,Ac4,Aft]
  refine Aae hf ?_
  rintro _ _ ⟨rfl,rfl⟩
  cases hpx:p x with
  |true=>
   simp(disch:=first|assumption|omega)only[P4,seval]
   exact hret _ _ (hq2 _ _ ⟨_,rfl,rfl,(i:Int),rfl,by rw[an hpx];simp⟩)
  |false=>
   simp(disch:=first|assumption|omega)only[P4,seval,hw]
   exact hn _ _ _ ⟨i+1,_,_,_,rfl,rfl,by omega,by rw[tk,hpx],rfl⟩ (by omega)
 ·have h3:¬(i:Int)<((l.length:Nat):Int):=by omega
  simp(disch:=first|assumption|omega)only[P4,seval,la]
  refine hx 0 _ _ ?_
  simp(disch:=first|assumption|omega)only[P4,seval]
  refine hq2 _ _ ⟨_,rfl,rfl,-1,rfl,?_⟩
  rw[List.take_of_length_le (by omega)]at hp
  rw[hp];rfl
theorem t45{H:Aaa}{v:Value}{l:List (Int×Bool)}(h:NL H v l)(hl:l.length<=1000000){g:FuncId}{fi ca:Array Value}{p:(Int×Bool)->Bool}
 (hF:∀x∈l,∃w K',Aaq Tryz.prog 0 g (fi.toList++[Value.agg (Aft x).toArray]++ca.toList) H w K'/\w=.bool (p x)/\K'=H):
 ∃w H',Aaq Tryz.prog 0 45 [v,.func (.func g) fi ca] H w H'/\w=.bool (l.any p)/\H'=H:=by
 refine Aam f45 ?_
 intro Q hq1 hq2
 simp(disch:=first|assumption|omega)only[f45,P3,seval,Aah,Aao]
 refine Aae (t76 h hl hF) ?_
 rintro _ _ ⟨rfl,i,rfl,hi⟩
 simp(disch:=first|assumption|omega)only[P4,seval]
 exact hq2 _ _ ⟨_,rfl,by rw[<-hi];rfl,rfl⟩
theorem t62{H:Aaa}{v:Value}{l:List RV}(h:RL H v l)(hl:l.length<=1000000){g:FuncId}{fi ca:Array Value}{p:RV->Bool}
 (hF:∀x∈l,∃w K',Aaq Tryz.prog 0 g (fi.toList++[Value.agg x.row.toArray]++ca.toList) H w K'/\w=.bool (p x)/\K'=H):
 ∃w H',Aaq Tryz.prog 0 62 [v,.func (.func g) fi ca] H w H'/\H'=H/\∃i:Int,w=.int .i64 i/\decide (0<=i)=l.any p:=by
 refine Aam f62 ?_
 intro Q hq1 hq2
 have ia:=Sl.is h
 have la:=h.len
 simp(disch:=first|assumption|omega)only[f62,P3,seval,Aah,Aao,la]
 rw[Aag]
 refine Aal (fun k fr K=>∃i x3 x6 x7,fr=[v,.func (.func g) fi ca,.int .i64 0,x3,.int .i64 ((l.length:Nat):Int),.int .i64 ((i:Nat):Int),x6,x7]/\K=H/\i<=l.length/\(l.take i).any p=false/\k=l.length-i) l.length
  ⟨0,_,_,_,rfl,rfl,by omega,by simp,rfl⟩ ?_
 rintro Q' k fr K ⟨i,x3,x6,x7,rfl,rfl,hi,hp,rfl⟩ hn hx hret
 by_cases hlt:i<l.length
 ·obtain⟨na,ra⟩:=h.at_ hlt
  have h0:(0:Int)<=(i:Int):=by omega
  have h1:(i:Int)<((Ab9 v:Nat):Int):=by omega
  have h3:(i:Int)<((l.length:Nat):Int):=by omega
  have hw:=wrS (i:=i) (by omega)
  have e1:l.getD i rv0=l[i]:=by simp[List.getD,List.getElem?_eq_getElem hlt]
  have hf:=hF _ (List.getElem_mem hlt)
  have tk:(l.take (i+1)).any p=p l[i]:=by rw[List.take_succ_eq_append_getElem hlt,List.any_append,hp];simp
  have an:p l[i]=true->l.any p=true:=fun e=>List.any_eq_true.2 ⟨_,List.getElem_mem hlt,e⟩
  rw[e1]at ra
  generalize l[i]=x at*
  simp(disch:=first|assumption|omega)only[P4,seval,la,ra,na,Aaj,Agn,Ac4,RV.row]
  refine Aae hf ?_
  rintro _ _ ⟨rfl,rfl⟩
  cases hpx:p x with
  |true=>
   simp(disch:=first|assumption|omega)only[P4,seval]
   exact hret _ _ (hq2 _ _ ⟨_,rfl,rfl,(i:Int),rfl,by rw[an hpx];simp⟩)
  |false=>
   simp(disch:=first|assumption|omega)only[P4,seval,hw]
   exact hn _ _ _ ⟨i+1,_,_,_,rfl,rfl,by omega,by rw[tk,hpx],rfl⟩ (by omega)
 ·have h3:¬(i:Int)<((l.length:Nat):Int):=by omega
  simp(disch:=first|assumption|omega)only[P4,seval,la]
  refine hx 0 _ _ ?_
  simp(disch:=first|assumption|omega)only[P4,seval]
  refine hq2 _ _ ⟨_,rfl,rfl,-1,rfl,?_⟩
  rw[List.take_of_length_le (by omega)]at hp
  rw[hp];rfl
theorem fnc(f:Fn)(a b:Array Value):(Value.func f a b).cells.toList=[.func f a b]:=rfl
theorem fna(f:Fn)(a b:Array Value):(Value.func f a b).oneCell'=true:=rfl
def trk(r:Ro):List Int:=r.path++r.ov
def nds(r:Ro):List (Int×Bool):=r.pts++r.fl
theorem Aj1{α:Type}[BEq α][LawfulBEq α]{l:List α}{i:Nat}(h:i<l.length)(hn:(l.take i).Nodup)(hc:(l.take i).contains l[i]=false):(l.take (i+1)).Nodup:=by
 rw[List.take_succ_eq_append_getElem h,List.nodup_append]
 refine⟨hn,by simp,fun a ha b hb=>?_⟩
 simp only[List.mem_singleton]at hb
 subst hb
 rintro rfl
 simp at hc
 exact hc ha
theorem t98(H:Aaa)(n:Int):∃w H',Aaq Tryz.prog 0 98 [.int .i64 n] H w H'/\w=.int .i64 n/\H'=H:=by
 refine Aam f98 ?_
 intro Q hq1 hq2
 simp(disch:=first|assumption|omega)only[f98,P4,seval]
 exact hq2 _ _ ⟨_,rfl,rfl,rfl⟩
theorem Beu(H:Aaa)(x:Int×Bool):∃w H',Aaq Tryz.prog 0 101 [.agg (Aft x).toArray] H w H'/\w=.int .i64 x.1/\H'=H:=by
 suffices h':∃w H',Aaq Tryz.prog 0 101 [.agg (Aft x).toArray] H w H'/\w=.int .i64 x.1/\Aac H H' by
  obtain⟨_,_,a,rfl,k⟩:=h'
  exact⟨_,_,a.gc0 k (.inr (.int _ _)),rfl,rfl⟩
 refine Aam Bbz ?_
 intro Q hq1 hq2
 have o1:one1 (Value.int .i64 x.1)=True:=by simp[one1,Aav]
 simp(disch:=first|assumption|omega)only[Bbz,P4,seval,Aft,o1]
 exact hq2 _ _ ⟨_,rfl,rfl,(Aac.refl H).alloc _⟩
theorem t123{H:Aaa}{a b:Nat}{oa ob ra rb:Bool}{ta tb:Nat}{x:Int}(ga:H.get a=some (.cells oa ra 1 [.func (.func 98) #[] #[]] ta))(gb:H.get b=some (.cells ob rb 1 [.int .i64 x] tb))(y:Int):
 ∃w H',Aaq Tryz.prog 0 123 [.int .i64 y,ptr a 0,ptr b 0] H w H'/\w=.bool (x==y)/\H'=H:=by
 refine Aam Bb2 ?_
 intro Q hq1 hq2
 simp(disch:=first|assumption|omega)only[Bb2,P4,seval,ga,gb,Afi]
 refine Aae (t98 H x) ?_
 rintro _ _ ⟨rfl,rfl⟩
 simp(disch:=first|assumption|omega)only[P4,seval,ga,gb,Afi]
 refine⟨Aaa.Bfg ga,Aae (t98 _ y) ?_⟩
 rintro _ _ ⟨rfl,rfl⟩
 simp(disch:=first|assumption|omega)only[P4,seval]
 exact hq2 _ _ ⟨_,rfl,rfl,rfl⟩
theorem t125{H:Aaa}{a b:Nat}{oa ob ra rb:Bool}{ta tb:Nat}{x:Int×Bool}(ga:H.get a=some (.cells oa ra 1 [.func (.func 101) #[] #[]] ta))(gb:H.get b=some (.cells ob rb 2 (Aft x) tb))(y:Int×Bool):
 ∃w H',Aaq Tryz.prog 0 125 [.agg (Aft y).toArray,ptr a 0,ptr b 0] H w H'/\w=.bool (x.1==y.1)/\H'=H:=by
 refine gcb ?_
 refine Aam Bb4 ?_
 intro Q hq1 hq2
 have fx:=fun K=>Beu K x
 have fy:=fun K=>Beu K y
 have la:=Aaa.Bfg ga
 have lb:=Aaa.Bfg gb
 have o1:one1 (Value.int .i64 y.1)=True:=by simp[one1,Aav]
 simp only[Aft]at gb fx fy
 simp(disch:=first|assumption|omega|(simp only[LN]<;>omega)|(simp(disch:=first|assumption|omega|(simp only[LN]<;>omega))only[Aab,Aad];assumption))only[Bb4,P4,seval,ga,gb,Aft,Afi]
 refine Aae (fx _) ?_
 rintro _ _ ⟨rfl,rfl⟩
 simp(disch:=first|assumption|omega|(simp only[LN]<;>omega)|(simp(disch:=first|assumption|omega|(simp only[LN]<;>omega))only[Aab,Aad];assumption))only[P4,seval,ga,gb,Afi]
 refine Aae (fy _) ?_
 rintro _ _ ⟨rfl,rfl⟩
 simp(disch:=first|assumption|omega)only[P4,seval]
 exact hq2 _ _ ⟨_,rfl,rfl,(Aac.refl H).alloc _⟩
theorem t97{H:Aaa}{v:Value}{l:List Int}(h:WRr H 3 1 v (l.map Ag1))(hl:l.length<=1000000):
 ∃w H',Aaq Tryz.prog 0 97 [v,.func (.func 98) #[] #[]] H w H'/\w=.bool (!decide l.Nodup)/\H'=H:=by
 refine gcb ?_
 refine Aam f97 ?_
 intro Q hq1 hq2
 have hI:IL H v l:=h.sl
 have ia:=Sl.is hI
 have la:=hI.len
 have gk:=Aaa.Bfd H (.cells true false 1 [.func (.func 98) #[] #[]] 184)
 simp(disch:=first|assumption|omega)only[f97,P3,seval,Aah,Aao,la,fnc,fna]
 rw[Aag]
 refine Aal (fun k fr K=>∃i x4 x5 x9 x10,fr=[v,.func (.func 98) #[] #[],ptr H.n 0,.bool false,x4,x5,v,.int .i64 ((l.length:Nat):Int),.int .i64 ((i:Nat):Int),x9,x10]∧
  Aac (H.alloc (.cells true false 1 [.func (.func 98) #[] #[]] 184)) K/\i<=l.length/\(l.take i).Nodup/\k=l.length-i) l.length
  ⟨0,_,_,_,_,rfl,Aac.refl _,by omega,by simp,rfl⟩ ?_
 rintro Q' k fr K ⟨i,x4,x5,x9,x10,rfl,kk,hi,hp,rfl⟩ hn hx hret
 have kH:Aac H K:=((Aac.refl H).alloc _).trans kk
 by_cases hlt:i<l.length
 ·obtain⟨na,ra⟩:=(hI.keeps kH).at_ hlt
  have h0:(0:Int)<=(i:Int):=by omega
  have h1:(i:Int)<((Ab9 v:Nat):Int):=by omega
  have h3:(i:Int)<((l.length:Nat):Int):=by omega
  have hw:=wrS (i:=i) (by omega)
  have e1:l.getD i 0=l[i]:=by simp[List.getD,List.getElem?_eq_getElem hlt]
  have nd:=Aj1 hlt hp
  have nt:=Ahe (d:=0) hlt
  rw[e1]at ra nt
  generalize l[i]=x at*
  have kA:=(Aac.refl K).alloc (.cells true false 1 [.int .i64 x] 3)
  obtain⟨w,e2,s2⟩:=(h.keeps (kH.trans kA)).pre (kd:=.i64) (i:=i) (by simpa using hi)
  have gk2:=(kk.trans kA).at_ gk
  have gx:=Aaa.Bfd K (.cells true false 1 [.int .i64 x] 3)
  have s2':IL (K.alloc (.cells true false 1 [.int .i64 x] 3)) w (l.take i):=by unfold IL;rw[List.map_take];exact s2
  simp(disch:=first|assumption|omega)only[P4,seval,la,ra,na,Aaj,e2]
  refine Aae (t43 s2' (by rw[List.length_take];omega) (p:=fun y=>x==y) (fun y _=>t123 gk2 gx y)) ?_
  rintro _ _ ⟨rfl,rfl⟩
  have ec:((l.take i).any fun y=>x==y)=(l.take i).contains x:=by rw[List.contains_eq_any_beq]
  rw[ec]
  cases hc:(l.take i).contains x with
  |true=>
   simp(disch:=first|assumption|omega)only[P4,seval]
   exact hret _ _ (hq2 _ _ ⟨_,rfl,by simp[nt hc,Ae8],kH.trans kA⟩)
  |false=>
   simp(disch:=first|assumption|omega)only[P4,seval,hw]
   exact hn _ _ _ ⟨i+1,_,_,_,_,rfl,kk.trans kA,by omega,nd hc,rfl⟩ (by omega)
 ·have h3:¬(i:Int)<((l.length:Nat):Int):=by omega
  simp(disch:=first|assumption|omega)only[P4,seval,la]
  refine hx 0 _ _ ?_
  simp(disch:=first|assumption|omega)only[P4,seval]
  refine hq2 _ _ ⟨_,rfl,?_,kH⟩
  rw[List.take_of_length_le (by omega)]at hp
  simp[hp,Ae8]
theorem t100{H:Aaa}{v:Value}{l:List (Int×Bool)}(h:WRr H 120 2 v (l.map Aft))(hl:l.length<=1000000):
 ∃w H',Aaq Tryz.prog 0 100 [v,.func (.func 101) #[] #[]] H w H'/\w=.bool (!decide (l.map (·.1)).Nodup)/\H'=H:=by
 refine gcb ?_
 refine Aam Bby ?_
 intro Q hq1 hq2
 have hI:NL H v l:=h.sl
 have ia:=Sl.is hI
 have la:=hI.len
 have gk:=Aaa.Bfd H (.cells true false 1 [.func (.func 101) #[] #[]] 186)
 simp(disch:=first|assumption|omega)only[Bby,P3,seval,Aah,Aao,la,fnc,fna]
 rw[Aag]
 refine Aal (fun k fr K=>∃i x4 x5 x9 x10,fr=[v,.func (.func 101) #[] #[],ptr H.n 0,.bool false,x4,x5,v,.int .i64 ((l.length:Nat):Int),.int .i64 ((i:Nat):Int),x9,x10]∧
  Aac (H.alloc (.cells true false 1 [.func (.func 101) #[] #[]] 186)) K/\i<=l.length/\((l.map (·.1)).take i).Nodup/\k=l.length-i) l.length
  ⟨0,_,_,_,_,rfl,Aac.refl _,by omega,by simp,rfl⟩ ?_
 rintro Q' k fr K ⟨i,x4,x5,x9,x10,rfl,kk,hi,hp,rfl⟩ hn hx hret
 have kH:Aac H K:=((Aac.refl H).alloc _).trans kk
 by_cases hlt:i<l.length
 ·obtain⟨na,ra⟩:=(hI.keeps kH).at_ hlt
  have h0:(0:Int)<=(i:Int):=by omega
  have h1:(i:Int)<((Ab9 v:Nat):Int):=by omega
  have h3:(i:Int)<((l.length:Nat):Int):=by omega
  have hw:=wrS (i:=i) (by omega)
  have e1:l.getD i (0,false)=l[i]:=by simp[List.getD,List.getElem?_eq_getElem hlt]
  have hlt2:i<(l.map (·.1)).length:=by simpa using hlt
  have nd:=Aj1 hlt2 hp
  have nt:=Ahe (d:=0) hlt2
  have e3:(l.map (·.1)).getD i 0=l[i].1 :=by simp[List.getD,List.getElem?_eq_getElem hlt]
  have e4:(l.map (·.1))[i]=l[i].1 :=by simp
  rw[e1]at ra
  rw[e3]at nt
  rw[e4]at nd
  generalize l[i]=x at*
  have o1:one1 (Value.int .i64 x.1)=True:=by simp[one1,Aav]
  have o2:one1 (Value.bool x.2)=True:=by simp[one1,Aku]
  have kA:=(Aac.refl K).alloc (.cells true false 2 [.int .i64 x.1,.bool x.2] 120)
  obtain⟨w,e2,s2⟩:=(h.keeps (kH.trans kA)).pre (kd:=.i64) (i:=i) (by simpa using hi)
  have gk2:=(kk.trans kA).at_ gk
  have gx:=Aaa.Bfd K (.cells true false 2 [.int .i64 x.1,.bool x.2] 120)
  have s2':NL (K.alloc (.cells true false 2 [.int .i64 x.1,.bool x.2] 120)) w (l.take i):=by unfold NL;rw[List.map_take];exact s2
  simp(disch:=first|assumption|omega|(simp only[LN]<;>omega)|(simp(disch:=first|assumption|omega|(simp only[LN]<;>omega))only[Aab,Aad];assumption))only[P4,seval,la,ra,na,Aai,o1,o2,e2]
  refine Aae (t45 s2' (by rw[List.length_take];omega) (p:=fun y=>x.1==y.1) (fun y _=>t125 gk2 gx y)) ?_
  rintro _ _ ⟨rfl,rfl⟩
  have ec:((l.take i).any fun y=>x.1==y.1)=((l.map (·.1)).take i).contains x.1:=by rw[List.contains_eq_any_beq,<-List.map_take,List.any_map];rfl
  rw[ec]
  cases hc:((l.map (·.1)).take i).contains x.1 with
  |true=>
   simp(disch:=first|assumption|omega)only[P4,seval]
   exact hret _ _ (hq2 _ _ ⟨_,rfl,by simp[nt hc,Ae8],kH.trans kA⟩)
  |false=>
   simp(disch:=first|assumption|omega)only[P4,seval,hw]
   exact hn _ _ _ ⟨i+1,_,_,_,_,rfl,kk.trans kA,by omega,nd hc,rfl⟩ (by omega)
 ·have h3:¬(i:Int)<((l.length:Nat):Int):=by omega
  simp(disch:=first|assumption|omega)only[P4,seval,la]
  refine hx 0 _ _ ?_
  simp(disch:=first|assumption|omega)only[P4,seval]
  refine hq2 _ _ ⟨_,rfl,?_,kH⟩
  rw[List.take_of_length_le (by simp;omega)]at hp
  simp[hp,Ae8]
theorem t126{H:Aaa}{b:Nat}{ob rb:Bool}{tb:Nat}{p:Int}(gb:H.get b=some (.cells ob rb 1 [.int .i64 p] tb))(x:Int×Bool):
 ∃w H',Aaq Tryz.prog 0 126 [.agg (Aft x).toArray,ptr b 0] H w H'/\w=.bool (x.1==p)/\H'=H:=by
 refine gcb ?_
 refine Aam Bb5 ?_
 intro Q hq1 hq2
 have o1:one1 (Value.int .i64 x.1)=True:=by simp[one1,Aav]
 have lb:=Aaa.Bfg gb
 simp(disch:=first|assumption|omega)only[Bb5,P4,seval,Aft,o1,gb]
 exact hq2 _ _ ⟨_,rfl,rfl,(Aac.refl H).alloc _⟩
theorem Bev{H:Aaa}{v:Value}{l:List (Int×Bool)}(h:NL H v l)(hl:l.length<=1000000)(p:Int):
 ∃w H',Aaq Tryz.prog 0 102 [v,.int .i64 p] H w H'/\w=.bool (l.any fun x=>x.1==p)/\H'=H:=by
 refine gcb ?_
 refine Aam Bb0 ?_
 intro Q hq1 hq2
 have kA:=(Aac.refl H).alloc (.cells true false 1 [.int .i64 p] 3)
 have gx:=Aaa.Bfd H (.cells true false 1 [.int .i64 p] 3)
 simp(disch:=first|assumption|omega)only[Bb0,P4,seval]
 refine Aae (t45 (h.keeps kA) hl (p:=fun x=>x.1==p) (fun y _=>t126 gx y)) ?_
 rintro _ _ ⟨rfl,rfl⟩
 simp(disch:=first|assumption|omega)only[P4,seval]
 exact hq2 _ _ ⟨_,rfl,rfl,kA⟩
structure Ahf (L:Ly):Prop where
 s:L.s.length<=64
 p:L.p.length<=32
 g:L.g.length<=32
 r:L.r.length<=64
theorem Aom{L:Ly}(h:Agd L=true):Aew L=false:=by simp[Aew,h]
theorem Ak0{L:Ly}(h:Agd L=false):Ahf L:=by
 simp only[Agd,Bool.or_eq_false_iff,decide_eq_false_iff_not]at h
 exact⟨by omega,by omega,by omega,by omega⟩
theorem Ah5.fit2{L:Ly}(h:Ah5 9223372036854775807 L)(k:Ahf L):Af2 L:=
 ⟨⟨by have:=k.s;omega,h.s.2⟩,⟨by have:=k.p;omega,h.p.2⟩,⟨by have:=k.g;omega,h.g.2⟩,⟨by have:=k.r;omega,h.r.2⟩⟩
theorem A5x{H:Aaa}{u:V4}{xs:List RV}{L:Ly}(h:LyR H u xs L)(hf:Ah5 9223372036854775807 L):∃w H',Aaq Tryz.prog 0 61 [.agg u.l.toArray] H w H'/\w=.bool (Aew L)/\H'=H:=by
 cases hfl:Agd L with
 |false=>exact t61 h (hf.fit2 (Ak0 hfl))
 |true=>
 refine gcb ?_
 refine Aam f61 ?_
 intro Q hq1 hq2
 rw[Aom hfl]at hq1 hq2
 have os:=Sl.one h.s
 have op:=Sl.one h.p
 have og:=Sl.one h.g
 have or:=Sl.one h.r
 have is:=Sl.is h.s
 have ip:=Sl.is h.p
 have ig:=Sl.is h.g
 have ir:=Sl.is h.r
 have ls:=h.s.len
 have lp:=h.p.len
 have lg:=h.g.len
 have lr:=h.r.len
 rw[h.rlen]at lr
 obtain⟨us,up,ug,ur⟩:=u
 simp only[V4.l]at*
 have kk:Aac H (H.alloc (.cells true false 4 [us,up,ug,ur] 27)):=(Aac.refl H).alloc _
 simp only[Agd,Bool.or_eq_true,decide_eq_true_eq]at hfl
 by_cases h1:64<L.s.length
 ·have e1:(64:Int)<((L.s.length:Nat):Int):=by omega
  simp(disch:=first|assumption|omega)only[f61,P4,seval,os,op,og,or,ls,lp,lg,lr]
  exact hq2 _ _ ⟨_,rfl,rfl,kk⟩
 have e1:¬(64:Int)<((L.s.length:Nat):Int):=by omega
 by_cases h2:32<L.p.length
 ·have e2:(32:Int)<((L.p.length:Nat):Int):=by omega
  simp(disch:=first|assumption|omega)only[f61,P4,seval,os,op,og,or,ls,lp,lg,lr]
  exact hq2 _ _ ⟨_,rfl,rfl,kk⟩
 have e2:¬(32:Int)<((L.p.length:Nat):Int):=by omega
 by_cases h3:32<L.g.length
 ·have e3:(32:Int)<((L.g.length:Nat):Int):=by omega
  simp(disch:=first|assumption|omega)only[f61,P4,seval,os,op,og,or,ls,lp,lg,lr]
  exact hq2 _ _ ⟨_,rfl,rfl,kk⟩
 have e3:¬(32:Int)<((L.g.length:Nat):Int):=by omega
 have e4:(64:Int)<((L.r.length:Nat):Int):=by omega
 simp(disch:=first|assumption|omega)only[f61,P4,seval,os,op,og,or,ls,lp,lg,lr]
 exact hq2 _ _ ⟨_,rfl,rfl,kk⟩
theorem Aon{H:Aaa}{a b:Value}(T:Nat)(ha:a.oneCell'=true)(hb:b.oneCell'=true):Sl (H.alloc (.cells true false 1 [a,b] T)) 1 (slc H.n 0 2 2) [[a],[b]]:=
 ⟨⟨_,_,rfl⟩,by simp,by rw[Acc rfl rfl];rfl⟩
theorem A5y{a b:Value}(ha:isS a=true)(hb:isS b=true):Aau [.slice none 0 0,.slice none 0 0] [(0,1,a),(1,1,b)]=some [a,b]:=by
 cases a with
 |slice p n k=>cases b with
  |slice q m j=>rfl
  |_=>cases hb
 |_=>cases ha
theorem t31{H:Aaa}{x:RV}(h:x.ok H)(hl:x.r.path.length+x.r.ov.length<=1000000):
 ∃w H',Aaq Tryz.prog 0 31 [.agg x.row.toArray] H w H'/\WRr H' 3 1 w ((trk x.r).map Ag1)/\Aac H H'/\Ads H.n w:=by
 refine Aam f31 ?_
 intro Q hq1 hq2
 have o1:one1 (Value.int .i64 x.r.g)=True:=by simp[one1,Aav]
 have o2:one1 (Value.string ⟨x.r.n.toArray⟩)=True:=by simp[one1,Abc]
 have o3:=Aap (Sl.is h.p)
 have o4:=Aap (Sl.is h.q)
 have o5:=Aap (Sl.is h.o)
 have o6:=Aap (Sl.is h.f)
 have op:=Sl.one h.p
 have oo:=Sl.one h.o
 have fl:=A5y (Sl.is h.p) (Sl.is h.o)
 have al:[x.vp,x.vo].all Value.oneCell'=true:=by simp[op,oo]
 have k1:=(Aac.refl H).alloc (.cells true false 6 x.row 87)
 have k2:=k1.alloc (.cells true false 1 [x.vp,x.vo] 84)
 have hV:=Aon (H:=H.alloc (.cells true false 6 x.row 87)) 84 op oo
 have hp:Sl _ 1 x.vp (x.r.path.map Ag1):=h.p.keeps k2
 have ho:Sl _ 1 x.vo (x.r.ov.map Ag1):=h.o.keeps k2
 obtain⟨⟨xn,xg,xp,xq,xo,xf⟩,vp,vq,vo,vf⟩:=x
 simp only[RV.row]at*
 simp(disch:=first|assumption|omega)only[f31,P4,seval,o1,o2,o3,o4,o5,o6,op,oo,fl,al]
 refine Aae (t65 (vs:=[(vp,xp.map Ag1),(vo,xo.map Ag1)]) hV (by
  intro y hy
  simp only[List.mem_cons,List.not_mem_nil,or_false]at hy
  rcases hy with rfl|rfl
  ·exact hp
  ·exact ho) (by simp) (by simpa using hl)) ?_
 rintro w K ⟨s,k,f⟩
 simp(disch:=first|assumption|omega)only[P4,seval]
 refine hq2 _ _ ⟨w,rfl,?_,k2.trans k,fun b hb=>Nat.le_trans k2.n (f b hb)⟩
 simpa[trk]using s
theorem t32{H:Aaa}{x:RV}(h:x.ok H)(hl:x.r.pts.length+x.r.fl.length<=1000000):
 ∃w H',Aaq Tryz.prog 0 32 [.agg x.row.toArray] H w H'/\WRr H' 120 2 w ((nds x.r).map Aft)/\Aac H H'/\Ads H.n w:=by
 refine Aam f32 ?_
 intro Q hq1 hq2
 have o1:one1 (Value.int .i64 x.r.g)=True:=by simp[one1,Aav]
 have o2:one1 (Value.string ⟨x.r.n.toArray⟩)=True:=by simp[one1,Abc]
 have o3:=Aap (Sl.is h.p)
 have o4:=Aap (Sl.is h.q)
 have o5:=Aap (Sl.is h.o)
 have o6:=Aap (Sl.is h.f)
 have op:=Sl.one h.q
 have oo:=Sl.one h.f
 have fl:=A5y (Sl.is h.q) (Sl.is h.f)
 have al:[x.vq,x.vf].all Value.oneCell'=true:=by simp[op,oo]
 have k1:=(Aac.refl H).alloc (.cells true false 6 x.row 87)
 have k2:=k1.alloc (.cells true false 1 [x.vq,x.vf] 85)
 have hV:=Aon (H:=H.alloc (.cells true false 6 x.row 87)) 85 op oo
 have hp:Sl _ 2 x.vq (x.r.pts.map Aft):=h.q.keeps k2
 have ho:Sl _ 2 x.vf (x.r.fl.map Aft):=h.f.keeps k2
 obtain⟨⟨xn,xg,xp,xq,xo,xf⟩,vp,vq,vo,vf⟩:=x
 simp only[RV.row]at*
 simp(disch:=first|assumption|omega)only[f32,P4,seval,o1,o2,o3,o4,o5,o6,op,oo,fl,al]
 refine Aae (t66 (vs:=[(vq,xq.map Aft),(vf,xf.map Aft)]) hV (by
  intro y hy
  simp only[List.mem_cons,List.not_mem_nil,or_false]at hy
  rcases hy with rfl|rfl
  ·exact hp
  ·exact ho) (by simp) (by simpa using hl)) ?_
 rintro w K ⟨s,k,f⟩
 simp(disch:=first|assumption|omega)only[P4,seval]
 refine hq2 _ _ ⟨w,rfl,?_,k2.trans k,fun b hb=>Nat.le_trans k2.n (f b hb)⟩
 simpa[nds]using s
def ptB(L:Ly)(r:Ro)(i:Nat):Bool:=
 ((trk r).contains (L.p.getD i ([],0)).2 ==r.pts.any (fun x=>x.1==(i:Int)))&& !((trk r).contains (L.p.getD i ([],0)).2 &&r.fl.any (fun x=>x.1==(i:Int)))
def Aps(L:Ly)(r:Ro):Bool:=r.path.isEmpty|| !decide (trk r).Nodup||(trk r).contains (L.g.getD r.g.toNat ([],0)).2 || !decide ((nds r).map (·.1)).Nodup
def Abo(L:Ly)(r:Ro):Bool:= !Aps L r&&(List.range L.p.length).all (ptB L r)
theorem Afw{L:Ly}{r:Ro}(h:Aps L r=true):Abo L r=false:=by simp[Abo,h]
theorem Asz{L:Ly}{r:Ro}{i:Nat}(hi:i<L.p.length)(h:ptB L r i=false):Abo L r=false:=by
 have:(List.range L.p.length).all (ptB L r)=false:=List.all_eq_false.2 ⟨i,List.mem_range.2 hi,by simp[h]⟩
 simp[Abo,this]
structure Ahw (L:Ly) (r:Ro):Prop where
 g:0<=r.g/\r.g<L.g.length
 p:r.path.length<=16
 o:r.ov.length<=16
 q:r.pts.length<=16
 f:r.fl.length<=16
theorem A09{L:Ly}{r:Ro}(h:roB L r=true):Ahw L r:=by
 simp only[roB,Ahd,inB,Bool.and_eq_true,decide_eq_true_eq]at h
 exact⟨by omega,by omega,by omega,by omega,by omega⟩
theorem t64{H:Aaa}{u:V4}{xs:List RV}{L:Ly}{x:RV}(h:LyR H u xs L)(hx:x.ok H)(hr:Ahw L x.r)(hL:Ahf L):
 ∃w H',Aaq Tryz.prog 0 64 [.agg u.l.toArray,.agg x.row.toArray] H w H'/\w=.bool (Abo L x.r)/\H'=H:=by
 refine gcb ?_
 refine Aam f64 ?_
 intro Q hq1 hq2
 have lp':=hL.p
 have lg':=hL.g
 have lP:=hr.p
 have lO:=hr.o
 have lQ:=hr.q
 have lF:=hr.f
 have os:=Sl.one h.s
 have op:=Sl.one h.p
 have og:=Sl.one h.g
 have or:=Sl.one h.r
 have is:=Sl.is h.s
 have ip:=Sl.is h.p
 have ig:=Sl.is h.g
 have ir:=Sl.is h.r
 have lp:=h.p.len
 have lg:=h.g.len
 have q1:one1 (Value.int .i64 x.r.g)=True:=by simp[one1,Aav]
 have q2:one1 (Value.string ⟨x.r.n.toArray⟩)=True:=by simp[one1,Abc]
 have q3:=Aap (Sl.is hx.p)
 have q4:=Aap (Sl.is hx.q)
 have q5:=Aap (Sl.is hx.o)
 have q6:=Aap (Sl.is hx.f)
 have lpt:=hx.p.len
 have ipt:=Sl.is hx.p
 obtain⟨n,hn⟩:∃n:Nat,x.r.g=(n:Int):=⟨x.r.g.toNat,by have:=hr.g.1;omega⟩
 have hnl:n<L.g.length:=by have:=hr.g.2;omega
 have gt:x.r.g.toNat=n:=by omega
 -- the two boxes
 obtain⟨K0,hK0⟩:∃X,X=(H.alloc (.cells true false 4 u.l 27)).alloc (.cells true false 6 x.row 87):=⟨_,rfl⟩
 have k0:Aac H K0:=by rw[hK0];exact((Aac.refl H).alloc _).alloc _
 have n0:K0.n=H.n+2:=by rw[hK0];rfl
 have gl:K0.get H.n=some (.cells true false 4 u.l 27):=by rw[hK0];exact((Aac.refl _).alloc _).at_ (Aaa.Bfd H _)
 have gr:K0.get (H.n+1)=some (.cells true false 6 x.row 87):=by rw[hK0];exact Aaa.Bfd (H.alloc _) _
 have x0:=hx.keeps k0
 have row:x.row=[.string ⟨x.r.n.toArray⟩,.int .i64 x.r.g,x.vp,x.vq,x.vo,x.vf]:=rfl
 have tT:=t31 x0 (by omega)
 simp only[V4.l,row]at hK0 gl gr tT ⊢
 have hbad:Abo L x.r=false->∀{K:Aaa} {fr:List Value},Aac H K->Ack f64.res fr K=some (.bool false)->Q .ret fr K:=fun e K fr k hres=>hq2 _ _ ⟨_,hres,by rw[e],k⟩
 simp(disch:=first|assumption|omega|(simp only[LN]<;>omega)|(simp(disch:=first|assumption|omega|(simp only[LN]<;>omega))only[Aab,Aad];assumption))only[f64,P4,seval,q1,q2,q3,q4,q5,q6,os,op,og,or,lpt]
 simp only[<-hK0]
 refine Aae tT ?_
 rintro t K1 ⟨ht,k1,ft⟩
 have hti:IL K1 t (trk x.r):=ht.sl
 have trl:(trk x.r).length<=32:=by simp[trk];omega
 have gl1:=k1.at_ gl
 have gr1:=k1.at_ gr
 have n1:=k1.n
 have pe:x.r.path.isEmpty=(((x.r.path.length:Nat):Int)==0):=by
  cases x.r.path with
  |nil=>rfl
  |cons a b=>simp;omega
 cases hpe:(((x.r.path.length:Nat):Int)==0)with
 |true=>
  simp(disch:=first|assumption|omega)only[P4,seval,gr1,lpt,hpe]
  exact hbad (Afw (by simp[Aps,pe,hpe])) (k0.trans k1) rfl
 |false=>
 simp(disch:=first|assumption|omega)only[P4,seval,gr1,lpt,hpe]
 refine Aat (t97 ht (by omega)) ?_
 cases hnd:decide (trk x.r).Nodup with
 |false=>
  simp(disch:=first|assumption|omega)only[P4,seval]
  exact hbad (Afw (by simp only[Aps,hnd];simp)) (k0.trans k1) rfl
 |true=>
 obtain⟨ng,rg⟩:=(h.g.keeps (k0.trans k1)).at_ hnl
 have t0:(Int.toNat (n:Int))=n:=by omega
 have g1:(0:Int)<=(n:Int):=by omega
 have g2:(n:Int)<((L.g.length:Nat):Int):=by omega
 simp(disch:=first|assumption|omega)only[P4,seval,gl1,gr1,hn,ng,rg,lg,Aaj,Aai]
 refine Aat (t99 hti (by omega) _) ?_
 cases hc:(trk x.r).contains (L.g.getD n ([],0)).2 with
 |true=>
  simp(disch:=first|assumption|omega)only[P4,seval]
  exact hbad (Afw (by simp only[Aps,gt,hc];simp)) (k0.trans k1) rfl
 |false=>
 have tN:=t32 (hx.keeps (k0.trans k1)) (by omega)
 simp only[row]at tN
 simp(disch:=first|assumption|omega|(simp only[LN]<;>omega)|(simp(disch:=first|assumption|omega|(simp only[LN]<;>omega))only[Aab,Aad];assumption))only[P4,seval,gr1]
 refine Aae tN ?_
 rintro nv K2 ⟨hnv,k2,fnv⟩
 have ndl:(nds x.r).length<=32:=by simp[nds];omega
 simp(disch:=first|assumption|omega)only[P4,seval]
 refine Aat (t100 hnv (by omega)) ?_
 cases hnn:decide ((nds x.r).map (·.1)).Nodup with
 |false=>
  simp(disch:=first|assumption|omega)only[P4,seval]
  exact hbad (Afw (by simp only[Aps,hnn];simp)) ((k0.trans k1).trans k2) rfl
 |true=>
 have kH:Aac H K2:=(k0.trans k1).trans k2
 have hgood:Aps L x.r=false:=by simp only[Aps,pe,hpe,hnd,gt,hc,hnn];rfl
 have gl2:=k2.at_ gl1
 have gr2:=k2.at_ gr1
 have n2:=k2.n
 simp(disch:=first|assumption|omega)only[P3,seval,Aah,Aao,gl2,gr2,lp]
 rw[Aag]
 refine Aal (fun k fr K=>∃A B i x6 x7 x8 x13 x14,fr=[A,B,ptr H.n 0,ptr (H.n+1) 0,.bool false,t,x6,x7,x8,.bool false,u.p,.int .i64 ((L.p.length:Nat):Int),.int .i64 ((i:Nat):Int),x13,x14]∧
  Aac K2 K/\i<=L.p.length/\(List.range i).all (ptB L x.r)=true/\k=L.p.length-i) L.p.length
  ⟨_,_,0,_,_,_,_,_,rfl,Aac.refl _,by omega,by simp,rfl⟩ ?_
 rintro Q' k fr K ⟨A,B,i,x6,x7,x8,x13,x14,rfl,kk,hi,hp,rfl⟩ hn' hx' hret
 by_cases hlt:i<L.p.length
 ·obtain⟨na,ra⟩:=(h.p.keeps (kH.trans kk)).at_ hlt
  have h0:(0:Int)<=(i:Int):=by omega
  have h1:(i:Int)<((L.p.length:Nat):Int):=by omega
  have hw:=wrS (i:=i) (by omega)
  have pdef:ptB L x.r i=(((trk x.r).contains (L.p.getD i ([],0)).2 ==x.r.pts.any (fun x=>x.1==(i:Int)))&& !((trk x.r).contains (L.p.getD i ([],0)).2 &&x.r.fl.any (fun x=>x.1==(i:Int)))):=rfl
  have bad:=fun e=>Asz (L:=L) (r:=x.r) hlt e
  have good:ptB L x.r i=true->(List.range (i+1)).all (ptB L x.r)=true:=fun e=>by rw[List.range_succ,List.all_append,hp];simp[e]
  generalize L.p.getD i ([],0)=z at*
  have w1:one1 (Value.int .i64 z.2)=True:=by simp[one1,Aav]
  have w2:one1 (Value.string ⟨z.1.toArray⟩)=True:=by simp[one1,Abc]
  have kA:=(Aac.refl K).alloc (.cells true false 2 [.string ⟨z.1.toArray⟩,.int .i64 z.2] 89)
  have gx:=Aaa.Bfd K (.cells true false 2 [.string ⟨z.1.toArray⟩,.int .i64 z.2] 89)
  obtain⟨K3,hK3⟩:∃X,X=K.alloc (.cells true false 2 [.string ⟨z.1.toArray⟩,.int .i64 z.2] 89):=⟨_,rfl⟩
  have gr3:=(kk.trans kA).at_ gr2
  rw[<-hK3]at gr3
  have hti3:IL K3 t (trk x.r):=by rw[hK3];exact((hti.keeps k2).keeps kk).keeps kA
  have hq3:NL K3 x.vq x.r.pts:=by rw[hK3];exact((hx.keeps kH).keeps (kk.trans kA)).q
  have hf3:NL K3 x.vf x.r.fl:=by rw[hK3];exact((hx.keeps kH).keeps (kk.trans kA)).f
  have k3:Aac K2 K3:=by rw[hK3];exact kk.trans kA
  rw[<-hK3]at gx
  simp(disch:=first|assumption|omega|(simp only[LN]<;>omega)|(simp(disch:=first|assumption|omega|(simp only[LN]<;>omega))only[Aab,Aad];assumption))only[P4,seval,lp,ra,na,Aai,w1,w2]
  simp only[<-hK3]
  refine Aat (t99 hti3 (by omega) _) ?_
  simp(disch:=first|assumption|omega)only[P4,seval,gr3]
  refine Aat (Bev hq3 (by omega) _) ?_
  cases hin:(trk x.r).contains z.2 with
  |true=>
   cases hpt:x.r.pts.any (fun x=>x.1==(i:Int))with
   |true=>
    simp(disch:=first|assumption|omega)only[P4,seval,gr3]
    refine Aat (Bev hf3 (by omega) _) ?_
    cases hfl:x.r.fl.any (fun x=>x.1==(i:Int))with
    |true=>
     simp(disch:=first|assumption|omega)only[P4,seval]
     refine hret _ _ (hbad (bad (by rw[pdef,hin,hpt,hfl];rfl)) (kH.trans k3) rfl)
    |false=>
     simp(disch:=first|assumption|omega)only[P4,seval,hw]
     exact hn' _ _ _ ⟨_,_,i+1,_,_,_,_,_,rfl,k3,by omega,good (by rw[pdef,hin,hpt,hfl];rfl),rfl⟩ (by omega)
   |false=>
    simp(disch:=first|assumption|omega)only[P4,seval]
    refine hret _ _ (hbad (bad (by rw[pdef,hin,hpt];rfl)) (kH.trans k3) rfl)
  |false=>
   cases hpt:x.r.pts.any (fun x=>x.1==(i:Int))with
   |true=>
    simp(disch:=first|assumption|omega)only[P4,seval]
    refine hret _ _ (hbad (bad (by rw[pdef,hin,hpt];rfl)) (kH.trans k3) rfl)
   |false=>
    simp(disch:=first|assumption|omega)only[P4,seval,hw]
    exact hn' _ _ _ ⟨_,_,i+1,_,_,_,_,_,rfl,k3,by omega,good (by rw[pdef,hin,hpt];rfl),rfl⟩ (by omega)
 ·have h1:¬(i:Int)<((L.p.length:Nat):Int):=by omega
  have:i=L.p.length:=by omega
  subst this
  simp(disch:=first|assumption|omega)only[P4,seval,lp]
  refine hx' 1 _ _ ?_
  simp(disch:=first|assumption|omega)only[P4,seval]
  refine hq2 _ _ ⟨_,rfl,?_,kH.trans kk⟩
  simp[Abo,hgood,hp,Ae8]
theorem Aa1{L:Ly}(h:Aew L=true):Ahf L:=by
 simp only[Aew,Bool.and_eq_true,Bool.not_eq_true']at h
 exact Ak0 h.1
theorem Ahq{L:Ly}(h:Aew L=true){r:Ro}(hr:r∈L.r):Ahw L r:=by
 simp only[Aew,Bool.and_eq_true]at h
 exact A09 (List.all_eq_true.1 h.2.2.2 r hr)
theorem t63{H:Aaa}{u:V4}{xs:List RV}{L:Ly}{x:RV}{b:Nat}{ob rb:Bool}{tb:Nat}(h:LyR H u xs L)(hx:x.ok H)(hr:Ahw L x.r)(hL:Ahf L)(gb:H.get b=some (.cells ob rb 4 u.l tb)):
 ∃w H',Aaq Tryz.prog 0 63 [.agg x.row.toArray,ptr b 0] H w H'/\w=.bool (!Abo L x.r)/\H'=H:=by
 refine gcb ?_
 refine Aam f63 ?_
 intro Q hq1 hq2
 have os:=Sl.one h.s
 have op:=Sl.one h.p
 have og:=Sl.one h.g
 have or:=Sl.one h.r
 have q1:one1 (Value.int .i64 x.r.g)=True:=by simp[one1,Aav]
 have q2:one1 (Value.string ⟨x.r.n.toArray⟩)=True:=by simp[one1,Abc]
 have q3:=Aap (Sl.is hx.p)
 have q4:=Aap (Sl.is hx.q)
 have q5:=Aap (Sl.is hx.o)
 have q6:=Aap (Sl.is hx.f)
 have lb:=Aaa.Bfg gb
 have kA:=(Aac.refl H).alloc (.cells true false 6 x.row 87)
 have hf:=t64 (h.keeps kA) (hx.keeps kA) hr hL
 have row:x.row=[.string ⟨x.r.n.toArray⟩,.int .i64 x.r.g,x.vp,x.vq,x.vo,x.vf]:=rfl
 simp only[V4.l,row]at*
 simp(disch:=first|assumption|omega|(simp only[LN]<;>omega)|(simp(disch:=first|assumption|omega|(simp only[LN]<;>omega))only[Aab,Aad];assumption))only[f63,P4,seval,q1,q2,q3,q4,q5,q6,os,op,og,or,gb]
 refine Aae hf ?_
 rintro _ _ ⟨rfl,rfl⟩
 simp(disch:=first|assumption|omega)only[P4,seval]
 exact hq2 _ _ ⟨_,rfl,rfl,kA⟩
def Aan(L:Ly):Int:=if Aew L then(if L.r.all (Abo L)then 0 else 50)else 2
theorem Am7{α:Type}(p:α->Bool)(l:List α):(l.any fun x=> !p x)= !l.all p:=by
 induction l with
 |nil=>rfl
 |cons a l ih=>simp[ih]
theorem t30{H:Aaa}{u:V4}{xs:List RV}{L:Ly}(h:LyR H u xs L)(hf:Ah5 9223372036854775807 L):
 ∃w H',Aaq Tryz.prog 0 30 [.agg u.l.toArray] H w H'/\H'=H/\∃i,w=.tuple #[.int .i64 (Aan L),.int .i64 i]:=by
 suffices h':∃w H',Aaq Tryz.prog 0 30 [.agg u.l.toArray] H w H'/\Aac H H'/\∃i,w=.tuple #[.int .i64 (Aan L),.int .i64 i] by
  obtain⟨_,_,a,k,i,rfl⟩:=h'
  exact⟨_,_,a.gc0 k (.inr (.tuple _ _ rfl (fun i a b=>by
   match i,a with
   |0,_=>exact .int _ _
   |1,_=>exact .int _ _))),rfl,_,rfl⟩
 refine Aam f30 ?_
 intro Q hq1 hq2
 have os:=Sl.one h.s
 have op:=Sl.one h.p
 have og:=Sl.one h.g
 have or:=Sl.one h.r
 have kA:=(Aac.refl H).alloc (.cells true false 4 u.l 27)
 have gA:=Aaa.Bfd H (.cells true false 4 u.l 27)
 have hm:=A5x (h.keeps kA) hf
 have hA:=h.keeps kA
 simp only[V4.l]at*
 simp(disch:=first|assumption|omega|(simp only[LN]<;>omega)|(simp(disch:=first|assumption|omega|(simp only[LN]<;>omega))only[Aab,Aad];assumption))only[f30,P4,seval,os,op,og,or]
 refine Aae hm ?_
 rintro _ X ⟨rfl,hX⟩
 rw[hX]
 unfold Aan at hq1 hq2
 cases hmay:Aew L with
 |false=>
  rw[hmay]at hq1 hq2
  simp(disch:=first|assumption|omega)only[P4,seval]
  exact hq2 _ _ ⟨_,rfl,kA,_,rfl⟩
 |true=>
 rw[hmay]at hq1 hq2
 have hl:=Aa1 hmay
 have hrl:=h.rlen
 simp(disch:=first|assumption|omega)only[P4,seval]
 refine Aae (t62 hA.r (by have:=hl.r;omega) (p:=fun y=> !Abo L y.r) (fun y hy=>t63 hA (hA.ok y hy) (Ahq hmay (by rw[<-h.e];exact List.mem_map_of_mem hy)) hl (by simpa only[V4.l]using gA))) ?_
 rintro _ X ⟨hX,i,rfl,hi⟩
 rw[hX]
 have hany:decide (0<=i)= !L.r.all (Abo L):=by
  rw[hi,<-h.e,List.all_map]
  exact Am7 _ _
 by_cases h0:0<=i
 ·have e:L.r.all (Abo L)=false:=by simpa[h0]using hany
  rw[e]at hq1 hq2
  simp(disch:=first|assumption|omega)only[P4,seval]
  exact hq2 _ _ ⟨_,rfl,kA,_,rfl⟩
 ·have e:L.r.all (Abo L)=true:=by simpa[h0]using hany
  rw[e]at hq1 hq2
  simp(disch:=first|assumption|omega)only[P4,seval]
  exact hq2 _ _ ⟨_,rfl,kA,_,rfl⟩
def As0:Int->Value:=fun n=>.int .i64 n
def Ae4:List (Int×Bool)->List (Int×Value)
 |[]=>[]
 |x::l=>Amt x.1 (.bool x.2) (Ae4 l)
def Abp(p:Int)(l:List (Int×Bool)):Option Bool:=(l.find? fun x=>x.1==p).map (·.2)
theorem Aiy(p:Int):∀l,Ady p (Ae4 l)=(Abp p l).map .bool
 |[]=>rfl
 |x::l=>by
  simp only[Ae4,Ajv,Aiy p l,Abp,List.find?_cons]
  by_cases h:p=x.1
  ·have e:(x.1==p)=true:=by simp[h]
   rw[if_pos h,e];rfl
  ·have e:(x.1==p)=false:=by simp;exact fun e=>h e.symm
   rw[if_neg h,e]
theorem t139{v:Value}{l:List (Int×Bool)}(J:Nat->Aaa->Prop){b p:Nat}(hl:l.length<=1000000)
 (hr:∀k H,J k H->H.get p=some (.cells true false 1 [v] 85)/\NL H v l)
 (hy:∀k H,(h:k<l.length)->J (k+1) H->∃w H',Aej Tryz.prog 0 b [.int .i64 (k:Nat),.agg (Aft l[k]).toArray] H w H'/\w=.bool true/\J k H')
 {H:Aaa} (h0:J l.length H):∃w H',Aaq Tryz.prog 0 139 [.chan (some b),ptr p 0] H w H'/\J 0 H':=by
 refine Aam Bb9 ?_
 intro Q hq1 hq2
 obtain⟨g1,s1⟩:=hr _ _ h0
 have iv:=Sl.is s1
 have lv:=s1.len
 have hw0:IntKind.i64.wrap (((l.length:Nat):Int)-1)=(l.length:Int)-1:=by rw[Aa5 (by omega) (by omega)]
 simp(disch:=first|assumption|omega)only[Bb9,P3,seval,Aah,Aao,g1,lv,hw0]
 rw[Aag]
 refine Aal (fun k fr H=>∃x3 x4,fr=[.chan (some b),ptr p 0,.int .i64 ((k:Int)-1),x3,x4]/\J k H/\k<=l.length) l.length
  ⟨_,_,rfl,h0,Nat.le_refl _⟩ ?_
 rintro Q' k fr H ⟨x3,x4,rfl,hJ,hk⟩ hn hx hret
 cases k with
 |zero=>
  have e:¬(0:Int)<=((0:Nat):Int)-1:=by omega
  simp(disch:=first|assumption|omega)only[P4,seval]
  refine hx 0 _ _ ?_
  exact hq1 _ _ ⟨_,rfl,hJ⟩
 |succ k=>
  have e0:(((k+1:Nat):Int)-1)=(k:Int):=by omega
  obtain⟨g1,s1⟩:=hr _ _ hJ
  obtain⟨na,ra⟩:=s1.at_ (i:=k) (by omega)
  have h0:(0:Int)<=(k:Int):=by omega
  have h1:(k:Int)<((l.length:Nat):Int):=by omega
  have e1:l.getD k (0,false)=l[k]:=by simp[List.getD,List.getElem?_eq_getElem (show k<l.length by omega)]
  rw[e1]at ra
  have hy':=hy k H (by omega) hJ
  simp only[Aft]at hy'
  have hw:IntKind.i64.wrap ((k:Int)-1)=(k:Int)-1:=by rw[Aa5 (by omega) (by omega)]
  simp(disch:=first|assumption|omega)only[P4,seval,e0,g1,lv,na,ra,Aai,Abs]
  refine Aem hy' ?_
  rintro _ H2 ⟨rfl,hJ2⟩
  simp(disch:=first|assumption|omega)only[P4,seval,hw]
  exact hn k _ _ ⟨_,_,rfl,hJ2,by omega⟩ (by omega)
theorem t138{H:Aaa}{v:Value}(hv:v.oneCell'=true):∃w H',Aaq Tryz.prog 0 138 [v] H w H'/\w=.func (.func 139) #[] #[ptr H.n 0]/\H'=H.alloc (.cells true false 1 [v] 85):=by
 refine Aam Bb8 ?_
 intro Q hq1 hq2
 have hc:v.cells.toList=[v]:=by rw[Aid hv]
 simp(disch:=first|assumption|omega)only[Bb8,P4,seval,hc,hv]
 exact hq2 _ _ ⟨_,rfl,rfl,rfl⟩
structure SJ (B:Aaa) (L:Aj6) (v:Value) (l:List (Int×Bool)) (mb vb bb rb:Nat) (k:Nat) (H:Aaa):Prop where
 keep:Aac B H
 mvar:H.get vb=some (.cells true false 1 [.map (some mb)] 210)
 box:H.get bb=some (.cells true false 1 [v] 85)
 rec_:H.get rb=some (.loop true .ready none L)
 map:MP As0 H mb (Ae4 (l.drop k))
 sl:NL H v l
theorem SJ.round{B:Aaa}{v:Value}{l:List (Int×Bool)}{mb vb bb rb:Nat}{x0 x1 x2 x4 x5 x6 x7:Value}{k:Nat}{H:Aaa}(hk:k<l.length)(o1:B.n<=mb)(o2:mb<vb)(o3:vb<bb)(o4:bb<rb)(fr:Ads (vb+1) v)(lo:∀b,blk v=some b->b<bb)
 (h:SJ B ⟨18,[0,1,2,3,5,9,10,11],[x0,x1,x2,ptr vb 0,x4,x5,x6,x7],#[10,11],rfA Tryz.prog 128 0,rfB Tryz.prog 128 0⟩ v l mb vb bb rb (k+1) H):
 ∃w H',Aej Tryz.prog 0 rb [.int .i64 (k:Nat),.agg (Aft l[k]).toArray] H w H'/\w=.bool true/\SJ B ⟨18,[0,1,2,3,5,9,10,11],[x0,x1,x2,ptr vb 0,x4,x5,x6,x7],#[10,11],rfA Tryz.prog 128 0,rfB Tryz.prog 128 0⟩ v l mb vb bb rb k H':=by
 obtain⟨L,hL⟩:∃L:Aj6,(⟨18,[0,1,2,3,5,9,10,11],[x0,x1,x2,ptr vb 0,x4,x5,x6,x7],#[10,11],rfA Tryz.prog 128 0,rfB Tryz.prog 128 0⟩:Aj6)=L:=⟨_,rfl⟩
 refine Ah3 (R:=fun w H'=>w=.bool true/\SJ B _ v l mb vb bb rb k H') h.rec_ Apl Apm Av2 rfl rfl ?_
 show W Tryz.prog 0 Am3 _ [x0,x1,x2,ptr vb 0,x4,x5,.int .i64 (k:Nat),.agg (Aft l[k]).toArray] H
 rw[hL]at h ⊢
 have hd:l.drop k=l[k]::l.drop (k+1):=List.drop_eq_getElem_cons hk
 generalize l[k]=x at*
 have q1:one1 (Value.int .i64 x.1)=True:=by simp[one1,Aav]
 have hrl:=Aaa.Bfg h.rec_
 have hml:=h.map.lt
 simp only[Aft]at*
 simp(disch:=first|assumption|omega|(simp only[LN]<;>omega)|(simp(disch:=first|assumption|omega|(simp only[LN]<;>omega))only[Aab,Aad];assumption))only[Am3,P4,seval,q1]
 refine⟨none,L,h.rec_,?_⟩
 obtain⟨H1,hH1⟩:∃X,X=H.set rb (.loop true .busy none L):=⟨_,rfl⟩
 have n1:H1.n=H.n:=by rw[hH1];rfl
 have c2:Chg [rb] H H1:=by rw[hH1];exact Chg.set H hrl _
 have gr1:H1.get rb=some (.loop true .busy none L):=by rw[hH1];exact Aaa.Bfe h.rec_ _
 rw[<-hH1,<-n1]
 have kA:=(Aac.refl H1).alloc (.cells true false 2 [.int .i64 x.1,.bool x.2] 120)
 have gx2:=Aaa.Bfd H1 (.cells true false 2 [.int .i64 x.1,.bool x.2] 120)
 obtain⟨H2,hH2⟩:∃X,X=H1.alloc (.cells true false 2 [.int .i64 x.1,.bool x.2] 120):=⟨_,rfl⟩
 rw[<-hH2]at kA gx2 ⊢
 have n2:H2.n=H1.n+1:=by rw[hH2];rfl
 have gm:H2.get vb=some (.cells true false 1 [.map (some mb)] 210):=kA.at_ (c2.at_ h.mvar (by simp;omega))
 have mp2:MP As0 H2 mb (Ae4 (l.drop (k+1))):=h.map.get (by rw[kA.get mb (by omega),c2.get mb (by omega) (by simp;omega)])
 obtain⟨o,s1,s2⟩:=Awt Awr mp2 x.1 (x:=.bool x.2) rfl
 have s1':Aak (.mset (.int .i64) (.map (some mb)) (.int .i64 x.1) (.bool x.2)) H2=some (undef,H2.set mb o):=s1
 simp(disch:=first|assumption|omega)only[Asr,P4,seval,gm,gx2,Aqv,s1']
 have c3:Chg [mb] H2 (H2.set mb o):=Chg.set H2 (by omega) _
 have gr3:(H2.set mb o).get rb=some (.loop true .busy none L):=c3.at_ (kA.at_ gr1) (by simp;omega)
 unfold Ago
 rw[gr3]
 refine⟨rfl,?_⟩
 obtain⟨H3,hH3⟩:∃X,X=H2.set mb o:=⟨_,rfl⟩
 rw[<-hH3]at c3 gr3 s2 ⊢
 have n3:H3.n=H2.n:=by rw[hH3];rfl
 have c4:Chg [rb] H3 (H3.set rb (.loop true .ready none L)):=Chg.set H3 (by omega) _
 refine⟨?_,c4.at_ (c3.at_ gm (by simp;omega)) (by simp;omega),c4.at_ (c3.at_ (kA.at_ (c2.at_ h.box (by simp;omega))) (by simp;omega)) (by simp;omega),Aaa.Bfe gr3 _,?_,?_⟩
 ·exact(((h.keep.Bfh c2 (by simp;omega)).trans kA).Bfh c3 (by simp;omega)).Bfh c4 (by simp;omega)
 ·rw[hd]
  exact MP.get s2 (c4.get mb (by omega) (by simp;omega))
 ·have hb:∀b,blk v=some b->b≠rb/\b≠mb:=fun b e=>by have:=fr b e;have:=lo b e;omega
  exact Sl.chg (Sl.chg (Sl.keeps (Sl.chg h.sl c2 (fun b e=>by have:=hb b e;simp;omega)) kA) c3 (fun b e=>by have:=hb b e;simp;omega)) c4 (fun b e=>by have:=hb b e;simp;omega)
theorem Bew{H:Aaa}{x:RV}(hx:x.ok H)(hl:x.r.pts.length+x.r.fl.length<=1000000):
 ∃w H',Aaq Tryz.prog 0 128 [.agg x.row.toArray] H w H'/\Aac H H'/\∃mb,w=.map (some mb)/\H.n<=mb/\MP As0 H' mb (Ae4 (nds x.r)):=by
 refine Aam Bb7 ?_
 intro Q hq1 hq2
 have q1:one1 (Value.int .i64 x.r.g)=True:=by simp[one1,Aav]
 have q2:one1 (Value.string ⟨x.r.n.toArray⟩)=True:=by simp[one1,Abc]
 have q3:=Aap (Sl.is hx.p)
 have q4:=Aap (Sl.is hx.q)
 have q5:=Aap (Sl.is hx.o)
 have q6:=Aap (Sl.is hx.f)
 have row:x.row=[.string ⟨x.r.n.toArray⟩,.int .i64 x.r.g,x.vp,x.vq,x.vo,x.vf]:=rfl
 obtain⟨K0,hK0⟩:∃X,X=((H.alloc (.cells true false 6 x.row 87)).alloc (.obj true (.map #[] 0))).alloc (.cells true false 1 [.map (some (H.n+1))] 210):=⟨_,rfl⟩
 have n0:K0.n=H.n+3:=by rw[hK0];rfl
 have k0:Aac H K0:=by rw[hK0];exact(((Aac.refl H).alloc _).alloc _).alloc _
 have g0:K0.get (H.n+2)=some (.cells true false 1 [.map (some (H.n+1))] 210):=by rw[hK0];exact Aaa.Bfd ((H.alloc _).alloc _) _
 have m0:MP As0 K0 (H.n+1) []:=by
  have:=MP.new (enc:=As0) (H.alloc (.cells true false 6 x.row 87))
  refine this.get ?_
  rw[hK0]
  exact((Aac.refl ((H.alloc (.cells true false 6 x.row 87)).alloc (.obj true (.map #[] 0)))).alloc _).get _ (by simp[Aaa.alloc])
 have tN:=t32 (hx.keeps k0) hl
 simp only[row]at*
 simp(disch:=first|assumption|omega|(simp only[LN]<;>omega)|(simp(disch:=first|assumption|omega|(simp only[LN]<;>omega))only[Aab,Aad];assumption))only[Bb7,P4,seval,q1,q2,q3,q4,q5,q6,Anu,Aqw]
 simp only[<-hK0]
 refine Aae tN ?_
 rintro v K1 ⟨hv,k1,fv⟩
 have n1:=k1.n
 have hvs:NL K1 v (nds x.r):=hv.sl
 have ndl:(nds x.r).length<=1000000:=by simp[nds];omega
 have ov:=Sl.one hvs
 simp(disch:=first|assumption|omega)only[P4,seval]
 refine Aae (t138 ov) ?_
 rintro _ K2 ⟨rfl,hK2⟩
 have kB:=(Aac.refl K1).alloc (.cells true false 1 [v] 85)
 have gB:=Aaa.Bfd K1 (.cells true false 1 [v] 85)
 rw[<-hK2]at kB gB
 have n2:K2.n=K1.n+1:=by rw[hK2];rfl
 simp(disch:=first|assumption|omega)only[P4,seval]
 refine Ah4 rfl (Aff (by kernel_rfl)) ?_
 obtain⟨L,hL⟩:∃L:Aj6,L=⟨18,[0,1,2,3,5,9,10,11],[.agg #[.string ⟨x.r.n.toArray⟩,.int .i64 x.r.g,x.vp,x.vq,x.vo,x.vf],ptr H.n 0,.map none,ptr (H.n+2) 0,undef,.func (.func 139) #[] #[ptr K1.n 0],undef,undef],#[10,11],rfA Tryz.prog 128 0,rfB Tryz.prog 128 0⟩:=⟨_,rfl⟩
 have kL:=(Aac.refl K2).alloc (.loop true .ready none L)
 have gL:=Aaa.Bfd K2 (.loop true .ready none L)
 have kH:Aac H K2:=(k0.trans k1).trans kB
 have h0:SJ H L v (nds x.r) (H.n+1) (H.n+2) K1.n K2.n (nds x.r).length (K2.alloc (.loop true .ready none L)):=
  ⟨kH.trans kL,kL.at_ (kB.at_ (k1.at_ g0)),kL.at_ gB,gL,by
   rw[List.drop_length]
   exact m0.get (by rw[kL.get _ (by omega),kB.get _ (by omega),k1.get _ (by omega)]),(hvs.keeps kB).keeps kL⟩
 have lo:∀b,blk v=some b->b<K1.n:=fun b e=>hv.1.lt e
 have rd:∀k X,(hk:k<(nds x.r).length)->SJ H L v (nds x.r) (H.n+1) (H.n+2) K1.n K2.n (k+1) X->∃w H',Aej Tryz.prog 0 K2.n [.int .i64 (k:Nat),.agg (Aft (nds x.r)[k]).toArray] X w H'/\w=.bool true/\SJ H L v (nds x.r) (H.n+1) (H.n+2) K1.n K2.n k H':=by
  rw[hL]
  intro k X hk hJ
  exact hJ.round hk (by omega) (by omega) (by omega) (by omega) (fun b e=>by have:=fv b e;omega) lo
 obtain⟨w,K3,a3,j3⟩:=t139 (SJ H L v (nds x.r) (H.n+1) (H.n+2) K1.n K2.n) ndl (fun k X hJ=>⟨hJ.box,hJ.sl⟩) rd h0
 rw[hL]at a3 j3
 refine⟨_,_,a3,Ad5 j3.rec_ ?_⟩
 have hrl:=Aaa.Bfg j3.rec_
 have c4:Chg [K2.n] K3 (K3.set K2.n .dead):=Chg.set K3 hrl _
 obtain⟨K4,hK4⟩:∃X,X=K3.set K2.n .dead:=⟨_,rfl⟩
 rw[<-hK4]at c4 ⊢
 have g4:=c4.at_ j3.mvar (by simp;omega)
 simp(disch:=first|assumption|omega)only[P4,seval,g4]
 refine hq2 _ _ ⟨_,rfl,j3.keep.Bfh c4 (by simp;have:=kH.n;omega),H.n+1,rfl,by omega,?_⟩
 exact MP.get (by simpa using j3.map) (c4.get _ (by have:=j3.map.lt;omega) (by simp;omega))
def cPt(L:Ly)(a b:Ro)(p:Nat):Bool:=
 let x:=Abp p (nds a);let y:=Abp p (nds b);let s:=(L.p.getD p ([],0)).2
 (x.isSome&&y.isSome||x.isSome&&(trk b).contains s||y.isSome&&(trk a).contains s)&& !(x==y)
def Ac8(L:Ly)(a b:Ro):Bool:=a.g==b.g||(trk a).any (fun s=>(trk b).contains s)||(List.range L.p.length).any (cPt L a b)
theorem As1{H:Aaa}{mb:Nat}{l:List (Int×Bool)}(h:MP As0 H mb (Ae4 l))(p:Nat):
 Aak (.mget (.int .i64) (.bool false) true (.map (some mb)) (.int .i64 (p:Nat))) H=some (.tuple #[.bool ((Abp p l).getD false),.bool (Abp p l).isSome],H):=by
 have:=Aws Awr h (p:Int) (.bool false) true
 rw[Aiy]at this
 refine this.trans ?_
 cases Abp (p:Int) l<;>rfl
theorem t127{u:V4}{xs:List RV}{L:Ly}{a b:RV}(J Jx:Aaa->Prop){rb pa pb pl:Nat}(la:Ahw L a.r)(lb:Ahw L b.r)(hL:Ahf L)
 (hr:∀H,J H->rb<H.n/\H.get pa=some (.cells true false 6 a.row 87)/\H.get pb=some (.cells true false 6 b.row 87)/\H.get pl=some (.cells true false 4 u.l 27)/\LyR H u xs L/\a.ok H/\b.ok H)
 (hk:∀H H',J H->Aac H H'->J H')
 (hy:∀H v,J H->∃w H',Aej Tryz.prog 0 rb [.bool v] H w H'/\w=.bool (!v)/\(v=true->Jx H')/\(v=false->J H'/\Chg [rb] H H'))
 {H:Aaa} (h0:J H):∃w H',Aaq Tryz.prog 0 127 [.chan (some rb),ptr pa 0,ptr pb 0,ptr pl 0] H w H'/\(Ac8 L a.r b.r=true->Jx H')/\(Ac8 L a.r b.r=false->J H'):=by
 refine Aam Bb6 ?_
 intro Q hq1 hq2
 obtain⟨lr,ga,gb,gl,hly,oa,ob⟩:=hr _ h0
 have lP:=la.p
 have lO:=la.o
 have lQ:=la.q
 have lF:=la.f
 have mP:=lb.p
 have mO:=lb.o
 have mQ:=lb.q
 have mF:=lb.f
 have rowa:a.row=[.string ⟨a.r.n.toArray⟩,.int .i64 a.r.g,a.vp,a.vq,a.vo,a.vf]:=rfl
 have rowb:b.row=[.string ⟨b.r.n.toArray⟩,.int .i64 b.r.g,b.vp,b.vq,b.vo,b.vf]:=rfl
 have ga':=ga
 have gb':=gb
 rw[rowa]at ga'
 rw[rowb]at gb'
 have stop:Ac8 L a.r b.r=true->∀{K:Aaa} {fr:List Value},Jx K->Q .ret fr K:=fun e K fr j=>hq2 _ _ ⟨_,rfl,fun _=>j,fun e2=>by rw[e]at e2;cases e2⟩
 simp(disch:=first|assumption|omega)only[Bb6,P4,seval,ga',gb',Abs]
 refine Aem (hy _ _ h0) ?_
 rintro _ K ⟨rfl,y1,y2⟩
 cases hg:(a.r.g==b.r.g)with
 |true=>
  simp(disch:=first|assumption|omega)only[P4,seval]
  exact stop (by simp only[Ac8,hg,Bool.true_or]) (y1 hg)
 |false=>
 obtain⟨jK,cK⟩:=y2 hg
 clear y1 y2 ga gb gl hly oa ob ga' gb'
 obtain⟨lr1,ga,gb,gl,hly,oa,ob⟩:=hr _ jK
 have ga':=ga
 have gb':=gb
 rw[rowa]at ga'
 rw[rowb]at gb'
 have tT:=t31 oa (by omega)
 have tU:=fun K' (k:Aac K K')=>t31 (ob.keeps k) (by omega)
 rw[rowa]at tT
 simp only[rowb]at tU
 simp(disch:=first|assumption|omega|(simp only[LN]<;>omega)|(simp(disch:=first|assumption|omega|(simp only[LN]<;>omega))only[Aab,Aad];assumption))only[P4,seval,ga',gb']
 refine Aae tT ?_
 rintro t K1 ⟨ht,k1,ft⟩
 have gb1:=k1.at_ gb'
 have lb1:=Aaa.Bfg gb
 have n1:=k1.n
 simp(disch:=first|assumption|omega|(simp only[LN]<;>omega)|(simp(disch:=first|assumption|omega|(simp only[LN]<;>omega))only[Aab,Aad];assumption))only[P4,seval,gb1]
 refine⟨gb'.symm,Aae (tU _ k1) ?_⟩
 rintro w K2 ⟨hw,k2,fw⟩
 have k12:=k1.trans k2
 have hti:IL K2 t (trk a.r):=ht.sl.keeps k2
 have hwi:IL K2 w (trk b.r):=hw.sl
 have tl:(trk a.r).length<=32:=by simp[trk];omega
 have wl:(trk b.r).length<=32:=by simp[trk];omega
 have j2:=hk _ _ jK k12
 have ftw:∀{S T:Aaa} {l:List Int} {z:Value},z=t\/z=w->Chg [rb] S T->IL S z l->IL T z l:=fun hz c h=>Sl.chg h c (fun y e=>by
  have:K.n<=y:=by
   rcases hz with rfl|rfl
   ·exact ft y e
   ·have:=fw y e;omega
  simp;omega)
 have iT:=Sl.is hti
 have lT:=hti.len
 clear tT tU gb1 lb1 ga gb gl hly oa ob ga' gb'
 simp(disch:=first|assumption|omega)only[P3,seval,Aah,Aao,lT]
 rw[Aag]
 refine Aal (fun k fr M=>∃i x6 x7 x8 x9 x10 x11 x12 x13 x14 x15 x16 x21 x22 x23 x24 x25 x26 x27,fr=[.chan (some rb),ptr pa 0,ptr pb 0,ptr pl 0,t,w,x6,x7,x8,x9,x10,x11,x12,x13,x14,x15,x16,.bool false,t,.int .i64 (((trk a.r).length:Nat):Int),.int .i64 ((i:Nat):Int),x21,x22,x23,x24,x25,x26,x27]∧
  J M/\K2.n<=M.n/\IL M t (trk a.r)/\IL M w (trk b.r)/\i<=(trk a.r).length/\((trk a.r).take i).any (fun s=>(trk b.r).contains s)=false/\k=(trk a.r).length - i) (trk a.r).length
  ⟨0,_,_,_,_,_,_,_,_,_,_,_,_,_,_,_,_,_,_,rfl,j2,Nat.le_refl _,hti,hwi,by omega,by simp,rfl⟩ ?_
 rintro Q' k fr M ⟨i,x6,x7,x8,x9,x10,x11,x12,x13,x14,x15,x16,x21,x22,x23,x24,x25,x26,x27,rfl,jM,nM,hti,hwi,hi,hp,rfl⟩ hn hx hret
 by_cases hlt:i<(trk a.r).length
 ·obtain⟨na,ra⟩:=hti.at_ hlt
  have h0:(0:Int)<=(i:Int):=by omega
  have h1:(i:Int)<(((trk a.r).length:Nat):Int):=by omega
  have hw1:=wrS (i:=i) (by omega)
  have e1:(trk a.r).getD i 0=(trk a.r)[i]:=by simp[List.getD,List.getElem?_eq_getElem hlt]
  have tk:((trk a.r).take (i+1)).any (fun s=>(trk b.r).contains s)=(trk b.r).contains (trk a.r)[i]:=by rw[List.take_succ_eq_append_getElem hlt,List.any_append,hp];simp
  have an:(trk b.r).contains (trk a.r)[i]=true->Ac8 L a.r b.r=true:=fun e=>by
   have:(trk a.r).any (fun s=>(trk b.r).contains s)=true:=List.any_eq_true.2 ⟨_,List.getElem_mem hlt,e⟩
   simp only[Ac8,this,Bool.or_true,Bool.true_or]
  rw[e1]at ra
  generalize(trk a.r)[i]=s at*
  simp(disch:=first|assumption|omega)only[P4,seval,lT,na,ra,Aaj]
  refine Aat (t99 hwi (by omega) s) ?_
  simp(disch:=first|assumption|omega)only[P4,seval,Abs]
  refine Aem (hy _ _ jM) ?_
  rintro _ M2 ⟨rfl,y1,y2⟩
  cases hc:(trk b.r).contains s with
  |true=>
   simp(disch:=first|assumption|omega)only[P4,seval]
   exact hret _ _ (stop (an hc) (y1 hc))
  |false=>
   obtain⟨jM2,c2⟩:=y2 hc
   simp(disch:=first|assumption|omega)only[P4,seval,hw1]
   exact hn _ _ _ ⟨i+1,_,_,_,_,_,_,_,_,_,_,_,_,_,_,_,_,_,_,rfl,jM2,Nat.le_trans nM c2.n,ftw (.inl rfl) c2 hti,ftw (.inr rfl) c2 hwi,by omega,by rw[tk,hc],rfl⟩ (by omega)
 have h1:¬(i:Int)<(((trk a.r).length:Nat):Int):=by omega
 rw[List.take_of_length_le (by omega)]at hp
 simp(disch:=first|assumption|omega)only[P4,seval,lT]
 refine hx 0 _ _ ?_
 clear hn hret
 obtain⟨lr2,ga,gb,gl,hly,oa,ob⟩:=hr _ jM
 have ga':=ga
 have gb':=gb
 rw[rowa]at ga'
 rw[rowb]at gb'
 have tT:=Bew oa (by omega)
 have tU:=fun K' (k:Aac M K')=>Bew (ob.keeps k) (by omega)
 rw[rowa]at tT
 simp only[rowb]at tU
 simp(disch:=first|assumption|omega|(simp only[LN]<;>omega)|(simp(disch:=first|assumption|omega|(simp only[LN]<;>omega))only[Aab,Aad];assumption))only[P4,seval,ga',gb']
 refine Aae tT ?_
 rintro _ M1 ⟨km1,ma,rfl,nma,hma⟩
 have gb1:=km1.at_ gb'
 have lb1:=Aaa.Bfg gb
 simp(disch:=first|assumption|omega|(simp only[LN]<;>omega)|(simp(disch:=first|assumption|omega|(simp only[LN]<;>omega))only[Aab,Aad];assumption))only[P4,seval,gb1]
 refine⟨gb'.symm,Aae (tU _ km1) ?_⟩
 rintro _ M2 ⟨km2,mb,rfl,nmb,hmb⟩
 --LOOP2
 have km12:=km1.trans km2
 have jM2:=hk _ _ jM km12
 have hti2:IL M2 t (trk a.r):=hti.keeps km12
 have hwi2:IL M2 w (trk b.r):=hwi.keeps km12
 have hma2:MP As0 M2 ma (Ae4 (nds a.r)):=hma.get (km2.get _ hma.lt)
 have l1:=km1.n
 have l2:=km2.n
 have hKM:K.n<=M.n:=Nat.le_trans k12.n nM
 have gl2:=km12.at_ gl
 have lpp:=hL.p
 have ip:=Sl.is hly.p
 have lp:=hly.p.len
 clear tT tU gb1 lb1 ga gb oa ob ga' gb'
 simp only[V4.l]at gl2
 have lrb:rb<K.n:=lr1
 refine⟨trivial,?_⟩
 simp(disch:=first|assumption|omega)only[P3,seval,Aah,Aao,gl2,lp]
 rw[Aag]
 clear hti hwi jM gl hly hx hi hlt h1
 refine Aal (fun k fr X=>∃j y6 y9 y10 y11 y12 y13 y14 y15 y16 y17 y20 y21 y22 y26 y27,fr=[.chan (some rb),ptr pa 0,ptr pb 0,ptr pl 0,t,w,y6,.map (some ma),.map (some mb),y9,y10,y11,y12,y13,y14,y15,y16,y17,t,.int .i64 (((trk a.r).length:Nat):Int),y20,y21,y22,u.p,.int .i64 ((L.p.length:Nat):Int),.int .i64 ((j:Nat):Int),y26,y27]∧
  J X/\M2.n<=X.n/\IL X t (trk a.r)/\IL X w (trk b.r)/\MP As0 X ma (Ae4 (nds a.r))/\MP As0 X mb (Ae4 (nds b.r))/\j<=L.p.length/\(List.range j).any (cPt L a.r b.r)=false/\k=L.p.length-j) L.p.length
  ⟨0,_,_,_,_,_,_,_,_,_,_,_,_,_,_,_,rfl,jM2,Nat.le_refl _,hti2,hwi2,hma2,hmb,by omega,by simp,rfl⟩ ?_
 rintro Q' k fr X ⟨j,y6,y9,y10,y11,y12,y13,y14,y15,y16,y17,y20,y21,y22,y26,y27,rfl,jX,nX,hti,hwi,hma,hmb,hi,hp2,rfl⟩ hn hx hret
 obtain⟨_,_,_,_,hly,_,_⟩:=hr _ jX
 by_cases hlt:j<L.p.length
 ·obtain⟨na,ra⟩:=hly.p.at_ hlt
  have h0:(0:Int)<=(j:Int):=by omega
  have h1:(j:Int)<((L.p.length:Nat):Int):=by omega
  have hw1:=wrS (i:=j) (by omega)
  have pdef:cPt L a.r b.r j=((((Abp j (nds a.r)).isSome&&(Abp j (nds b.r)).isSome||(Abp j (nds a.r)).isSome&&(trk b.r).contains (L.p.getD j ([],0)).2)||(Abp j (nds b.r)).isSome&&(trk a.r).contains (L.p.getD j ([],0)).2)&& !(Abp j (nds a.r)==Abp j (nds b.r))):=rfl
  have bad:cPt L a.r b.r j=true->Ac8 L a.r b.r=true:=fun e=>by
   have:(List.range L.p.length).any (cPt L a.r b.r)=true:=List.any_eq_true.2 ⟨j,List.mem_range.2 hlt,e⟩
   simp only[Ac8,this,Bool.or_true]
  have good:cPt L a.r b.r j=false->(List.range (j+1)).any (cPt L a.r b.r)=false:=fun e=>by rw[List.range_succ,List.any_append,hp2];simp[e]
  have sa:=fun(Y:Aaa) (k:Aac X Y)=>As1 (hma.get (k.get _ hma.lt)) j
  have sb:=fun(Y:Aaa) (k:Aac X Y)=>As1 (hmb.get (k.get _ hmb.lt)) j
  generalize L.p.getD j ([],0)=z at*
  have w1:one1 (Value.int .i64 z.2)=True:=by simp[one1,Aav]
  have w2:one1 (Value.string ⟨z.1.toArray⟩)=True:=by simp[one1,Abc]
  have kA:=(Aac.refl X).alloc (.cells true false 2 [.string ⟨z.1.toArray⟩,.int .i64 z.2] 89)
  have gx:=Aaa.Bfd X (.cells true false 2 [.string ⟨z.1.toArray⟩,.int .i64 z.2] 89)
  obtain⟨X1,hX1⟩:∃Y,Y=X.alloc (.cells true false 2 [.string ⟨z.1.toArray⟩,.int .i64 z.2] 89):=⟨_,rfl⟩
  rw[<-hX1]at kA gx
  have jX1:=hk _ _ jX kA
  have ht1:IL X1 t (trk a.r):=hti.keeps kA
  have hw2:IL X1 w (trk b.r):=hwi.keeps kA
  have ca:=sa _ kA
  have cb:=sb _ kA
  have nX1:X.n<=X1.n:=kA.n
  have nxt:∀X2,J X2->Chg [rb] X1 X2->cPt L a.r b.r j=false->∀z6 z9 z10 z11 z12 z13 z14 z15 z16 z17 z20 z21 z22 z26 z27,∃j' y6 y9 y10 y11 y12 y13 y14 y15 y16 y17 y20 y21 y22 y26 y27,[.chan (some rb),ptr pa 0,ptr pb 0,ptr pl 0,t,w,z6,.map (some ma),.map (some mb),z9,z10,z11,z12,z13,z14,z15,z16,z17,t,.int .i64 (((trk a.r).length:Nat):Int),z20,z21,z22,u.p,.int .i64 ((L.p.length:Nat):Int),.int .i64 ((j+1:Nat):Int),z26,z27]=[.chan (some rb),ptr pa 0,ptr pb 0,ptr pl 0,t,w,y6,.map (some ma),.map (some mb),y9,y10,y11,y12,y13,y14,y15,y16,y17,t,.int .i64 (((trk a.r).length:Nat):Int),y20,y21,y22,u.p,.int .i64 ((L.p.length:Nat):Int),.int .i64 ((j':Nat):Int),y26,y27]∧
   J X2/\M2.n<=X2.n/\IL X2 t (trk a.r)/\IL X2 w (trk b.r)/\MP As0 X2 ma (Ae4 (nds a.r))/\MP As0 X2 mb (Ae4 (nds b.r))/\j'<=L.p.length/\(List.range j').any (cPt L a.r b.r)=false/\L.p.length-(j+1)=L.p.length-j':=by
   intro X2 jX2 c2 hc
   intros
   have hma1:=hma.get (kA.get _ hma.lt)
   have hmb1:=hmb.get (kA.get _ hmb.lt)
   exact⟨j+1,_,_,_,_,_,_,_,_,_,_,_,_,_,_,_,rfl,jX2,by have:=c2.n;omega,ftw (.inl rfl) c2 ht1,ftw (.inr rfl) c2 hw2,hma1.get (c2.get _ hma1.lt (by simp;omega)),hmb1.get (c2.get _ hmb1.lt (by simp;omega)),by omega,good hc,rfl⟩
  clear sa sb
  simp(disch:=first|assumption|omega|(simp only[LN]<;>omega)|(simp(disch:=first|assumption|omega|(simp only[LN]<;>omega))only[Aab,Aad];assumption))only[P4,seval,lp,na,ra,Aai,w1,w2]
  simp only[<-hX1]
  generalize Abp (j:Int) (nds a.r)=x at*
  generalize Abp (j:Int) (nds b.r)=y at*
  cases x with
  |none=>
   cases y with
   |none=>
    have hc:=True.intro
    simp only[Option.getD_none,Option.isSome_none]at ca cb
    simp(disch:=first|assumption|omega)only[P4,seval,Ae0,ca,cb,gx,Abs]
    refine Aem (hy _ _ jX1) ?_
    rintro _ X2 ⟨rfl,y1,y2⟩
    obtain⟨jX2,c2⟩:=y2 rfl
    simp(disch:=first|assumption|omega)only[P4,seval,hw1]
    exact hn _ _ _ (nxt X2 jX2 c2 (by rw[pdef];first|rfl|(rw[hc];rfl)|(simp only[hc];simp)) _ _ _ _ _ _ _ _ _ _ _ _ _ _ _) (by omega)
   |some q=>
    simp only[Option.getD_none,Option.isSome_none,Option.getD_some,Option.isSome_some]at ca cb
    simp(disch:=first|assumption|omega)only[P4,seval,Ae0,ca,cb,gx,Abs]
    refine Aat (t99 ht1 (by omega) z.2) ?_
    cases hc:(trk a.r).contains z.2 with
    |true=>
     simp(disch:=first|assumption|omega)only[P4,seval,Abs]
     refine Aem (hy _ _ jX1) ?_
     rintro _ X2 ⟨rfl,y1,y2⟩
     simp(disch:=first|assumption|omega)only[P4,seval]
     exact hret _ _ (stop (bad (by rw[pdef];first|rfl|(rw[hc];rfl)|(simp only[hc];simp))) (y1 rfl))
    |false=>
     simp(disch:=first|assumption|omega)only[P4,seval,Abs]
     refine Aem (hy _ _ jX1) ?_
     rintro _ X2 ⟨rfl,y1,y2⟩
     obtain⟨jX2,c2⟩:=y2 rfl
     simp(disch:=first|assumption|omega)only[P4,seval,hw1]
     exact hn _ _ _ (nxt X2 jX2 c2 (by rw[pdef];first|rfl|(rw[hc];rfl)|(simp only[hc];simp)) _ _ _ _ _ _ _ _ _ _ _ _ _ _ _) (by omega)
  |some p=>
   cases y with
   |none=>
    simp only[Option.getD_none,Option.isSome_none,Option.getD_some,Option.isSome_some]at ca cb
    simp(disch:=first|assumption|omega)only[P4,seval,Ae0,ca,cb,gx,Abs]
    refine Aat (t99 hw2 (by omega) z.2) ?_
    cases hc:(trk b.r).contains z.2 with
    |true=>
     simp(disch:=first|assumption|omega)only[P4,seval,Abs]
     refine Aem (hy _ _ jX1) ?_
     rintro _ X2 ⟨rfl,y1,y2⟩
     simp(disch:=first|assumption|omega)only[P4,seval]
     exact hret _ _ (stop (bad (by rw[pdef];first|rfl|(rw[hc];rfl)|(simp only[hc];simp))) (y1 rfl))
    |false=>
     simp(disch:=first|assumption|omega)only[P4,seval,Abs]
     refine Aem (hy _ _ jX1) ?_
     rintro _ X2 ⟨rfl,y1,y2⟩
     obtain⟨jX2,c2⟩:=y2 rfl
     simp(disch:=first|assumption|omega)only[P4,seval,hw1]
     exact hn _ _ _ (nxt X2 jX2 c2 (by rw[pdef];first|rfl|(rw[hc];rfl)|(simp only[hc];simp)) _ _ _ _ _ _ _ _ _ _ _ _ _ _ _) (by omega)
   |some q=>
    simp only[Option.getD_some,Option.isSome_some]at ca cb
    have hc:=True.intro
    cases p with
    |true=>
     cases q with
     |true=>
      simp(disch:=first|assumption|omega)only[P4,seval,Ae0,ca,cb,gx,Abs]
      refine Aem (hy _ _ jX1) ?_
      rintro _ X2 ⟨rfl,y1,y2⟩
      obtain⟨jX2,c2⟩:=y2 rfl
      simp(disch:=first|assumption|omega)only[P4,seval,hw1]
      exact hn _ _ _ (nxt X2 jX2 c2 (by rw[pdef];first|rfl|(rw[hc];rfl)|(simp only[hc];simp)) _ _ _ _ _ _ _ _ _ _ _ _ _ _ _) (by omega)
     |false=>
      simp(disch:=first|assumption|omega)only[P4,seval,Ae0,ca,cb,gx,Abs]
      refine Aem (hy _ _ jX1) ?_
      rintro _ X2 ⟨rfl,y1,y2⟩
      simp(disch:=first|assumption|omega)only[P4,seval]
      exact hret _ _ (stop (bad (by rw[pdef];first|rfl|(rw[hc];rfl)|(simp only[hc];simp))) (y1 rfl))
    |false=>
     cases q with
     |true=>
      simp(disch:=first|assumption|omega)only[P4,seval,Ae0,ca,cb,gx,Abs]
      refine Aem (hy _ _ jX1) ?_
      rintro _ X2 ⟨rfl,y1,y2⟩
      simp(disch:=first|assumption|omega)only[P4,seval]
      exact hret _ _ (stop (bad (by rw[pdef];first|rfl|(rw[hc];rfl)|(simp only[hc];simp))) (y1 rfl))
     |false=>
      simp(disch:=first|assumption|omega)only[P4,seval,Ae0,ca,cb,gx,Abs]
      refine Aem (hy _ _ jX1) ?_
      rintro _ X2 ⟨rfl,y1,y2⟩
      obtain⟨jX2,c2⟩:=y2 rfl
      simp(disch:=first|assumption|omega)only[P4,seval,hw1]
      exact hn _ _ _ (nxt X2 jX2 c2 (by rw[pdef];first|rfl|(rw[hc];rfl)|(simp only[hc];simp)) _ _ _ _ _ _ _ _ _ _ _ _ _ _ _) (by omega)
 ·have h1:¬(j:Int)<((L.p.length:Nat):Int):=by omega
  have:j=L.p.length:=by omega
  subst this
  simp(disch:=first|assumption|omega)only[P4,seval,lp]
  refine hx 2 _ _ ?_
  refine hq1 _ _ ⟨_,rfl,fun e=>?_,fun _=>jX⟩
  simp only[Ac8,hg,hp,hp2]at e
  cases e
theorem A5z(i:Nat)(fr:List Value)(H:Aaa):Ack [.c1 i] fr H=Ao7 (fr.getD i undef) H:=by
 simp only[Ack,Af0,RX.get]
 cases Ao7 (fr.getD i undef) H<;>rfl
theorem As2{H:Aaa}{b:Nat}{own room:Bool}{T:Nat}{v:Value}(h:H.get b=some (.cells own room 1 [v] T)):Ao7 (ptr b 0) H=some v:=by
 rw[Aw2];simp only[Ag2,h];rfl
def Ap1(H:Aaa)(u:V4)(a b:RV):Aaa:=((H.alloc (.cells true false 4 u.l 27)).alloc (.cells true false 6 a.row 87)).alloc (.cells true false 6 b.row 87)
theorem As3(H:Aaa)(u:V4)(a b:RV):Aac H (Ap1 H u a b):=(((Aac.refl H).alloc _).alloc _).alloc _
theorem A50(H:Aaa)(u:V4)(a b:RV):(Ap1 H u a b).n=H.n+3:=rfl
theorem Aya(H:Aaa)(u:V4)(a b:RV):(Ap1 H u a b).get H.n=some (.cells true false 4 u.l 27):=(((Aac.refl (H.alloc _)).alloc _).alloc _).at_ (Aaa.Bfd H _)
theorem Ayb(H:Aaa)(u:V4)(a b:RV):(Ap1 H u a b).get (H.n+1)=some (.cells true false 6 a.row 87):=((Aac.refl ((H.alloc (.cells true false 4 u.l 27)).alloc _)).alloc _).at_ (Aaa.Bfd (H.alloc _) _)
theorem Ayc(H:Aaa)(u:V4)(a b:RV):(Ap1 H u a b).get (H.n+2)=some (.cells true false 6 b.row 87):=Aaa.Bfd ((H.alloc _).alloc _) _
theorem RV.ones{H:Aaa}{x:RV}(h:x.ok H):x.vp.oneCell'=true/\x.vq.oneCell'=true/\x.vo.oneCell'=true/\x.vf.oneCell'=true:=⟨Sl.one h.p,Sl.one h.q,Sl.one h.o,Sl.one h.f⟩
theorem t105{H:Aaa}{u:V4}{xs:List RV}{L:Ly}{a b:RV}(h:LyR H u xs L)(oa:a.ok H)(ob:b.ok H):
 ∃w H',Aaq Tryz.prog 0 105 [.agg u.l.toArray,.agg a.row.toArray,.agg b.row.toArray] H w H'/\w=.func (.func 127) #[] #[ptr (H.n+1) 0,ptr (H.n+2) 0,ptr H.n 0]/\H'=Ap1 H u a b:=by
 refine Aam Bb1 ?_
 intro Q hq1 hq2
 have os:=Sl.one h.s
 have op:=Sl.one h.p
 have og:=Sl.one h.g
 have or:=Sl.one h.r
 obtain⟨a3,a4,a5,a6⟩:=RV.ones oa
 obtain⟨b3,b4,b5,b6⟩:=RV.ones ob
 have a1:one1 (Value.int .i64 a.r.g)=True:=by simp[one1,Aav]
 have a2:one1 (Value.string ⟨a.r.n.toArray⟩)=True:=by simp[one1,Abc]
 have b1:one1 (Value.int .i64 b.r.g)=True:=by simp[one1,Aav]
 have b2:one1 (Value.string ⟨b.r.n.toArray⟩)=True:=by simp[one1,Abc]
 have rowa:a.row=[.string ⟨a.r.n.toArray⟩,.int .i64 a.r.g,a.vp,a.vq,a.vo,a.vf]:=rfl
 have rowb:b.row=[.string ⟨b.r.n.toArray⟩,.int .i64 b.r.g,b.vp,b.vq,b.vo,b.vf]:=rfl
 unfold Ap1 at hq1 hq2
 simp only[V4.l,rowa,rowb]at*
 simp(disch:=first|assumption|omega)only[Bb1,P4,seval,os,op,og,or,a1,a2,a3,a4,a5,a6,b1,b2,b3,b4,b5,b6]
 exact hq2 _ _ ⟨_,rfl,rfl,rfl⟩
structure CJ (K:Aaa) (L:Aj6) (X:Aaa):Prop where
 keep:Aac K X
 rec_:X.get K.n=some (.loop true .ready none L)
structure CX (H:Aaa) (vb rb:Nat) (L:Aj6) (X:Aaa):Prop where
 keep:Aac H X
 var:X.get vb=some (.cells true false 1 [.bool true] 4)
 rec_:X.get rb=some (.loop true .done (some .ret) L)
theorem CJ.round{H K:Aaa}{vb:Nat}{x0 x1 x2 x3 x4 x5 x7 x8 x9 x10:Value}{X:Aaa}(hvH:H.n<=vb)(hv:vb<K.n)(hHK:Aac H K)(gv:K.get vb=some (.cells true false 1 [.bool false] 4))(v:Bool)
 (h:CJ K ⟨14,[0,1,2,3,4,5,6,7,11,12,13],[x0,x1,x2,x3,x4,x5,ptr vb 0,x7,x8,x9,x10],#[12],rfA Tryz.prog 67 0,rfB Tryz.prog 67 0⟩ X):
 ∃w H',Aej Tryz.prog 0 K.n [.bool v] X w H'/\w=.bool (!v)/\(v=true->CX H vb K.n ⟨14,[0,1,2,3,4,5,6,7,11,12,13],[x0,x1,x2,x3,x4,x5,ptr vb 0,x7,x8,x9,x10],#[12],rfA Tryz.prog 67 0,rfB Tryz.prog 67 0⟩ H')∧
  (v=false->CJ K ⟨14,[0,1,2,3,4,5,6,7,11,12,13],[x0,x1,x2,x3,x4,x5,ptr vb 0,x7,x8,x9,x10],#[12],rfA Tryz.prog 67 0,rfB Tryz.prog 67 0⟩ H'/\Chg [K.n] X H'):=by
 obtain⟨L,hL⟩:∃L:Aj6,(⟨14,[0,1,2,3,4,5,6,7,11,12,13],[x0,x1,x2,x3,x4,x5,ptr vb 0,x7,x8,x9,x10],#[12],rfA Tryz.prog 67 0,rfB Tryz.prog 67 0⟩:Aj6)=L:=⟨_,rfl⟩
 refine Ah3 (R:=fun w H'=>w=.bool (!v)/\(v=true->CX H vb K.n _ H')/\(v=false->CJ K _ H'/\Chg [K.n] X H')) h.rec_ Aso Asq A05 rfl rfl ?_
 show W Tryz.prog 0 Asn _ [x0,x1,x2,x3,x4,x5,ptr vb 0,x7,x8,.bool v,x10] X
 rw[hL]at h ⊢
 have hrl:=Aaa.Bfg h.rec_
 simp(disch:=first|assumption|omega)only[Asn,P4,seval]
 refine⟨none,L,h.rec_,?_⟩
 obtain⟨X1,hX1⟩:∃Y,Y=X.set K.n (.loop true .busy none L):=⟨_,rfl⟩
 have n1:X1.n=X.n:=by rw[hX1];rfl
 have c1:Chg [K.n] X X1:=by rw[hX1];exact Chg.set X hrl _
 have gr1:X1.get K.n=some (.loop true .busy none L):=by rw[hX1];exact Aaa.Bfe h.rec_ _
 have k1:Aac K X1:=h.keep.Bfh c1 (by simp)
 have gv1:=k1.at_ gv
 rw[<-hX1]
 cases v with
 |true=>
  simp(disch:=first|assumption|omega)only[Asp,P4,seval,gv1]
  have hvl:=Aaa.Bfg gv1
  have c2:Chg [vb] X1 (X1.set vb (.cells true false 1 [.bool true] 4)):=Chg.set X1 hvl _
  have gr2:=c2.at_ gr1 (by simp;omega)
  unfold Ago
  rw[gr2]
  refine⟨rfl,fun _=>⟨?_,?_,Aaa.Bfe gr2 _⟩,fun e=>by cases e⟩
  ·exact(((hHK.trans k1).Bfh c2 (by simp;omega)).set (by have:=hHK.n;omega) (by show K.n<X1.n;omega) _)
  ·rw[Aaa.Bff _ (by omega) (by show K.n<X1.n;omega)]
   exact Aaa.Bfe gv1 _
 |false=>
  simp(disch:=first|assumption|omega)only[Asp,P4,seval]
  unfold Ago
  rw[gr1]
  have c2:Chg [K.n] X1 (X1.set K.n (.loop true .ready none L)):=Chg.set X1 (by omega) _
  refine⟨rfl,fun e=>(by cases e),fun _=>⟨⟨k1.Bfh c2 (by simp),Aaa.Bfe gr1 _⟩,c1.trans c2 (by simp)⟩⟩
theorem t67{H:Aaa}{u:V4}{xs:List RV}{L:Ly}{a b:RV}(h:LyR H u xs L)(oa:a.ok H)(ob:b.ok H)(la:Ahw L a.r)(lb:Ahw L b.r)(hL:Ahf L):
 ∃w H',Aaq Tryz.prog 0 67 [.agg u.l.toArray,.agg a.row.toArray,.agg b.row.toArray] H w H'/\w=.bool (Ac8 L a.r b.r)/\H'=H:=by
 suffices h':∃w H',Aaq Tryz.prog 0 67 [.agg u.l.toArray,.agg a.row.toArray,.agg b.row.toArray] H w H'/\w=.bool (Ac8 L a.r b.r)/\Aac H H' by
  obtain⟨_,_,r,rfl,k⟩:=h'
  exact⟨_,_,r.gc0 k (.inr (.bool _)),rfl,rfl⟩
 refine Aam f67 ?_
 intro Q hq1 hq2
 have os:=Sl.one h.s
 have op:=Sl.one h.p
 have og:=Sl.one h.g
 have or:=Sl.one h.r
 obtain⟨a3,a4,a5,a6⟩:=RV.ones oa
 obtain⟨b3,b4,b5,b6⟩:=RV.ones ob
 have a1:one1 (Value.int .i64 a.r.g)=True:=by simp[one1,Aav]
 have a2:one1 (Value.string ⟨a.r.n.toArray⟩)=True:=by simp[one1,Abc]
 have b1:one1 (Value.int .i64 b.r.g)=True:=by simp[one1,Aav]
 have b2:one1 (Value.string ⟨b.r.n.toArray⟩)=True:=by simp[one1,Abc]
 have rowa:a.row=[.string ⟨a.r.n.toArray⟩,.int .i64 a.r.g,a.vp,a.vq,a.vo,a.vf]:=rfl
 have rowb:b.row=[.string ⟨b.r.n.toArray⟩,.int .i64 b.r.g,b.vp,b.vq,b.vo,b.vf]:=rfl
 have hul:u.l=[u.s,u.p,u.g,u.r]:=rfl
 obtain⟨K0,hK0⟩:∃X,X=(Ap1 H u a b).alloc (.cells true false 1 [.bool false] 4):=⟨_,rfl⟩
 have k0:Aac H K0:=by rw[hK0];exact(As3 H u a b).alloc _
 have n0:K0.n=H.n+4:=by rw[hK0];rfl
 have gv0:K0.get (H.n+3)=some (.cells true false 1 [.bool false] 4):=by rw[hK0];exact Aaa.Bfd (Ap1 H u a b) _
 have tR:=t105 (h.keeps k0) (oa.keeps k0) (ob.keeps k0)
 have hK0':=hK0
 unfold Ap1 at hK0'
 simp only[hul,rowa,rowb]at tR hK0' ⊢
 simp(disch:=first|assumption|omega|(simp only[LN]<;>omega)|(simp(disch:=first|assumption|omega|(simp only[LN]<;>omega))only[Aab,Aad];assumption))only[f67,P4,seval,os,op,og,or,a1,a2,a3,a4,a5,a6,b1,b2,b3,b4,b5,b6]
 simp only[<-hK0']
 refine Aae tR ?_
 rintro _ K ⟨rfl,hK⟩
 have k1:Aac K0 K:=by rw[hK];exact As3 _ _ _ _
 have n1:K.n=H.n+7:=by rw[hK,A50,n0]
 have kH:Aac H K:=k0.trans k1
 have gvK:=k1.at_ gv0
 simp(disch:=first|assumption|omega)only[P4,seval]
 refine Ah4 rfl (Aff (by kernel_rfl)) ?_
 obtain⟨L0,hL0⟩:∃L:Aj6,L=⟨14,[0,1,2,3,4,5,6,7,11,12,13],[.agg #[u.s,u.p,u.g,u.r],.agg #[.string ⟨a.r.n.toArray⟩,.int .i64 a.r.g,a.vp,a.vq,a.vo,a.vf],.agg #[.string ⟨b.r.n.toArray⟩,.int .i64 b.r.g,b.vp,b.vq,b.vo,b.vf],
  ptr H.n 0,ptr (H.n+1) 0,ptr (H.n+2) 0,ptr (H.n+3) 0,undef,.func (.func 127) #[] #[ptr (K0.n+1) 0,ptr (K0.n+2) 0,ptr K0.n 0],undef,undef],#[12],rfA Tryz.prog 67 0,rfB Tryz.prog 67 0⟩:=⟨_,rfl⟩
 have kL:=(Aac.refl K).alloc (.loop true .ready none L0)
 have j0:CJ K L0 (K.alloc (.loop true .ready none L0)):=⟨kL,Aaa.Bfd K _⟩
 have gl1:=Aya K0 u a b
 have ga1:=Ayb K0 u a b
 have gb1:=Ayc K0 u a b
 rw[<-hK]at gl1 ga1 gb1
 have rd:∀X v,CJ K L0 X->∃w H',Aej Tryz.prog 0 K.n [.bool v] X w H'/\w=.bool (!v)/\(v=true->CX H (H.n+3) K.n L0 H')/\(v=false->CJ K L0 H'/\Chg [K.n] X H'):=by
  rw[hL0]
  intro X v hJ
  exact hJ.round (by omega) (by omega) kH gvK v
 obtain⟨w,X,r,r1,r2⟩:=t127 (u:=u) (xs:=xs) (L:=L) (a:=a) (b:=b) (CJ K L0) (CX H (H.n+3) K.n L0) (rb:=K.n) (pa:=K0.n+1) (pb:=K0.n+2) (pl:=K0.n) la lb hL
  (fun X hJ=>⟨Aaa.Bfg hJ.rec_,hJ.keep.at_ ga1,hJ.keep.at_ gb1,hJ.keep.at_ gl1,h.keeps (kH.trans hJ.keep),oa.keeps (kH.trans hJ.keep),ob.keeps (kH.trans hJ.keep)⟩)
  (fun X Y hJ k=>⟨hJ.keep.trans k,k.at_ hJ.rec_⟩) rd j0
 rw[hL0]at r r1 r2
 refine⟨w,X,r,?_⟩
 cases hc:Ac8 L a.r b.r with
 |true=>
  obtain⟨q1,q2,q3⟩:=r1 hc
  have hrl:=Aaa.Bfg q3
  refine Api q3 ?_
  have gv:(X.set K.n .dead).get (H.n+3)=some (.cells true false 1 [.bool true] 4):=by rw[Aaa.Bff X (by omega) hrl];exact q2
  refine hq2 _ _ ⟨.bool true,?_,by rw[hc],q1.set (by omega) hrl _⟩
  show Ack [.c1 6] _ _=_
  rw[A5z]
  exact As2 gv
 |false=>
  obtain⟨q1,q2⟩:=r2 hc
  have hrl:=Aaa.Bfg q2
  refine Ad5 q2 ?_
  have gv:(X.set K.n .dead).get (H.n+3)=some (.cells true false 1 [.bool false] 4):=by rw[Aaa.Bff X (by omega) hrl];exact q1.at_ gvK
  simp(disch:=first|assumption|omega)only[P4,seval,gv]
  have hvl:=Aaa.Bfg gv
  refine hq2 _ _ ⟨.bool false,?_,by rw[hc],((kH.trans q1).set (by omega) hrl _).set (by omega) hvl _⟩
  show Ack [.c1 6] _ _=_
  rw[A5z]
  exact As2 (Aaa.Bfe gv _)
def Aa0(p:Nat->Bool):Nat->Nat
 |0=>0
 |n+1=>Aa0 p n|||(if p n then 2 ^ n else 0)
theorem Abd(p:Nat->Bool)(m:Nat):∀n,(Aa0 p n).testBit m=(decide (m<n)&&p m)
 |0=>by simp[Aa0]
 |n+1=>by
  rw[Aa0,Nat.testBit_or,Abd p m n]
  by_cases h:m=n
  ·subst h
   cases hp:p m<;>simp[Nat.testBit_two_pow]
  ·cases hp:p n
   ·simp only[Bool.false_eq_true,if_false,Nat.zero_testBit,Bool.or_false]
    congr 1
    by_cases h2:m<n
    ·simp[h2];omega
    ·have:¬m<n+1:=by omega
     simp[h2,this]
   ·simp only[if_true,Nat.testBit_two_pow]
    have e:decide (n=m)=false:=by simp;omega
    rw[e,Bool.or_false]
    congr 1
    by_cases h2:m<n
    ·simp[h2];omega
    ·have:¬m<n+1:=by omega
     simp[h2,this]
theorem Acg(p:Nat->Bool)(n:Nat):Aa0 p n<2 ^ n:=Nat.lt_pow_two_of_testBit _ (fun i hi=>by rw[Abd];simp;omega)
theorem Ae1{p q:Nat->Bool}{n:Nat}(h:∀m,m<n->p m=q m):Aa0 p n=Aa0 q n:=by
 apply Nat.eq_of_testBit_eq
 intro i
 rw[Abd,Abd]
 by_cases hi:i<n
 ·rw[h i hi]
 ·simp[hi]
theorem A1a{x n:Nat}(h:x<2 ^ n):Aa0 (fun i=>x.testBit i) n=x:=by
 apply Nat.eq_of_testBit_eq
 intro i
 rw[Abd]
 by_cases hi:i<n
 ·simp[hi]
 ·have:x.testBit i=false:=Nat.testBit_lt_two_pow (Nat.lt_of_lt_of_le h (Nat.pow_le_pow_right (by omega) (by omega)))
  simp[hi,this]
abbrev U:Nat:=18446744073709551616
theorem uU:U=2 ^ 64:=rfl
theorem A51(p:Nat->Bool){n:Nat}(hn:n<=64):Aa0 p n<U:=Nat.lt_of_lt_of_le (Acg p n) (Nat.pow_le_pow_right (by omega) hn)
theorem or_u{a b:Nat}(ha:a<U)(hb:b<U):a|||b<U:=Nat.or_lt_two_pow (n:=64) ha hb
theorem A52{n:Nat}(h:n<64):Abz .shl (.int .u64 1) (.int .i64 (n:Int))=some (.int .u64 ((2 ^ n:Nat):Int)):=by
 rw[A28 .u64 1 (n:Int) .i64 (by omega)]
 have e:min (Int.toNat (n:Int)) IntKind.u64.bits=n:=by
  show min (Int.toNat (n:Int)) 64=n
  omega
 rw[e]
 have:2 ^ n<U:=by rw[uU];exact Nat.pow_lt_pow_right (by omega) h
 have e2:(1:Int)*2 ^ n=((2 ^ n:Nat):Int):=by simp
 rw[e2,An6]
 have h3:2 ^ n<18446744073709551616:=this
 have h4:((2 ^ n:Nat):Int)<18446744073709551616:=Int.ofNat_lt.2 h3
 rw[Int.emod_eq_of_lt (Int.natCast_nonneg _) h4]
theorem A1b{n:Nat}(h:n<64):2 ^ n<U:=by rw[uU];exact Nat.pow_lt_pow_right (by omega) h
def S64(f:Nat->Bool):Value:=.int .u64 (Aa0 f 64:Nat)
def S32(f:Nat->Bool):Value:=.int .u32 (Aa0 f 32:Nat)
def I1(b:Bool):Value:=.int .u64 (if b then 1 else 0)
def Aax(f:Nat->Bool):Bool:=(List.range 64).all fun i=> !f i
def Abj(f:Nat->Bool):Bool:=(List.range 32).all fun i=> !f i
theorem Am8(f g:Nat->Bool)(n:Nat):Aa0 f n&&& Aa0 g n=Aa0 (fun i=>f i&&g i) n:=by
 apply Nat.eq_of_testBit_eq;intro i
 rw[Nat.testBit_and,Abd,Abd,Abd]
 cases decide (i<n)<;>simp
theorem Atd(f g:Nat->Bool)(n:Nat):Aa0 f n|||Aa0 g n=Aa0 (fun i=>f i||g i) n:=by
 apply Nat.eq_of_testBit_eq;intro i
 rw[Nat.testBit_or,Abd,Abd,Abd]
 cases decide (i<n)<;>simp
theorem Ate(f g:Nat->Bool)(n:Nat):Aa0 f n ^^^ Aa0 g n=Aa0 (fun i=>(f i ^^ g i)) n:=by
 apply Nat.eq_of_testBit_eq;intro i
 rw[Nat.testBit_xor,Abd,Abd,Abd]
 cases decide (i<n)<;>simp
theorem Ai1{k n:Nat}(h:k<n):2 ^ k=Aa0 (fun i=>decide (i=k)) n:=by
 apply Nat.eq_of_testBit_eq;intro i
 rw[Nat.testBit_two_pow,Abd]
 by_cases e:i=k
 ·subst e;simp[h]
 ·have:¬k=i:=fun x=>e x.symm
  simp[e,this]
theorem Awb(n:Nat):Aa0 (fun _=>false) n=0:=by
 apply Nat.eq_of_testBit_eq;intro i
 rw[Abd];simp
theorem Am9(f:Nat->Bool)(n k:Nat):Aa0 f n / 2 ^ k=Aa0 (fun i=>decide (i+k<n)&&f (i+k)) n:=by
 apply Nat.eq_of_testBit_eq;intro i
 rw[Nat.testBit_div_two_pow,Abd,Abd]
 by_cases h:i+k<n
 ·have:i<n:=by omega
  simp[h,this]
 ·simp[h]
theorem Ak3(f:Nat->Bool)(n:Nat):(((Aa0 f n:Nat):Int)==0)=(List.range n).all fun i=> !f i:=by
 rw[Bool.eq_iff_iff,List.all_eq_true,beq_iff_eq]
 constructor
 ·intro h i hi
  have h2:Aa0 f n=0:=by omega
  have:=Abd f i n
  rw[h2]at this
  simp[List.mem_range.1 hi]at this
  simp[this]
 ·intro h
  have:Aa0 f n=0:=by
   rw[<-Awb n]
   exact Ae1 fun m hm=>by have:=h m (List.mem_range.2 hm);simpa using this
  omega
theorem Agu(f:Nat->Bool):BitVec.ofInt IntKind.u64.bits ((Aa0 f 64:Nat):Int)=BitVec.ofNat 64 (Aa0 f 64):=by
 show BitVec.ofInt 64 _=_
 rw[BitVec.ofInt_natCast]
theorem Agv(f:Nat->Bool):BitVec.ofInt IntKind.u32.bits ((Aa0 f 32:Nat):Int)=BitVec.ofNat 32 (Aa0 f 32):=by
 show BitVec.ofInt 32 _=_
 rw[BitVec.ofInt_natCast]
theorem w64(n:Nat)(h:n<2 ^ 64):IntKind.u64.wrap (n:Int)=(n:Int):=by
 rw[An6]
 have:n<18446744073709551616:=h
 omega
theorem w32(n:Nat)(h:n<2 ^ 32):IntKind.u32.wrap (n:Int)=(n:Int):=by
 rw[An5]
 have:n<4294967296:=h
 omega
theorem m64(f:Nat->Bool):Aa0 f 64 % 2 ^ 64=Aa0 f 64:=Nat.mod_eq_of_lt (Acg f 64)
theorem m32(f:Nat->Bool):Aa0 f 32 % 2 ^ 32=Aa0 f 32:=Nat.mod_eq_of_lt (Acg f 32)
theorem Ad0(f g:Nat->Bool):Abz .and (S64 f) (S64 g)=some (S64 fun i=>f i&&g i):=by
 unfold S64;rw[Aq4,Agu,Agu]
 show some (Value.int _ (IntKind.u64.wrap ((BitVec.ofNat 64 (Aa0 f 64)&&& BitVec.ofNat 64 (Aa0 g 64)).toNat:Int)))=_
 rw[BitVec.toNat_and,BitVec.toNat_ofNat,BitVec.toNat_ofNat,m64,m64,Am8,w64 _ (Acg _ _)]
theorem Agw(f g:Nat->Bool):Abz .or (S64 f) (S64 g)=some (S64 fun i=>f i||g i):=by
 unfold S64;rw[A8n,Agu,Agu]
 show some (Value.int _ (IntKind.u64.wrap ((BitVec.ofNat 64 (Aa0 f 64)|||BitVec.ofNat 64 (Aa0 g 64)).toNat:Int)))=_
 rw[BitVec.toNat_or,BitVec.toNat_ofNat,BitVec.toNat_ofNat,m64,m64,Atd,w64 _ (Acg _ _)]
theorem A6b(f g:Nat->Bool):Abz .xor (S64 f) (S64 g)=some (S64 fun i=>f i ^^ g i):=by
 unfold S64;rw[Apd,Agu,Agu]
 show some (Value.int _ (IntKind.u64.wrap ((BitVec.ofNat 64 (Aa0 f 64) ^^^ BitVec.ofNat 64 (Aa0 g 64)).toNat:Int)))=_
 rw[BitVec.toNat_xor,BitVec.toNat_ofNat,BitVec.toNat_ofNat,m64,m64,Ate,w64 _ (Acg _ _)]
theorem Ayg(k:IntKind)(a b:Int):Abz .andNot (.int k a) (.int k b)=some (.int k (k.wrap (BitVec.ofInt k.bits a&&& ~~~ BitVec.ofInt k.bits b).toNat)):=by simp[Abz,Aj7]
theorem Atf{w:Nat}(f g:Nat->Bool):(BitVec.ofNat w (Aa0 f w)&&& ~~~ BitVec.ofNat w (Aa0 g w)).toNat=Aa0 (fun i=>f i&& !g i) w:=by
 apply Nat.eq_of_testBit_eq;intro i
 rw[BitVec.testBit_toNat,Abd]
 by_cases h:i<w
 ·simp only[BitVec.getLsbD_and,BitVec.getLsbD_not,BitVec.getLsbD_ofNat,Abd,h,decide_true,Bool.true_and]
 ·simp[h,BitVec.getLsbD_of_ge,Nat.le_of_not_lt h]
theorem Ad1(f g:Nat->Bool):Abz .andNot (S64 f) (S64 g)=some (S64 fun i=>f i&& !g i):=by
 unfold S64;rw[Ayg,Agu,Agu]
 have:=Atf (w:=64) f g
 show some (Value.int _ (IntKind.u64.wrap ((BitVec.ofNat 64 (Aa0 f 64)&&& ~~~ BitVec.ofNat 64 (Aa0 g 64)).toNat:Int)))=_
 rw[this,w64 _ (Acg _ _)]
theorem Afa(f g:Nat->Bool):Abz .and (S32 f) (S32 g)=some (S32 fun i=>f i&&g i):=by
 unfold S32;rw[Aq4,Agv,Agv]
 show some (Value.int _ (IntKind.u32.wrap ((BitVec.ofNat 32 (Aa0 f 32)&&& BitVec.ofNat 32 (Aa0 g 32)).toNat:Int)))=_
 rw[BitVec.toNat_and,BitVec.toNat_ofNat,BitVec.toNat_ofNat,m32,m32,Am8,w32 _ (Acg _ _)]
theorem Al3(f g:Nat->Bool):Abz .or (S32 f) (S32 g)=some (S32 fun i=>f i||g i):=by
 unfold S32;rw[A8n,Agv,Agv]
 show some (Value.int _ (IntKind.u32.wrap ((BitVec.ofNat 32 (Aa0 f 32)|||BitVec.ofNat 32 (Aa0 g 32)).toNat:Int)))=_
 rw[BitVec.toNat_or,BitVec.toNat_ofNat,BitVec.toNat_ofNat,m32,m32,Atd,w32 _ (Acg _ _)]
theorem Apt(f g:Nat->Bool):Abz .xor (S32 f) (S32 g)=some (S32 fun i=>f i ^^ g i):=by
 unfold S32;rw[Apd,Agv,Agv]
 show some (Value.int _ (IntKind.u32.wrap ((BitVec.ofNat 32 (Aa0 f 32) ^^^ BitVec.ofNat 32 (Aa0 g 32)).toNat:Int)))=_
 rw[BitVec.toNat_xor,BitVec.toNat_ofNat,BitVec.toNat_ofNat,m32,m32,Ate,w32 _ (Acg _ _)]
theorem Acx(f g:Nat->Bool):Abz .andNot (S32 f) (S32 g)=some (S32 fun i=>f i&& !g i):=by
 unfold S32;rw[Ayg,Agv,Agv]
 have:=Atf (w:=32) f g
 show some (Value.int _ (IntKind.u32.wrap ((BitVec.ofNat 32 (Aa0 f 32)&&& ~~~ BitVec.ofNat 32 (Aa0 g 32)).toNat:Int)))=_
 rw[this,w32 _ (Acg _ _)]
theorem Acs:Value.int .u64 0=S64 (fun _=>false):=by unfold S64;rw[Awb];rfl
theorem Ae5:Value.int .u32 0=S32 (fun _=>false):=by unfold S32;rw[Awb];rfl
theorem Aef(f:Nat->Bool):Abz .eql (S64 f) (.int .u64 0)=some (.bool (Aax f)):=by
 unfold S64 Aax;rw[Apc,Ak3]
theorem Ana(f:Nat->Bool):Abz .neq (S64 f) (.int .u64 0)=some (.bool (!Aax f)):=by
 unfold S64 Aax;rw[Azj,bne,Ak3]
theorem Anb(f:Nat->Bool):Abz .eql (S32 f) (.int .u32 0)=some (.bool (Abj f)):=by
 unfold S32 Abj;rw[Apc,Ak3]
theorem Atg(f:Nat->Bool):Abz .neq (S32 f) (.int .u32 0)=some (.bool (!Abj f)):=by
 unfold S32 Abj;rw[Azj,bne,Ak3]
theorem Ad6{n:Nat}(h:n<64):Abz .shl (.int .u64 1) (.int .i64 (n:Int))=some (S64 fun i=>decide (i=n)):=by
 rw[A52 h,Ai1 h];rfl
theorem Aj3{n:Nat}(h:n<32):Abz .shl (.int .u32 1) (.int .i64 (n:Int))=some (S32 fun i=>decide (i=n)):=by
 rw[A28 .u32 1 (n:Int) .i64 (by omega)]
 have e:min (Int.toNat (n:Int)) IntKind.u32.bits=n:=by
  show min (Int.toNat (n:Int)) 32=n
  omega
 rw[e]
 have e2:(1:Int)*2 ^ n=((2 ^ n:Nat):Int):=by simp
 rw[e2,w32 _ (Nat.pow_lt_pow_right (by omega) h),Ai1 h];rfl
theorem Apu(f:Nat->Bool)(n:Nat):Abz .shr (S64 f) (.int .i64 (n:Int))=some (S64 fun i=>decide (i+n<64)&&f (i+n)):=by
 unfold S64
 rw[Alp .u64 _ (n:Int) .i64 (by omega)]
 congr 2
 have e:(2:Int) ^ min (Int.toNat (n:Int)) IntKind.u64.bits=((2 ^ (min n 64):Nat):Int):=by
  have:min (Int.toNat (n:Int)) IntKind.u64.bits=min n 64:=by show min (Int.toNat (n:Int)) 64=min n 64;omega
  rw[this];simp
 rw[e,Int.fdiv_eq_ediv_of_nonneg _ (Int.natCast_nonneg _),<-Int.natCast_ediv,Am9]
 congr 1
 apply Ae1
 intro m hm
 by_cases h:n<=64
 ·rw[Nat.min_eq_left h]
 ·have h1:¬m+n<64:=by omega
  have h2:¬m+min n 64<64:=by omega
  simp[h1,h2]
theorem Al4(f:Nat->Bool)(n:Nat):Abz .shr (S32 f) (.int .i64 (n:Int))=some (S32 fun i=>decide (i+n<32)&&f (i+n)):=by
 unfold S32
 rw[Alp .u32 _ (n:Int) .i64 (by omega)]
 congr 2
 have e:(2:Int) ^ min (Int.toNat (n:Int)) IntKind.u32.bits=((2 ^ (min n 32):Nat):Int):=by
  have:min (Int.toNat (n:Int)) IntKind.u32.bits=min n 32:=by show min (Int.toNat (n:Int)) 32=min n 32;omega
  rw[this];simp
 rw[e,Int.fdiv_eq_ediv_of_nonneg _ (Int.natCast_nonneg _),<-Int.natCast_ediv,Am9]
 congr 1
 apply Ae1
 intro m hm
 by_cases h:n<=32
 ·rw[Nat.min_eq_left h]
 ·have h1:¬m+n<32:=by omega
  have h2:¬m+min n 32<32:=by omega
  simp[h1,h2]
theorem A6c(n:Nat)(f:Nat->Bool)(h:0<n):Aa0 f n&&& 1=if f 0 then 1 else 0:=by
 apply Nat.eq_of_testBit_eq;intro i
 have e:(1:Nat).testBit i=decide (i=0):=by
  have:=Nat.testBit_two_pow (n:=0) (m:=i)
  rw[Nat.pow_zero]at this
  rw[this];simp[eq_comm]
 rw[Nat.testBit_and,Abd,e]
 by_cases h2:i=0
 ·subst h2
  cases hf:f 0<;>simp[h]
 ·cases hf:f 0<;>simp[h2,e]
theorem Ayh(f:Nat->Bool):Abz .and (S64 f) (.int .u64 1)=some (I1 (f 0)):=by
 unfold S64 I1
 rw[Aq4,Agu]
 have e1:BitVec.ofInt IntKind.u64.bits 1=BitVec.ofNat 64 1:=rfl
 rw[e1]
 show some (Value.int _ (IntKind.u64.wrap ((BitVec.ofNat 64 (Aa0 f 64)&&& BitVec.ofNat 64 1).toNat:Int)))=_
 rw[BitVec.toNat_and,BitVec.toNat_ofNat,BitVec.toNat_ofNat,m64]
 have e2:1 % 2 ^ 64=1:=by decide
 rw[e2,A6c 64 f (by omega)]
 cases f 0<;>rfl
theorem A1i(b:Bool):Abz .eql (I1 b) (.int .u64 1)=some (.bool b):=by cases b<;>rfl
def I1p(b:Bool):Value:=.int .u32 (if b then 1 else 0)
theorem Al5(f:Nat->Bool):Abz .and (S32 f) (.int .u32 1)=some (I1p (f 0)):=by
 unfold S32 I1p
 rw[Aq4,Agv]
 have e1:BitVec.ofInt IntKind.u32.bits 1=BitVec.ofNat 32 1:=rfl
 rw[e1]
 show some (Value.int _ (IntKind.u32.wrap ((BitVec.ofNat 32 (Aa0 f 32)&&& BitVec.ofNat 32 1).toNat:Int)))=_
 rw[BitVec.toNat_and,BitVec.toNat_ofNat,BitVec.toNat_ofNat,m32]
 have e2:1 % 2 ^ 32=1:=by decide
 rw[e2,A6c 32 f (by omega)]
 cases f 0<;>rfl
theorem A6d(b:Bool):Abz .eql (I1p b) (.int .u32 1)=some (.bool b):=by cases b<;>rfl
theorem Ak4(b:Bool):Abz .eql (I1p b) (.int .u32 0)=some (.bool !b):=by cases b<;>rfl
theorem A6e(f:Nat->Bool)(H:Aaa):Aak (.i2i .u64 (S32 f)) H=some (S64 (fun i=>decide (i<32)&&f i),H):=by
 unfold S32 S64
 rw[A0b,w64 _ (Nat.lt_of_lt_of_le (Acg f 32) (Nat.pow_le_pow_right (by omega) (by omega)))]
 congr 4
 apply Nat.eq_of_testBit_eq;intro i
 rw[Abd,Abd]
 by_cases h:i<32
 ·have:i<64:=by omega
  simp[h,this]
 ·simp[h]
theorem Agx(f:Nat->Bool)(H:Aaa):Aak (.i2i .u32 (S64 f)) H=some (S32 f,H):=by
 unfold S32 S64
 rw[A0b,An5]
 congr 3
 have e:((Aa0 f 64:Nat):Int) % 4294967296=((Aa0 f 64 % 2 ^ 32:Nat):Int):=by omega
 rw[e]
 congr 1
 apply Nat.eq_of_testBit_eq;intro i
 rw[Nat.testBit_mod_two_pow,Abd,Abd]
 by_cases h:i<32
 ·have:i<64:=by omega
  simp[h,this]
 ·simp[h]
theorem Aci(f:Nat->Bool):one1 (S64 f)=True:=by simp[S64,one1,Aav]
theorem Ae2(f:Nat->Bool):one1 (S32 f)=True:=by simp[S32,one1,Aav]
theorem Be1(b:Bool):one1 (I1 b)=True:=by simp[I1,one1,Aav]
theorem Abn(f:Nat->Bool):(S64 f).oneCell'=true:=rfl
theorem Ab3(f:Nat->Bool):(S32 f).oneCell'=true:=rfl
theorem Abk{f g:Nat->Bool}(h:∀i,i<64->f i=g i):S64 f=S64 g:=by unfold S64;rw[Ae1 h]
theorem A1j{f g:Nat->Bool}(h:∀i,i<32->f i=g i):S32 f=S32 g:=by unfold S32;rw[Ae1 h]
theorem gci{P:Program}{ng:Nat}{f:FuncId}{xs:List Value}{H:Aaa}{k:IntKind}{n:Int}(h:∃w H',Aaq P ng f xs H w H'/\w=.int k n/\Aac H H'):∃w H',Aaq P ng f xs H w H'/\w=.int k n/\H'=H:=by
 obtain⟨_,_,a,rfl,k⟩:=h
 exact⟨_,_,a.gc0 k (.inr (.int _ _)),rfl,rfl⟩
set_option linter.defProp false in
def O4:=And.intro @Aci (And.intro @Ae2 (And.intro @Abn @Ab3))
def ro(L:Ly)(i:Nat):Ro:=L.r.getD i rv0.r
def cf(L:Ly)(i k:Nat):Bool:=Ac8 L (ro L i) (ro L k)
def dn(i k a b:Nat):Bool:=decide (a<i)||(decide (a=i)&&decide (b<k))
def tb_(L:Ly)(i k j m:Nat):Bool:=(decide (m<j)&&dn i k j m&&cf L j m)||(decide (j<m)&&dn i k m j&&cf L m j)
def tR(L:Ly)(i k j:Nat):Nat:=Aa0 (tb_ L i k j) 64
theorem A1c(L:Ly)(i j:Nat):tR L i i j=tR L (i+1) 0 j:=by
 apply Ae1
 intro m hm
 unfold tb_ dn
 by_cases h1:m<j
 ·have h2:¬j<m:=by omega
  simp only[h1,h2,decide_true,decide_false,Bool.true_and,Bool.false_and,Bool.or_false]
  congr 1
  by_cases h3:j<i
  ·have:j<i+1:=by omega
   simp[h3,this]
  ·by_cases h4:j=i
   ·subst h4;simp[h1]
   ·have:¬j<i+1:=by omega
    simp[h3,h4,this]
 ·by_cases h2:j<m
  ·simp only[h1,h2,decide_true,decide_false,Bool.true_and,Bool.false_and,Bool.false_or]
   congr 1
   by_cases h3:m<i
   ·have:m<i+1:=by omega
    simp[h3,this]
   ·by_cases h4:m=i
    ·subst h4;simp[h2]
    ·have:¬m<i+1:=by omega
     simp[h3,h4,this]
  ·simp[h1,h2]
theorem Ak1(L:Ly){i k j:Nat}(hk:k<i):∀m,tb_ L i (k+1) j m=(tb_ L i k j m||(decide (j=i)&&decide (m=k)&&cf L i k)||(decide (j=k)&&decide (m=i)&&cf L i k)):=by
 intro m
 unfold tb_ dn
 by_cases e1:j=i
 ·subst e1
  by_cases e2:m=k
  ·subst e2
   have a1:¬j<m:=by omega
   simp[hk,a1]
  ·have a1:decide (m<k+1)=decide (m<k):=by by_cases h:m<k<;>simp[h]<;>omega
   have a2:¬j=k:=by omega
   by_cases h:j<m
   ·have:¬m<j:=by omega
    have:¬m=j:=by omega
    simp[*]
   ·simp[*]
 ·by_cases e3:j=k
  ·subst e3
   by_cases e4:m=i
   ·subst e4
    have a1:¬m<j:=by omega
    simp[hk,a1];try omega
   ·simp[e1,e4]
  ·have a2:decide (j<k+1)=decide (j<k):=by by_cases h:j<k<;>simp[h]<;>omega
   simp[e1,e3,a2]
theorem Av8{l k:List Int}:(l.any fun s=>k.contains s)=k.any fun s=>l.contains s:=by
 rw[Bool.eq_iff_iff]
 simp only[List.any_eq_true,List.contains_iff_mem]
 exact⟨fun⟨x,a,b⟩=>⟨x,b,a⟩,fun⟨x,a,b⟩=>⟨x,b,a⟩⟩
theorem Alx(L:Ly)(a b:Ro):Ac8 L a b=Ac8 L b a:=by
 have h1:(a.g==b.g)=(b.g==a.g):=by rw[Bool.eq_iff_iff];simp only[beq_iff_eq];exact eq_comm
 have h2:∀p,cPt L a b p=cPt L b a p:=by
  intro p
  unfold cPt
  have e:(Abp (p:Int) (nds a)==Abp (p:Int) (nds b))=(Abp (p:Int) (nds b)==Abp (p:Int) (nds a)):=by rw[Bool.eq_iff_iff];simp only[beq_iff_eq];exact eq_comm
  simp only[e]
  congr 1
  generalize(Abp (p:Int) (nds a)).isSome=x
  generalize(Abp (p:Int) (nds b)).isSome=y
  generalize(trk b).contains _=u
  generalize(trk a).contains _=v
  cases x<;>cases y<;>cases u<;>cases v<;>rfl
 unfold Ac8
 rw[h1,Av8,funext h2]
def Bak(L:Ly)(j:Nat):Nat:=Aa0 (fun m=>decide (m≠j)&&cf L j m) L.r.length
theorem A53(L:Ly){j:Nat}(hj:j<L.r.length)(hl:L.r.length<=64):tR L L.r.length 0 j=Bak L j:=by
 apply Nat.eq_of_testBit_eq
 intro m
 rw[tR,Bak,Abd,Abd]
 unfold tb_ dn
 by_cases h1:m<L.r.length
 ·have h2:m<64:=by omega
  by_cases h3:m<j
  ·have h5:¬j<m:=by omega
   have h6:¬m=j:=by omega
   simp[h1,h2,h3,h5,h6,hj]
  ·by_cases h4:j<m
   ·have:m≠j:=by omega
    simp only[h1,h2,h3,h4,this,decide_true,decide_false,Bool.true_and,Bool.false_and,Bool.false_or,Bool.true_or,Bool.and_true]
    simp only[cf]
    have h7:¬m=j:=by omega
    rw[Alx];simp[h7]
   ·have e:m=j:=by omega
    subst e
    simp
 ·simp only[h1,decide_false,Bool.false_and]
  by_cases h3:m<j
  ·omega
  ·have:¬j<m\/j<m:=by omega
   simp[h1,h3]
def tc(L:Ly)(i k n:Nat):List Value:=(List.range n).map fun j=>S64 (tb_ L i k j)
theorem Ayd(L:Ly)(i k n:Nat):(tc L i k n).length=n:=by simp[tc]
theorem Aly(L:Ly)(i k:Nat){n j:Nat}(h:j<n):(tc L i k n)[j]? =some (S64 (tb_ L i k j)):=by simp[tc,h]
theorem tc_0(L:Ly)(n:Nat):List.replicate n (.int .u64 0)=tc L 0 0 n:=by
 apply List.ext_getElem?
 intro j
 by_cases h:j<n
 ·rw[Aly _ _ _ h,List.getElem?_replicate,if_pos h,Acs]
  congr 1
  exact Abk fun m hm=>by simp[tb_,dn]
 ·simp[tc,h]
theorem A1d(L:Ly)(i n:Nat):tc L i i n=tc L (i+1) 0 n:=by
 unfold tc
 congr 1
 funext j
 have:=A1c L i j
 unfold tR at this
 unfold S64
 rw[this]
theorem Bal(L:Ly){i k n:Nat}(hk:k<i)(hc:cf L i k=false):tc L i k n=tc L i (k+1) n:=by
 unfold tc
 congr 1
 funext j
 apply Abk
 intro m hm
 rw[Ak1 L hk,hc];simp
theorem A54(L:Ly){i k n:Nat}(hk:k<i)(hi:i<n)(hc:cf L i k=true){f g:Nat->Bool}(hf:∀m,f m=(tb_ L i k i m||decide (m=k)))(hg:∀m,g m=(tb_ L i k k m||decide (m=i))):
 ((tc L i k n).set i (S64 f)).set k (S64 g)=tc L i (k+1) n:=by
 apply List.ext_getElem?
 intro j
 rw[List.getElem?_set,List.getElem?_set]
 simp only[List.length_set,Ayd]
 by_cases e1:k=j
 ·subst e1
  have h1:k<n:=by omega
  have h2:¬k=i:=by omega
  rw[if_pos rfl,if_pos h1,Aly _ _ _ h1]
  congr 1
  apply Abk
  intro m hm
  rw[Ak1 L hk,hc,hg]
  simp[h2]
 ·rw[if_neg e1]
  by_cases e2:i=j
  ·subst e2
   rw[if_pos rfl,if_pos hi,Aly _ _ _ hi]
   congr 1
   apply Abk
   intro m hm
   have:¬i=k:=by omega
   rw[Ak1 L hk,hc,hf]
   simp[this]
  ·rw[if_neg e2]
   by_cases h:j<n
   ·rw[Aly _ _ _ h,Aly _ _ _ h]
    congr 1
    apply Abk
    intro m hm
    have e3:¬j=k:=fun e=>e1 e.symm
    have e4:¬j=i:=fun e=>e2 e.symm
    rw[Ak1 L hk,hc]
    simp[e3,e4]
   ·simp[tc,h]
def Ahr(L:Ly)(j m:Nat):Bool:=decide (m<L.r.length)&&(decide (m≠j)&&cf L j m)
def A2k(L:Ly):List Value:=(List.range L.r.length).map fun j=>S64 (Ahr L j)
theorem A55(L:Ly)(hl:L.r.length<=64):tc L L.r.length 0 L.r.length=A2k L:=by
 apply List.ext_getElem?
 intro j
 by_cases h:j<L.r.length
 ·rw[Aly _ _ _ h]
  simp only[A2k,List.getElem?_map,List.getElem?_range h,Option.map_some]
  congr 1
  have:=A53 L h hl
  unfold tR Bak at this
  apply Abk
  intro m hm
  have e:=Abd (tb_ L L.r.length 0 j) m 64
  rw[this,Abd]at e
  simp only[hm,decide_true,Bool.true_and]at e
  rw[<-e];rfl
 ·simp[tc,A2k,h]
theorem Acn{L:Ly}{i:Nat}(h:i<L.r.length):ro L i=L.r[i]:=by unfold ro;rw[List.getD_eq_getElem?_getD,List.getElem?_eq_getElem h];rfl
theorem Af3{H:Aaa}{u:V4}{xs:List RV}{L:Ly}(h:LyR H u xs L){i:Nat}(hi:i<L.r.length):(xs.getD i rv0).r=ro L i/\(xs.getD i rv0).ok H:=by
 have hl:i<xs.length:=by have:=h.e;rw[<-this]at hi;simpa using hi
 have e0:xs.getD i rv0=xs[i]:=by rw[List.getD_eq_getElem?_getD,List.getElem?_eq_getElem hl];rfl
 rw[e0]
 refine⟨?_,h.ok _ (List.getElem_mem hl)⟩
 rw[Acn hi]
 have e:=congrArg (fun l:List Ro=>l[i]?) h.e
 simp only[List.getElem?_map,List.getElem?_eq_getElem hl,List.getElem?_eq_getElem hi,Option.map_some]at e
 exact Option.some.inj e
theorem t118{H:Aaa}{u:V4}{xs:List RV}{L:Ly}(h:LyR H u xs L)(hf:Ah5 9223372036854775807 L):
 ∃w H',Aaq Tryz.prog 0 118 [.agg u.l.toArray] H w H'/\Aac H H'/\(Aan L≠0->w=.tuple #[.slice none 0 0,.int .i64 (Aan L)])∧
  (Aan L=0->∃b,w=.tuple #[slc b 0 L.r.length L.r.length,.int .i64 0]/\H.n<=b/\H'.get b=some (.cells true false 1 (A2k L) 39)):=by
 refine Aam Bbx ?_
 intro Q hq1 hq2
 have os:=Sl.one h.s
 have op:=Sl.one h.p
 have og:=Sl.one h.g
 have or:=Sl.one h.r
 have ir:=Sl.is h.r
 have kA:=(Aac.refl H).alloc (.cells true false 4 u.l 27)
 have gA:=Aaa.Bfd H (.cells true false 4 u.l 27)
 have hA:=h.keeps kA
 have tC:=t30 hA hf
 have hul:u.l=[u.s,u.p,u.g,u.r]:=rfl
 simp only[hul]at kA gA tC hA ⊢
 simp(disch:=first|assumption|omega|(simp only[LN]<;>omega)|(simp(disch:=first|assumption|omega|(simp only[LN]<;>omega))only[Aab,Aad];assumption))only[Bbx,P4,seval,os,op,og,or]
 refine Aae tC ?_
 rintro _ X ⟨hX,ie,rfl⟩
 rw[hX]
 by_cases he:Aan L=0
 case neg=>
  have e1:(Aan L != 0)=true:=by simp[he]
  simp(disch:=first|assumption|omega)only[P4,seval,e1]
  exact hq2 _ _ ⟨_,rfl,kA,fun _=>rfl,fun e=>absurd e he⟩
 case pos=>
 have hmay:Aew L=true:=by
  unfold Aan at he
  cases hm:Aew L with
  |true=>rfl
  |false=>rw[hm]at he;cases he
 have hL:=Aa1 hmay
 have hrl:=h.rlen
 have hlr:=hL.r
 have e1:(Aan L != 0)=false:=by simp[he]
 obtain⟨K0,hK0⟩:∃X,X=H.alloc (.cells true false 4 [u.s,u.p,u.g,u.r] 27):=⟨_,rfl⟩
 have n0:K0.n=H.n+1:=by rw[hK0];rfl
 rw[<-hK0]at kA gA hA
 have lr:=h.r.len
 obtain⟨n,hn⟩:∃n,L.r.length=n:=⟨_,rfl⟩
 have hmk:Aak (.mksl 39 1 8 [.int .u64 0] (.int .i64 ((n:Nat):Int)) (.int .i64 ((n:Nat):Int))) K0=some (slc K0.n 0 n n,K0.alloc (.cells true false 1 (tc L 0 0 n) 39)):=by
  simp only[Aak]
  rw[if_pos ⟨by omega,by omega,by omega,by omega,rfl,rfl⟩,Int.toNat_natCast,List.flatten_replicate_singleton,tc_0 L]
 rw[hrl,hn]at lr
 have hmk':=hmk
 rw[hK0]at hmk'
 simp(disch:=first|assumption|omega|(simp only[LN]<;>omega)|(simp(disch:=first|assumption|omega|(simp only[LN]<;>omega))only[Aab,Aad];assumption))only[P3,seval,Aah,Aao,e1,gA,lr,ir,hmk']
 rw[<-hK0]
 have mk0:=(Aac.refl K0).alloc (.cells true false 1 (tc L 0 0 n) 39)
 have mg0:=Aaa.Bfd K0 (.cells true false 1 (tc L 0 0 n) 39)
 rw[n0]at mg0
 rw[Aag]
 refine Aal (fun q fr M=>∃i x6 x7 x8 x13 x14 x15 x16 x17,fr=[.agg #[u.s,u.p,u.g,u.r],ptr H.n 0,.slice none 0 0,.int .i64 0,.int .i64 (Aan L),slc (H.n+1) 0 n n,x6,x7,x8,.bool false,u.r,.int .i64 ((n:Nat):Int),.int .i64 ((i:Nat):Int),x13,x14,x15,x16,x17]∧
  Aac K0 M/\M.get (H.n+1)=some (.cells true false 1 (tc L i 0 n) 39)/\i<=n/\q=n-i) n
  ⟨0,_,_,_,_,_,_,_,_,rfl,mk0,mg0,by omega,rfl⟩ ?_
 rintro Q' q fr M ⟨i,x6,x7,x8,x13,x14,x15,x16,x17,rfl,km,gm,hi,rfl⟩ hn' hx' hret
 by_cases hlt:i<n
 ·obtain⟨hyr,hyo⟩:=Af3 h (i:=i) (by omega)
  obtain⟨na,ra⟩:=(h.r.keeps (kA.trans km)).at_ (i:=i) (by omega)
  have hlim:=Ahq hmay (List.getElem_mem (show i<L.r.length by omega))
  rw[<-Acn (show i<L.r.length by omega),<-hyr]at hlim
  generalize xs.getD i rv0=y at*
  have h0:(0:Int)<=(i:Int):=by omega
  have h1:(i:Int)<((n:Nat):Int):=by omega
  have hw:=wrS (i:=i) (by omega)
  have rowy:y.row=[.string ⟨y.r.n.toArray⟩,.int .i64 y.r.g,y.vp,y.vq,y.vo,y.vf]:=rfl
  obtain⟨a3,a4,a5,a6⟩:=RV.ones hyo
  have a1:one1 (Value.int .i64 y.r.g)=True:=by simp[one1,Aav]
  have a2:one1 (Value.string ⟨y.r.n.toArray⟩)=True:=by simp[one1,Abc]
  obtain⟨M1,hM1⟩:∃X,X=M.alloc (.cells true false 6 y.row 87):=⟨_,rfl⟩
  have m1:M1.n=M.n+1:=by rw[hM1];rfl
  have km1:Aac K0 M1:=by rw[hM1];exact km.alloc _
  have gm1:M1.get (H.n+1)=some (.cells true false 1 (tc L i 0 n) 39):=by rw[hM1];exact((Aac.refl M).alloc _).at_ gm
  have gy1:M1.get M.n=some (.cells true false 6 y.row 87):=by rw[hM1];exact Aaa.Bfd M _
  have hMn:=Aaa.Bfg gm
  have kmn:=km.n
  simp only[rowy]at ra hM1 gy1
  simp(disch:=first|assumption|omega)only[P3,seval,Aah,Aao,h1]
  rw[Aag]
  simp(disch:=first|assumption|omega|(simp only[LN]<;>omega)|(simp(disch:=first|assumption|omega|(simp only[LN]<;>omega))only[Aab,Aad];assumption))only[P3,seval,Aah,Aao,lr,ra,na,Aai,a1,a2,a3,a4,a5,a6]
  rw[<-hM1,Aag]
  refine Aal (fun q fr K=>∃k x8 x16 x17,fr=[.agg #[u.s,u.p,u.g,u.r],ptr H.n 0,.slice none 0 0,.int .i64 0,.int .i64 (Aan L),slc (H.n+1) 0 n n,.int .i64 ((i:Nat):Int),ptr M.n 0,x8,.bool false,u.r,.int .i64 ((n:Nat):Int),.int .i64 ((i:Nat):Int),.bool true,.int .i64 ((i:Nat):Int),.int .i64 ((k:Nat):Int),x16,x17]∧
   Aac K0 K/\M.n<K.n/\K.get M.n=M1.get M.n/\K.get (H.n+1)=some (.cells true false 1 (tc L i k n) 39)/\k<=i/\q=i-k) i
   ⟨0,_,_,_,rfl,km1,by omega,rfl,gm1,by omega,rfl⟩ ?_
  rintro Q2 q fr K ⟨k,x8,x16,x17,rfl,kk,gn,gy,go,hk,rfl⟩ hn2 hx2 hret2
  by_cases hlk:k<i
  ·obtain⟨hzr,hzo⟩:=Af3 h (i:=k) (by omega)
   obtain⟨nb,rb⟩:=(h.r.keeps (kA.trans kk)).at_ (i:=k) (by omega)
   have zlim:=Ahq hmay (List.getElem_mem (show k<L.r.length by omega))
   rw[<-Acn (show k<L.r.length by omega),<-hzr]at zlim
   generalize xs.getD k rv0=z at*
   have rowz:z.row=[.string ⟨z.r.n.toArray⟩,.int .i64 z.r.g,z.vp,z.vq,z.vo,z.vf]:=rfl
   have h2:((k:Nat):Int)<((i:Nat):Int):=by omega
   have h3:(0:Int)<=(k:Int):=by omega
   have h4:((k:Nat):Int)<((n:Nat):Int):=by omega
   have hw2:=wrS (i:=k) (by omega)
   have gA2:=kk.at_ gA
   have gyk:=gy.trans gy1
   have cC:=t67 ((h.keeps kA).keeps kk) ((hyo.keeps kA).keeps kk) ((hzo.keeps kA).keeps kk) hlim zlim hL
   simp only[rowy,rowz,hul]at cC rb
   simp(disch:=first|assumption|omega|(simp only[LN]<;>omega)|(simp(disch:=first|assumption|omega|(simp only[LN]<;>omega))only[Aab,Aad];assumption))only[P4,seval,h2,gA2,gyk,lr,nb,rb,Aai]
   refine Aae cC ?_
   rintro _ X ⟨rfl,hX⟩
   rw[hX]
   rw[hyr,hzr]
   show _
   have hcf:Ac8 L (ro L i) (ro L k)=cf L i k:=rfl
   rw[hcf]
   have hgl:=Aaa.Bfg go
   cases hc:cf L i k with
   |false=>
    simp(disch:=first|assumption|omega)only[P4,seval,hw2]
    rw[Bal L hlk hc]at go
    exact hn2 _ _ _ ⟨k+1,_,_,_,rfl,kk,gn,gy,go,by omega,rfl⟩ (by omega)
   |true=>
    have t1:=Aly L i k (show i<n by omega)
    have t2:=Aly L i k (show k<n by omega)
    have t3:∀v:Value,((tc L i k n).set i v)[k]? =some (S64 (tb_ L i k k)):=fun v=>by rw[List.getElem?_set_ne (by omega),t2]
    have s1:=Ad6 (show i<64 by omega)
    have s2:=Ad6 (show k<64 by omega)
    have i1:i<n:=hlt
    have i2:k<n:=by omega
    have g3:∀o,(K.set (H.n+1) o).get (H.n+1)=some o:=fun o=>Aaa.Bfe go o
    simp(disch:=first|assumption|omega)only[P4,seval,hw2,go,t1,t2,t3,s1,s2,Agw,Abn,Aci,List.length_set,Ayd,i1,i2,g3,Int.toNat_natCast,Nat.mul_one,Nat.zero_add]
    rw[A54 L hlk hlt hc (fun _=>rfl) (fun _=>rfl)]
    exact hn2 _ _ _ ⟨k+1,_,_,_,rfl,kk.set (by omega) hgl _,gn,by rw[Aaa.Bff K (by omega) hgl];exact gy,Aaa.Bfe go _,by omega,rfl⟩ (by omega)
  ·have h2:¬((k:Nat):Int)<((i:Nat):Int):=by omega
   have hki:k=i:=by omega
   subst hki
   simp(disch:=first|assumption|omega)only[P4,seval,h2]
   refine hx2 _ _ _ ?_
   simp(disch:=first|assumption|omega)only[P4,seval,hw]
   rw[A1d]at go
   exact hn' _ _ _ ⟨k+1,_,_,_,_,_,_,_,_,rfl,kk,go,by omega,rfl⟩ (by omega)
 ·have h1:¬((i:Nat):Int)<((n:Nat):Int):=by omega
  have hin:i=n:=by omega
  subst hin
  simp(disch:=first|assumption|omega)only[P4,seval,h1]
  subst hn
  rw[A55 L (by omega)]at gm
  refine hx' _ _ _ ?_
  simp(disch:=first|assumption|omega)only[P4,seval]
  exact hq2 _ _ ⟨_,rfl,kA.trans km,fun e=>absurd he e,fun _=>⟨_,rfl,by omega,gm⟩⟩
end Go.AM.Fd
namespace Go.AM.F
def Bca:List Value:=[(.int .u64 0),(.int .u64 0),(.int .u64 0)]++List.replicate 64 (.int .u8 0)++[(.int .u32 0)]
def Bcb:List Nat:=List.replicate 68 1
def Axx:TypeId->List Value
 |39=>[(.int .u64 0)]
 |167=>[(.slice none 0 0),(.slice none 0 0),(.int .u64 0),(.int .u32 0),(.int .u64 0)]
 |87=>[(.string ByteArray.empty),(.int .i64 0),(.slice none 0 0),(.slice none 0 0),(.slice none 0 0),(.slice none 0 0)]
 |207=>[(.int .u64 0),(.int .u64 0),(.int .u64 0),(.int .u32 0),(.int .u32 0),(.int .u64 0)]
 |120=>[(.int .i64 0),(.bool false)]
 |89=>[(.string ByteArray.empty),(.int .i64 0)]
 |171=>[(.slice none 0 0),(.slice none 0 0),(.int .u64 0),(.int .u32 0),(.int .u64 0)]
 |43=>Bca
 |_=>[]
def Axy:TypeId->Value
 |_=>undef
def Axz:TypeId->List Nat
 |43=>Bcb
 |_=>[]
def Ax0:Nat->TypeId->List Value
 |1,207=>[(.int .u64 0),(.int .u64 0),(.int .u64 0),(.int .u32 0),(.int .u32 0),(.int .u64 0)]
 |1,39=>[(.int .u64 0)]
 |_,_=>[]
structure QzF (sl:List Nat) (n:Nat) where
 p:CzV sl n:=by
  refine(fun(_:Cz Axx Axy Axz Ax0 Go.Proofs.Tryz.prog 0 ?sl ?n ?a)=>(CzV.mk ?a:CzV ?sl ?n)) ?h
  case h=>
  intro zc zv zk zr hc hv hk hr
  conv=>lhs;cbv;try simp only[hc,hv,hk,hr,Axx,Axy,Axz,Ax0]
noncomputable def A7t:=({}:QzF [0,1,4] 184).p.a
noncomputable def A7u:=({}:QzF [0,2,8] 137).p.a
noncomputable def Bcc:=({}:QzF [0,1,4] 121).p.a
noncomputable def Bcd:=({}:QzF [0,2,3,5,6,7,8,9] 120).p.a
noncomputable def A7v:=({}:QzF [0,2,3,6] 119).p.a
noncomputable def Bce:Af8:=by
 refine(fun(_:Cz Axx Axy Axz Ax0 Go.Proofs.Tryz.prog 0 [0,1,2,4,5,6,12,13] 190 ?a)=>?a) ?h
 case h=>
 intro zc zv zk zr hc hv hk hr
 have e0A:=(rfl:rfA Go.Proofs.Tryz.prog 190 0=rfA Go.Proofs.Tryz.prog 190 0);conv at e0A=>rhs;cbv
 have e0B:=(rfl:rfB Go.Proofs.Tryz.prog 190 0=rfB Go.Proofs.Tryz.prog 190 0);conv at e0B=>rhs;cbv
 conv=>lhs;cbv;try simp only[hc,hv,hk,hr,Axx,Axy,Axz,Ax0];simp only[<-e0A,<-e0B]
noncomputable def Am4:Ab8:=by
 refine(fun(_:CzC Axx Axy Axz Ax0 Go.Proofs.Tryz.prog 0 21 [0,1,2,4,5,6,12,13] (rfA Go.Proofs.Tryz.prog 190 0) ?a)=>?a) ?h
 case h=>intro zc zv zk zr hc hv hk hr;conv=>lhs;cbv;try simp only[hc,hv,hk,hr,Axx,Axy,Axz,Ax0]
theorem Apn:Acp Go.Proofs.Tryz.prog 0 21 [0,1,2,4,5,6,12,13] (rfA Go.Proofs.Tryz.prog 190 0)=some Am4:=by kernel_rfl
noncomputable def Ass:Ab8:=by
 refine(fun(_:CzC Axx Axy Axz Ax0 Go.Proofs.Tryz.prog 0 21 [0,1,2,4,5,6,12,13] (rfB Go.Proofs.Tryz.prog 190 0) ?a)=>?a) ?h
 case h=>intro zc zv zk zr hc hv hk hr;conv=>lhs;cbv;try simp only[hc,hv,hk,hr,Axx,Axy,Axz,Ax0]
theorem Apo:Acp Go.Proofs.Tryz.prog 0 21 [0,1,2,4,5,6,12,13] (rfB Go.Proofs.Tryz.prog 190 0)=some Ass:=by kernel_rfl
theorem Av3:(Ah2 (rfA Go.Proofs.Tryz.prog 190 0)&&Ah2 (rfB Go.Proofs.Tryz.prog 190 0))=true:=by kernel_rfl
noncomputable def Bcf:=({}:QzF [0,1,2] 192).p.a
noncomputable def Bcg:=({}:QzF [0,1,3,4,5,15] 194).p.a
noncomputable def Bch:=({}:QzF [0,2] 182).p.a
noncomputable def f92:=({}:QzF [0,1,2,3,4,5,6,7,8,9,11,13,20,38,39,40,41,67,68,69,70,74,98,99,100,101] 92).p.a
noncomputable def Bci:=({}:QzF [0,1,2,3,6,7,8,9,11,12,13,14,20] 185).p.a
noncomputable def Bcj:=({}:QzF [0,1,2] 186).p.a
noncomputable def Bck:=({}:QzF [0,1,2] 187).p.a
noncomputable def Bcl:=({}:QzF [0,1,2,3,6,7,8,9,11,12,13,14,20] 188).p.a
noncomputable def Bcm:=({}:QzF [0,1,2] 189).p.a
noncomputable def Bcn:=({}:QzF [0,1,2,4,5] 174).p.a
noncomputable def Bco:=({}:QzF [0,1,2,4] 175).p.a
noncomputable def f60:=({}:QzF [0,1,2,3,4,5,12] 60).p.a
noncomputable def Bcp:=({}:QzF [0,1,3,4,5,6,8,41,42,43,52] 173).p.a
noncomputable def Bcq:=({}:QzF [0,1,3,4,5,6,15] 170).p.a
end Go.AM.F
namespace Go.AM.Fd
open Nat (reduceAdd reduceEqDiff reduceLT reduceLeDiff reduceMul reduceSub)
open Go.Proofs Go.AM.F
def Abx(f:Nat->Bool)(n:Int):Bool:=decide (0<=n)&&(decide (n<64)&&f n.toNat)
def Acu(n:Int)(i:Nat):Bool:=decide ((i:Int)=n)
theorem A72{H:Aaa}(f:Nat->Bool)(n:Int):∃w H',Aaq Tryz.prog 0 184 [S64 f,.int .i64 n] H w H'/\w=.bool (Abx f n)/\H'=H:=by
 refine Aam A7t ?_
 intro Q hq1 hq2
 unfold Abx at hq1 hq2
 by_cases h1:0<=n
 ·by_cases h2:n<64
  ·obtain⟨m,rfl⟩:∃m:Nat,n=(m:Int):=⟨n.toNat,by omega⟩
   have h3:m<64:=by omega
   simp(disch:=first|assumption|omega)only[A7t,P4,seval,h1,h2,Apu,Ayh,A1i,Aci,Be1]
   refine hq2 _ _ ⟨.bool _,rfl,?_,rfl⟩
   simp;intro _;omega
  ·simp(disch:=first|assumption|omega)only[A7t,P4,seval,h1,h2]
   exact hq2 _ _ ⟨.bool _,rfl,by simp[h2],rfl⟩
 ·simp(disch:=first|assumption|omega)only[A7t,P4,seval,h1]
  exact hq2 _ _ ⟨.bool _,rfl,by simp[h1],rfl⟩
theorem Bex{H:Aaa}(n:Int):∃w H',Aaq Tryz.prog 0 137 [.int .i64 n] H w H'/\w=S64 (Acu n)/\H'=H:=by
 refine Aam A7u ?_
 intro Q hq1 hq2
 have hz:n<0\/64<=n->Value.int .u64 0=S64 (Acu n):=fun h=>by
  rw[Acs];apply Abk;intro i hi;simp[Acu];omega
 by_cases h1:n<0
 ·simp(disch:=first|assumption|omega)only[A7u,P4,seval,h1]
  exact hq2 _ _ ⟨.int .u64 0,rfl,hz (.inl h1),rfl⟩
 ·by_cases h2:64<=n
  ·simp(disch:=first|assumption|omega)only[A7u,P4,seval,h1,h2]
   exact hq2 _ _ ⟨.int .u64 0,rfl,hz (.inr h2),rfl⟩
  ·obtain⟨m,rfl⟩:∃m:Nat,n=(m:Int):=⟨n.toNat,by omega⟩
   have h3:=Ad6 (show m<64 by omega)
   simp(disch:=first|assumption|omega)only[A7u,P4,seval,h1,h2,h3,Aci]
   refine hq2 _ _ ⟨S64 _,rfl,?_,rfl⟩
   apply Abk;intro i hi;simp only[Acu,Int.ofNat_inj]
theorem Bam{H:Aaa}(f:Nat->Bool)(n:Int):∃w H',Aaq Tryz.prog 0 121 [S64 f,.int .i64 n] H w H'/\w=S64 (fun i=>f i||Acu n i)/\H'=H:=by
 refine Aam Bcc ?_
 intro Q hq1 hq2
 simp(disch:=first|assumption|omega)only[Bcc,P4,seval]
 refine Aat (Bex n) ?_
 simp(disch:=first|assumption|omega)only[P4,seval,Agw,Aci]
 exact hq2 _ _ ⟨_,rfl,rfl,rfl⟩
theorem Av9{H:Aaa}(n:Int):∃w H',Aaq Tryz.prog 0 121 [.int .u64 0,.int .i64 n] H w H'/\w=S64 (Acu n)/\H'=H:=by
 obtain⟨w,H',r,e1,e2⟩:=Bam (H:=H) (fun _=>false) n
 rw[<-Acs]at r
 exact⟨w,H',r,by rw[e1];exact Abk fun i _=>by simp,e2⟩
theorem t120{H:Aaa}{v:Value}{l:List Int}(h:IL H v l)(hl:l.length<=1000000):∃w H',Aaq Tryz.prog 0 120 [v] H w H'/\w=S64 (fun i=>l.contains (i:Int))/\H'=H:=by
 refine Aam Bcd ?_
 intro Q hq1 hq2
 have len:=h.len
 have is:=Sl.is h
 simp(disch:=first|assumption|omega)only[Bcd,P3,seval,Aah,Aao,len,is]
 rw[Aag]
 refine Aal (fun q fr M=>∃i x3 x7,fr=[v,.int .u64 0,S64 (fun j=>(l.take i).contains (j:Int)),x3,v,.int .i64 ((l.length:Nat):Int),.int .i64 ((i:Nat):Int),x7]/\M=H/\i<=l.length/\q=l.length-i) l.length
  ⟨0,_,_,by simp only[List.take_zero];rw[Acs];rfl,rfl,by omega,rfl⟩ ?_
 rintro Q' q fr M ⟨i,x3,x7,rfl,rfl,hi,rfl⟩ hn' hx' hret
 by_cases hlt:i<l.length
 ·obtain⟨na,ra⟩:=h.at_ hlt
  have h0:(0:Int)<=(i:Int):=by omega
  have h1:(i:Int)<((l.length:Nat):Int):=by omega
  have hw:=wrS (i:=i) (by omega)
  simp(disch:=first|assumption|omega)only[P4,seval,h1,len,na,ra,Aaj]
  refine Aat (Bex _) ?_
  simp(disch:=first|assumption|omega)only[P4,seval,Agw,Aci,hw]
  refine hn' _ _ _ ⟨i+1,.int .i64 (l.getD i 0),.bool true,?_,rfl,by omega,rfl⟩ (by omega)
  congr 3
  apply Abk
  intro j hj
  rw[List.take_add_one,List.getElem?_eq_getElem hlt]
  simp only[Acu,List.getD_eq_getElem?_getD,List.getElem?_eq_getElem hlt,Option.getD_some,Option.toList_some]
  rw[List.contains_append]
  simp
 ·have h1:¬((i:Nat):Int)<((l.length:Nat):Int):=by omega
  have hin:i=l.length:=by omega
  subst hin
  simp(disch:=first|assumption|omega)only[P4,seval,h1]
  refine hx' _ _ _ ?_
  simp(disch:=first|assumption|omega)only[P4,seval]
  exact hq2 _ _ ⟨S64 _,rfl,by rw[List.take_length],rfl⟩
theorem A1e{n:Nat}(h:n<64):2 ^ n-1=Aa0 (fun i=>decide (i<n)) 64:=by
 apply Nat.eq_of_testBit_eq
 intro i
 rw[Nat.testBit_two_pow_sub_one,Abd]
 by_cases hi:i<n
 ·have:i<64:=by omega
  simp[hi,this]
 ·simp[hi]
theorem A56{n:Nat}(h:n<64):Abz .sub (S64 fun i=>decide (i=n)) (.int .u64 1)=some (S64 fun i=>decide (i<n)):=by
 unfold S64
 rw[<-Ai1 h,A26,<-A1e h]
 have hp:0<2 ^ n:=Nat.pow_pos (by omega)
 have hu:=A1b h
 have e:((2 ^ n:Nat):Int)-1=((2 ^ n-1:Nat):Int):=by omega
 rw[e,w64 _ (by have:(2:Nat) ^ 64=U:=rfl;omega)]
theorem A57:Value.int .u64 18446744073709551615=S64 (fun _=>true):=by
 unfold S64
 have:Aa0 (fun _=>true) 64=2 ^ 64-1:=by
  apply Nat.eq_of_testBit_eq
  intro i
  rw[Nat.testBit_two_pow_sub_one,Abd];simp
 rw[this];rfl
def Abr(n:Int)(i:Nat):Bool:=decide ((i:Int)<n)
theorem A73{H:Aaa}(n:Int):∃w H',Aaq Tryz.prog 0 119 [.int .i64 n] H w H'/\w=S64 (Abr n)/\H'=H:=by
 refine Aam A7v ?_
 intro Q hq1 hq2
 by_cases h1:n<=0
 ·simp(disch:=first|assumption|omega)only[A7v,P4,seval,h1]
  exact hq2 _ _ ⟨.int .u64 0,rfl,by rw[Acs];apply Abk;intro i hi;simp[Abr];omega,rfl⟩
 ·by_cases h2:64<=n
  ·simp(disch:=first|assumption|omega)only[A7v,P4,seval,h1,h2]
   exact hq2 _ _ ⟨.int .u64 18446744073709551615,rfl,by rw[A57];apply Abk;intro i hi;simp[Abr];omega,rfl⟩
  ·obtain⟨m,rfl⟩:∃m:Nat,n=(m:Int):=⟨n.toNat,by omega⟩
   have h3:=Ad6 (show m<64 by omega)
   have h4:=A56 (show m<64 by omega)
   simp(disch:=first|assumption|omega)only[A7v,P4,seval,h1,h2,h3,h4,Aci]
   refine hq2 _ _ ⟨S64 _,rfl,?_,rfl⟩
   apply Abk;intro i hi;simp only[Abr,Int.ofNat_lt]
theorem Aiz(f:Nat->Bool):(S64 f).cells.toList=[S64 f]:=rfl
theorem Alz(f:Nat->Bool):(S32 f).cells.toList=[S32 f]:=rfl
def trP(r:Ro)(i:Nat):Bool:=(trk r).contains (i:Int)
def fiP(r:Ro):Nat->Bool:=Acu (r.path.getD 0 0)
def ahP(L:Ly)(r:Ro):Nat->Bool:=Acu (L.g.getD r.g.toNat ([],0)).2
def ndP(l:List (Int×Bool))(b:Bool)(p:Nat):Bool:=l.contains ((p:Int),b)
def Aei(L:Ly)(i:Nat):List Value:=[S64 (trP (ro L i)),S64 (fiP (ro L i)),S64 (ahP L (ro L i)),S32 (ndP (nds (ro L i)) false),S32 (ndP (nds (ro L i)) true),S64 (Ahr L i)]
def Ai0(L:Ly):List (List Value):=(List.range L.r.length).map (Aei L)
def Awa(L:Ly)(i:Nat):Nat->Bool:=Acu (L.p.getD i ([],0)).2
def A58(L:Ly):List (List Value):=(List.range L.p.length).map fun i=>[S64 (Awa L i)]
def Abm(L:Ly)(vr vl:Value):List Value:=[vr,vl,S64 (Abr L.r.length),S32 (Abr L.p.length),S64 (Abr L.s.length)]
structure A59 (L:Ly) (r:Ro):Prop where
 lim:Ahw L r
 ne:0<r.path.length
 tr:∀x∈trk r,0<=x/\x<L.s.length
 nd:∀x∈nds r,0<=x.1/\x.1<L.p.length
theorem Aar{L:Ly}(h:Aan L=0):Aew L=true:=by
 unfold Aan at h
 cases hm:Aew L with
 |true=>rfl
 |false=>rw[hm]at h;cases h
theorem Aj2{L:Ly}(h:Aan L=0){r:Ro}(hr:r∈L.r):Abo L r=true:=by
 have hm:=Aar h
 unfold Aan at h
 rw[hm]at h
 cases hf:L.r.all (Abo L)with
 |false=>rw[hf]at h;cases h
 |true=>exact List.all_eq_true.1 hf r hr
theorem Aay{L:Ly}(h:Aan L=0){r:Ro}(hr:r∈L.r):A59 L r:=by
 have hm:=Aar h
 have hf:=Aj2 h hr
 have hl:=Ahq hm hr
 have hb:roB L r=true:=by
  have:=hm
  simp only[Aew,Bool.and_eq_true,Bool.not_eq_true',List.all_eq_true]at this
  simp_all
 refine⟨hl,?_,?_,?_⟩
 ·simp only[Abo,Aps,Bool.and_eq_true,Bool.not_eq_true',Bool.or_eq_false_iff]at hf
  have:=hf.1.1.1.1
  cases hp:r.path with
  |nil=>rw[hp]at this;cases this
  |cons a l=>simp
 ·simp only[roB,inB,Bool.and_eq_true,decide_eq_true_eq,List.all_eq_true]at hb
  intro x hx
  rcases List.mem_append.1 hx with hx|hx
  ·exact hb.1.2.1.2 x hx
  ·exact hb.1.2.2 x hx
 ·simp only[roB,Ahd,inB,Bool.and_eq_true,decide_eq_true_eq,List.all_eq_true]at hb
  intro x hx
  rcases List.mem_append.1 hx with hx|hx
  ·have:=hb.2.1.2 x hx;simpa using this
  ·have:=hb.2.2.2 x hx;simpa using this
theorem Afk{H:Aaa}{esz:Nat}{v:Value}{i:Nat}{r:List Value}(h:Afs H esz v i=some r):bn v-1<H.n:=by
 obtain⟨b,o,n,k,rfl,h1,own,room,z,c,e,h2,h3,h4⟩:=Adw h
 have:=Aaa.Bfg h2
 simp[bn,blk,slc];omega
theorem As4{l:List (Int×Bool)}{j:Nat}(h:j<l.length)(b:Bool)(p:Nat):ndP (l.take (j+1)) b p=(ndP (l.take j) b p||(decide ((p:Int)=(l.getD j (0,false)).1)&&(b==(l.getD j (0,false)).2))):=by
 unfold ndP
 rw[List.take_add_one,List.getElem?_eq_getElem h,List.getD_eq_getElem?_getD,List.getElem?_eq_getElem h,List.contains_append]
 simp only[Option.toList_some,Option.getD_some]
 congr 1
 obtain⟨x,y⟩:=l[j]
 simp only[List.contains_cons,List.contains_nil,Bool.or_false]
 rw[Bool.eq_iff_iff]
 simp
theorem As5(b:Bool):Value.int .u32 0=S32 (ndP [] b):=by rw[Ae5];rfl
def As6(L:Ly)(r:Ro)(i j:Nat):List Value:=[S64 (trP r),S64 (fiP r),S64 (ahP L r),S32 (ndP ((nds r).take j) false),S32 (ndP ((nds r).take j) true),S64 (Ahr L i)]
theorem _root_.Go.AM.OW.set{e esz:Nat}{H K:Aaa}{v:Value}{rows:List (List Value)}(h:OW e esz H K v rows){b:Nat}{o:AO}(hb:bn v≠b+1)(hH:H.n<=b)(hK:b<K.n):OW e esz H (K.set b o) v rows:=
 ⟨h.ap.chg1 (Chg.set K hK o) hb,h.r,h.k.set hH hK o,h.f⟩
theorem _root_.Go.AM.OW.sep{e esz:Nat}{H K:Aaa}{v:Value}{rows:List (List Value)}(h:OW e esz H K v rows){b z t:Nat}{o r:Bool}{c:List Value}(g:K.get b=some (.cells o r z c t))(hz:z≠esz):bn v≠b+1:=by
 rcases h.ap with⟨rfl,_,_⟩|⟨b',room,rfl,_,h2⟩
 ·simp[bn,blk]
 ·intro e
  have e2:b'=b:=by simp[bn,blk,slc]at e;exact e
  subst e2
  rw[h2]at g
  cases g
  exact hz rfl
theorem _root_.Go.AM.OW.apart{e z e' z':Nat}{H H' K:Aaa}{v w:Value}{rows rows':List (List Value)}(h:OW e z H K v rows)(h':OW e' z' H' K w rows')(hz:z≠z'):∀b∈Ahp v,b∉Ahp w:=by
 intro b hb hb'
 rw[Abu]at hb hb'
 rcases h.ap with⟨rfl,_,_⟩|⟨c,room,rfl,_,h2⟩
 ·cases hb
 ·rcases h'.ap with⟨rfl,_,_⟩|⟨c',room',rfl,_,h2'⟩
  ·cases hb'
  ·cases hb;cases hb'
   have e:=Option.some.inj (h2.symm.trans h2')
   injection e with _ _ e3 _ _
   exact hz e3
theorem _root_.Go.AM.OW.chg{e z:Nat}{H K K':Aaa}{v:Value}{rows:List (List Value)}{S:List Nat}(h:OW e z H K v rows)(c:Chg S K K')(hS:∀b∈Ahp v,b∉S)(k:Aac H K'):OW e z H K' v rows:=
 ⟨h.ap.chg c hS,h.r,k,h.f⟩
theorem Ban(a:Value)(h:a.cells.toList=[a]):Aau [.int .u64 0] [(0,1,a)]=some [a]:=by
 rw[Adz,h,if_pos ⟨rfl,by simp⟩];rfl
theorem Agr{v:Value}{b:Nat}(h:bn v≠b+1):b∉Ahp v:=by
 intro hm
 have:=Abu.1 hm
 apply h;unfold bn;rw[this]
theorem Bao(a b c d e f:Value):Aau [.int .u64 0,.int .u64 0,.int .u64 0,.int .u32 0,.int .u32 0,.int .u64 0] [(0,6,.agg #[a,b,c,d,e,f])]=some [a,b,c,d,e,f]:=rfl
theorem Bap(a c:Nat->Bool)(b:Nat->Bool):Aau [.slice none 0 0,.slice none 0 0,.int .u64 0,.int .u32 0,.int .u64 0] [(2,1,S64 a),(3,1,S32 b),(4,1,S64 c)]=some [.slice none 0 0,.slice none 0 0,S64 a,S32 b,S64 c]:=rfl
theorem Baq(a b c d:Nat->Bool):Aau [.int .u64 0,.int .u64 0,.int .u64 0,.int .u32 0,.int .u32 0,.int .u64 0] [(0,1,S64 a),(1,1,S64 b),(2,1,S64 c),(5,1,S64 d)]=some [S64 a,S64 b,S64 c,.int .u32 0,.int .u32 0,S64 d]:=rfl
theorem t92{H:Aaa}{u:V4}{xs:List RV}{L:Ly}(h:LyR H u xs L)(hf:Ah5 9223372036854775807 L):
 ∃w H',Aaq Tryz.prog 0 92 [.agg u.l.toArray] H w H'/\Aac H H'/\(Aan L≠0->w=.tuple #[.agg #[.slice none 0 0,.slice none 0 0,.int .u64 0,.int .u32 0,.int .u64 0],.int .i64 (Aan L)])∧
  (Aan L=0->∃vr vl,w=.tuple #[.agg (Abm L vr vl).toArray,.int .i64 0]/\Sl H' 6 vr (Ai0 L)/\Sl H' 1 vl (A58 L)/\Ads H.n vr/\Ads H.n vl):=by
 refine Aam f92 ?_
 intro Q hq1 hq2
 have os:=Sl.one h.s
 have op:=Sl.one h.p
 have og:=Sl.one h.g
 have or:=Sl.one h.r
 have is:=Sl.is h.s
 have ip:=Sl.is h.p
 have ig:=Sl.is h.g
 have ir:=Sl.is h.r
 have hul:u.l=[u.s,u.p,u.g,u.r]:=rfl
 obtain⟨K0,hK0⟩:∃X,X=(H.alloc (.cells true false 4 [u.s,u.p,u.g,u.r] 27)).alloc (.cells true false 5 [.slice none 0 0,.slice none 0 0,.int .u64 0,.int .u32 0,.int .u64 0] 167):=⟨_,rfl⟩
 have k0:Aac H K0:=by rw[hK0];exact((Aac.refl H).alloc _).alloc _
 have n0:K0.n=H.n+2:=by rw[hK0];rfl
 have gl0:K0.get H.n=some (.cells true false 4 [u.s,u.p,u.g,u.r] 27):=by rw[hK0];exact((Aac.refl _).alloc _).at_ (Aaa.Bfd H _)
 have gw0:K0.get (H.n+1)=some (.cells true false 5 [.slice none 0 0,.slice none 0 0,.int .u64 0,.int .u32 0,.int .u64 0] 167):=by rw[hK0];exact Aaa.Bfd (H.alloc _) _
 have tT:=t118 (h.keeps k0) hf
 simp only[hul]at tT ⊢
 simp(disch:=first|assumption|omega|(simp only[LN]<;>omega)|(simp(disch:=first|assumption|omega|(simp only[LN]<;>omega))only[Aab,Aad];assumption))only[f92,P4,seval,os,op,og,or]
 simp only[<-hK0]
 refine Aae tT ?_
 rintro tv K1 ⟨k1,e1,e2⟩
 by_cases he:Aan L=0
 case neg=>
  rw[e1 he]
  have ne:(Aan L != 0)=true:=by simp[he]
  have gw1:=k1.at_ gw0
  have l0:=Aaa.Bfg gw1
  simp(disch:=first|assumption|omega|(simp only[LN]<;>omega)|(simp(disch:=first|assumption|omega|(simp only[LN]<;>omega))only[Aab,Aad];assumption))only[P4,seval,ne,gw1]
  refine hq2 _ _ ⟨.tuple #[.agg #[.slice none 0 0,.slice none 0 0,.int .u64 0,.int .u32 0,.int .u64 0],.int .i64 (Aan L)],?_,(k0.trans k1).set (by omega) l0 _,fun _=>rfl,fun e=>absurd e he⟩
  show Ack [.cn 5 2,.t 3] _ _=_
  have gg:=Aaa.Bfe gw1 (.cells true false 5 [.slice none 0 0,.slice none 0 0,.int .u64 0,.int .u32 0,.int .u64 0] 167)
  simp[Ack,Af0,RX.get,Adb,ptr,Adf,gg];rfl
 case pos=>
 obtain⟨tb,rfl,htb,gt1⟩:=e2 he
 have hmay:=Aar he
 have hL:=Aa1 hmay
 have hLs:=hL.s
 have hLp:=hL.p
 have hLg:=hL.g
 have hLr:=hL.r
 have hrl:=h.rlen
 have gl1:=k1.at_ gl0
 have gw1:=k1.at_ gw0
 have n1:=k1.n
 have hA:=(h.keeps k0).keeps k1
 have lr:=h.r.len
 have ls:=h.s.len
 have lp:=h.p.len
 have lg:=h.g.len
 rw[hrl]at lr
 simp(disch:=first|assumption|omega)only[P4,seval,gl1,lr,ir]
 refine Aat (A73 _) ?_
 simp(disch:=first|assumption|omega)only[P4,seval,gl1,lp,ip]
 refine Aat (A73 _) ?_
 simp(disch:=first|assumption|omega)only[P4,seval,gl1,ls,is,Agx]
 refine Aat (A73 _) ?_
 obtain⟨K2,hK2⟩:∃X,X=K1.alloc (.cells true false 5 (Abm L (.slice none 0 0) (.slice none 0 0)) 167):=⟨_,rfl⟩
 have hK2':=hK2
 unfold Abm at hK2'
 simp(disch:=first|assumption|omega|(simp only[LN]<;>omega)|(simp(disch:=first|assumption|omega|(simp only[LN]<;>omega))only[Aab,Aad];assumption))only[P3,seval,Aah,Aao,gl1,lr,ir,O4,Aiz,Alz,Bap]
 rw[<-hK2',Aag]
 have k2:Aac K1 K2:=by rw[hK2];exact(Aac.refl K1).alloc _
 have gm2:K2.get K1.n=some (.cells true false 5 (Abm L (.slice none 0 0) (.slice none 0 0)) 167):=by rw[hK2];exact Aaa.Bfd K1 _
 refine Aal (fun q fr M=>∃i vr x7 x8 x9 x10 x11 x16 x17 x18 x19 x20 x21 x22 x23 x24 x25,fr=[.agg #[u.s,u.p,u.g,u.r],ptr H.n 0,ptr (H.n+1) 0,.int .i64 0,slc tb 0 L.r.length L.r.length,.int .i64 0,ptr K1.n 0,x7,x8,x9,x10,x11,
  .bool false,u.r,.int .i64 ((L.r.length:Nat):Int),.int .i64 ((i:Nat):Int),x16,x17,x18,x19,x20,x21,x22,x23,x24,x25]∧
  M.get K1.n=some (.cells true false 5 (Abm L vr (.slice none 0 0)) 167)/\OW 207 6 K1 M vr ((List.range i).map (Aei L))/\bn vr≠K1.n+1/\i<=L.r.length/\q=L.r.length-i) L.r.length
  ⟨0,.slice none 0 0,_,_,_,_,_,_,_,_,_,_,_,_,_,_,_,rfl,gm2,OW.nil _ _ k2,by simp[bn,blk],by omega,rfl⟩ ?_
 rintro Q' q fr M ⟨i,vr,x7,x8,x9,x10,x11,x16,x17,x18,x19,x20,x21,x22,x23,x24,x25,rfl,gm,ow,bv,hi,rfl⟩ hn' hx' hret
 have km:=ow.k
 have gl2:=km.at_ gl1
 have gt2:=km.at_ gt1
 by_cases hlt:i<L.r.length
 ·obtain⟨hyr,hyo⟩:=Af3 h (i:=i) hlt
  obtain⟨na,ra⟩:=(hA.r.keeps km).at_ (i:=i) (by omega)
  have hgood:=Aay he (List.getElem_mem hlt)
  rw[<-Acn hlt,<-hyr]at hgood
  have hmr:Aei L i=[S64 (trP (ro L i)),S64 (fiP (ro L i)),S64 (ahP L (ro L i)),S32 (ndP (nds (ro L i)) false),S32 (ndP (nds (ro L i)) true),S64 (Ahr L i)]:=rfl
  rw[<-hyr]at hmr
  generalize xs.getD i rv0=y at*
  have hlim:=hgood.lim
  have lP:=hlim.p
  have lO:=hlim.o
  have lQ:=hlim.q
  have lF:=hlim.f
  have h0:(0:Int)<=(i:Int):=by omega
  have h1:(i:Int)<((L.r.length:Nat):Int):=by omega
  have hw:=wrS (i:=i) (by omega)
  have rowy:y.row=[.string ⟨y.r.n.toArray⟩,.int .i64 y.r.g,y.vp,y.vq,y.vo,y.vf]:=rfl
  obtain⟨a3,a4,a5,a6⟩:=RV.ones hyo
  have a1:one1 (Value.int .i64 y.r.g)=True:=by simp[one1,Aav]
  have a2:one1 (Value.string ⟨y.r.n.toArray⟩)=True:=by simp[one1,Abc]
  obtain⟨M1,hM1⟩:∃X,X=M.alloc (.cells true false 6 y.row 87):=⟨_,rfl⟩
  have m1:M1.n=M.n+1:=by rw[hM1];rfl
  have kM1:Aac M M1:=by rw[hM1];exact(Aac.refl M).alloc _
  have gy1:M1.get M.n=some (.cells true false 6 y.row 87):=by rw[hM1];exact Aaa.Bfd M _
  have hMn:=Aaa.Bfg gm
  have kmn:=km.n
  have hM1':=hM1
  simp only[rowy]at ra hM1' gy1
  have yo1:=((hyo.keeps (k0.trans k1)).keeps km).keeps kM1
  have tTr:=t31 yo1 (by omega)
  simp only[rowy]at tTr
  simp(disch:=first|assumption|omega)only[P3,seval,Aah,Aao,h1]
  rw[Aag]
  simp(disch:=first|assumption|omega|(simp only[LN]<;>omega)|(simp(disch:=first|assumption|omega|(simp only[LN]<;>omega))only[Aab,Aad];assumption))only[P3,seval,Aah,Aao,lr,ra,na,Aai,a1,a2,a3,a4,a5,a6]
  rw[<-hM1']
  refine Aae tTr ?_
  rintro tv M2 ⟨htv,kM2,_⟩
  have hti:IL M2 tv (trk y.r):=htv.sl
  simp(disch:=first|assumption|omega)only[P3,seval,Aah,Aao,gy1]
  refine Aat (t120 hti (by simp[trk];omega)) ?_
  have gl3:=(kM1.trans kM2).at_ gl2
  have gy3:=kM2.at_ gy1
  have gt3:=(kM1.trans kM2).at_ gt2
  have lpt:=yo1.p.len
  obtain⟨nap,rap⟩:=(yo1.p.keeps kM2).at_ (i:=0) hgood.ne
  have p0:(0:Int)<((y.r.path.length:Nat):Int):=by have:=hgood.ne;omega
  obtain⟨_,rap1⟩:=yo1.p.at_ (i:=0) hgood.ne
  have q1:=Afk rap1
  have q2:=kM2.get _ q1
  have q3:bn y.vp-1<M2.n:=by have:=kM2.n;omega
  have q4:M.n<M2.n:=by have:=kM2.n;omega
  simp(disch:=first|assumption|omega)only[P3,seval,Aah,Aao,gy3,gy1,nap,rap,lpt,Aaj,p0,q1,q2,q3,q4]
  refine Aat (Av9 _) ?_
  obtain⟨n,hn⟩:∃n:Nat,y.r.g=(n:Int):=⟨y.r.g.toNat,by have:=hlim.g.1;omega⟩
  have hnl:n<L.g.length:=by have:=hlim.g.2;omega
  obtain⟨nag,rag1⟩:=(((hA.g.keeps km).keeps kM1).at_ hnl)
  obtain⟨_,rag⟩:=((((hA.g.keeps km).keeps kM1).keeps kM2).at_ hnl)
  have hah:ahP L y.r=Acu (L.g.getD n ([],0)).2 :=by unfold ahP;rw[hn];rfl
  have q5:=Afk rag1
  have q6:=kM2.get _ q5
  have q7:bn u.g-1<M2.n:=by have:=kM2.n;omega
  have q8:M1.get H.n=some (.cells true false 4 [u.s,u.p,u.g,u.r] 27):=kM1.at_ gl2
  have q9:H.n<M1.n:=Aaa.Bfg q8
  have q10:H.n<M2.n:=Aaa.Bfg gl3
  have q11:M.n<M1.n:=Aaa.Bfg gy1
  have g0:(0:Int)<=(n:Int):=by omega
  have g1:(n:Int)<((L.g.length:Nat):Int):=by omega
  simp(disch:=first|assumption|omega)only[P3,seval,Aah,Aao,gy3,gy1,gl3,q8,hn,g0,g1,nag,rag,lg,Aaj,Aai,q4,q5,q6,q7,q9,q10,q11]
  refine Aat (Av9 _) ?_
  have tbi:(A2k L)[i]? =some (S64 (Ahr L i)):=by unfold A2k;simp[hlt]
  have gt1':=kM1.at_ gt2
  have q12:tb<M1.n:=Aaa.Bfg gt1'
  have q13:tb<M2.n:=Aaa.Bfg gt3
  obtain⟨M3,hM3⟩:∃X,X=M2.alloc (.cells true false 6 [S64 (trP y.r),S64 (fiP y.r),S64 (ahP L y.r),.int .u32 0,.int .u32 0,S64 (Ahr L i)] 207):=⟨_,rfl⟩
  have m3:M3.n=M2.n+1:=by rw[hM3];rfl
  have kM3:Aac M2 M3:=by rw[hM3];exact(Aac.refl M2).alloc _
  have gx3:M3.get M2.n=some (.cells true false 6 [S64 (trP y.r),S64 (fiP y.r),S64 (ahP L y.r),.int .u32 0,.int .u32 0,S64 (Ahr L i)] 207):=by rw[hM3];exact Aaa.Bfd M2 _
  have hM3':=hM3
  unfold trP fiP at hM3'
  rw[hah]at hM3'
  have gy4:=kM3.at_ gy3
  have tN:=t32 ((yo1.keeps kM2).keeps kM3) (by omega)
  simp only[rowy,hn]at tN
  simp only[hn]at gy4
  simp(disch:=first|assumption|omega|(simp only[LN]<;>omega)|(simp(disch:=first|assumption|omega|(simp only[LN]<;>omega))only[Aab,Aad];assumption))only[P3,seval,Aah,Aao,gt1',gt3,tbi,h0,h1,Baq,Int.toNat_natCast,Nat.mul_one,Nat.zero_add,O4,q12,q13,gy3,hn,q4]
  simp only[<-hM3']
  refine Aae tN ?_
  rintro nv M4 ⟨hnv,kM4,fnv⟩
  have hni:NL M4 nv (nds y.r):=hnv.sl
  have lnv:=hni.len
  have isn:=Sl.is hni
  have ndl:(nds y.r).length<=32:=by simp[nds];omega
  have gx4:=kM4.at_ gx3
  have e0:[S64 (trP y.r),S64 (fiP y.r),S64 (ahP L y.r),.int .u32 0,.int .u32 0,S64 (Ahr L i)]=As6 L y.r i 0:=by
   unfold As6;rw[List.take_zero,<-As5,<-As5]
  rw[e0]at gx4
  simp(disch:=first|assumption|omega)only[P3,seval,Aah,Aao,lnv,isn]
  rw[Aag]
  refine Aal (fun q fr N=>∃j x10 x20 x21,fr=[.agg #[u.s,u.p,u.g,u.r],ptr H.n 0,ptr (H.n+1) 0,.int .i64 0,slc tb 0 L.r.length L.r.length,.int .i64 0,ptr K1.n 0,.int .i64 ((i:Nat):Int),ptr M.n 0,ptr M2.n 0,x10,x11,
   .bool false,u.r,.int .i64 ((L.r.length:Nat):Int),.int .i64 ((i:Nat):Int),.bool true,nv,.int .i64 (((nds y.r).length:Nat):Int),.int .i64 ((j:Nat):Int),x20,x21,x22,x23,x24,x25]∧
   Chg [M2.n] M4 N/\N.get M2.n=some (.cells true false 6 (As6 L y.r i j) 207)/\j<=(nds y.r).length/\q=(nds y.r).length - j) (nds y.r).length
   ⟨0,_,_,_,rfl,Chg.refl _ _,gx4,by omega,rfl⟩ ?_
  rintro Q2 q fr N ⟨j,x10,x20,x21,rfl,cN,gxN,hj,rfl⟩ hn2 hx2 hret2
  have nbn:∀b,blk nv=some b->b∉[M2.n]:=fun b hb=>by have:=fnv b hb;simp;omega
  have hniN:NL N nv (nds y.r):=Sl.chg hni cN nbn
  by_cases hlj:j<(nds y.r).length
  ·obtain⟨nj,rj⟩:=hniN.at_ hlj
   have hw2:=wrS (i:=j) (by omega)
   have j0:(0:Int)<=(j:Int):=by omega
   have j1:((j:Nat):Int)<(((nds y.r).length:Nat):Int):=by omega
   have sf:=As4 hlj false
   have st:=As4 hlj true
   have hmem:(nds y.r).getD j (0,false)∈nds y.r:=by rw[List.getD_eq_getElem?_getD,List.getElem?_eq_getElem hlj];exact List.getElem_mem hlj
   have hrng:=hgood.nd _ hmem
   generalize(nds y.r).getD j (0,false)=z at*
   obtain⟨zp,zb⟩:=z
   obtain⟨m,rfl⟩:∃m:Nat,zp=(m:Int):=⟨zp.toNat,by have:=hrng.1;omega⟩
   have hm32:m<32:=by have:=hrng.2;simp only at this;omega
   have s1:=Aj3 hm32
   have hxl:=Aaa.Bfg gxN
   have gxA:(N.alloc (.cells true false 2 [.int .i64 (m:Int),.bool zb] 120)).get M2.n=some (.cells true false 6 (As6 L y.r i j) 207):=((Aac.refl N).alloc _).at_ gxN
   have gnA:=Aaa.Bfd N (.cells true false 2 [.int .i64 (m:Int),.bool zb] 120)
   have cA:Chg [M2.n] M4 (N.alloc (.cells true false 2 [.int .i64 (m:Int),.bool zb] 120)):=cN.alloc _
   unfold As6 at gxA gxN
   cases zb with
   |true=>
    simp(disch:=first|assumption|omega|(simp only[LN]<;>omega)|(simp(disch:=first|assumption|omega|(simp only[LN]<;>omega))only[Aab,Aad];assumption))only[P4,seval,j1,lnv,nj,rj,Aai,gxN,s1,Al3,Ae2,Ab3,hw2]
    have ex:As6 L y.r i (j+1)=[S64 (trP y.r),S64 (fiP y.r),S64 (ahP L y.r),S32 (ndP ((nds y.r).take j) false),S32 (fun i=>ndP ((nds y.r).take j) true i||decide (i=m)),S64 (Ahr L i)]:=by
     unfold As6
     rw[show ndP ((nds y.r).take (j+1)) false=ndP ((nds y.r).take j) false from funext fun p=>by rw[sf];simp,
      show ndP ((nds y.r).take (j+1)) true=fun i=>ndP ((nds y.r).take j) true i||decide (i=m)from funext fun p=>by rw[st];simp only[beq_self_eq_true,Bool.and_true,Int.ofNat_inj]]
    exact hn2 _ _ _ ⟨j+1,_,_,_,rfl,(cN.trans (Chg.set N hxl _) (by simp)).alloc _,((Aac.refl _).alloc _).at_ (by rw[ex];exact Aaa.Bfe gxN _),by omega,rfl⟩ (by omega)
   |false=>
    simp(disch:=first|assumption|omega|(simp only[LN]<;>omega)|(simp(disch:=first|assumption|omega|(simp only[LN]<;>omega))only[Aab,Aad];assumption))only[P4,seval,j1,lnv,nj,rj,Aai,gxN,s1,Al3,Ae2,Ab3,hw2]
    have ex:As6 L y.r i (j+1)=[S64 (trP y.r),S64 (fiP y.r),S64 (ahP L y.r),S32 (fun i=>ndP ((nds y.r).take j) false i||decide (i=m)),S32 (ndP ((nds y.r).take j) true),S64 (Ahr L i)]:=by
     unfold As6
     rw[show ndP ((nds y.r).take (j+1)) true=ndP ((nds y.r).take j) true from funext fun p=>by rw[st];simp,
      show ndP ((nds y.r).take (j+1)) false=fun i=>ndP ((nds y.r).take j) false i||decide (i=m)from funext fun p=>by rw[sf];simp only[beq_self_eq_true,Bool.and_true,Int.ofNat_inj]]
    exact hn2 _ _ _ ⟨j+1,_,_,_,rfl,(cN.trans (Chg.set N hxl _) (by simp)).alloc _,((Aac.refl _).alloc _).at_ (by rw[ex];exact Aaa.Bfe gxN _),by omega,rfl⟩ (by omega)
  ·have j1:¬((j:Nat):Int)<(((nds y.r).length:Nat):Int):=by omega
   have hje:j=(nds y.r).length:=by omega
   subst hje
   have exl:As6 L y.r i (nds y.r).length=Aei L i:=by unfold As6;rw[List.take_length,hmr,hyr]
   rw[exl,hmr]at gxN
   have kMN:Aac M N:=(((kM1.trans kM2).trans kM3).trans kM4).Bfh cN (by simp;omega)
   have owN:=ow.keeps kMN
   have gmN:=kMN.at_ gm
   unfold Abm at gmN
   have isv:=owN.is
   simp(disch:=first|assumption|omega)only[P4,seval,j1]
   refine hx2 _ _ _ ?_
   simp(disch:=first|assumption|omega|(simp only[LN]<;>omega)|(simp(disch:=first|assumption|omega|(simp only[LN]<;>omega))only[Aab,Aad];assumption))only[P4,seval,gmN,gxN,isv,Bao,Abn,Ab3,Aci,Ae2]
   have lvr:=ow.len
   refine OW.appR (owN.keeps ((Aac.refl N).alloc _)) (Sl.one1 rfl rfl) (by simp;omega) ?_
   intro v' K' ow' c'
   have gmK:=c'.at_ (((Aac.refl N).alloc _).at_ gmN) (Agr bv)
   have bv':=ow'.sep gmK (by omega)
   have hbK:=Aaa.Bfg gmK
   have o1:=ow'.one
   simp(disch:=first|assumption|omega)only[P4,seval,gmK,o1,hw]
   have ers:(List.range (i+1)).map (Aei L)=(List.range i).map (Aei L)++[[S64 (trP y.r),S64 (fiP y.r),S64 (ahP L y.r),S32 (ndP (nds y.r) false),S32 (ndP (nds y.r) true),S64 (Ahr L i)]]:=by
    rw[List.range_succ,List.map_append,<-hmr];rfl
   exact hn' _ _ _ ⟨i+1,v',_,_,_,_,_,_,_,_,_,_,_,_,_,_,_,rfl,Aaa.Bfe gmK _,by rw[ers];exact ow'.set bv' (Nat.le_refl _) hbK,bv',by omega,rfl⟩ (by omega)
 ·have h1:¬((i:Nat):Int)<((L.r.length:Nat):Int):=by omega
  have hin:i=L.r.length:=by omega
  subst hin
  simp(disch:=first|assumption|omega)only[P4,seval,h1]
  refine hx' _ _ _ ?_
  simp(disch:=first|assumption|omega)only[P3,seval,Aah,Aao,gl2,lp,ip]
  rw[Aag]
  refine Aal (fun q fr N=>∃i vl x11 x25,fr=[.agg #[u.s,u.p,u.g,u.r],ptr H.n 0,ptr (H.n+1) 0,.int .i64 0,slc tb 0 L.r.length L.r.length,.int .i64 0,ptr K1.n 0,x7,x8,x9,x10,x11,
   .bool false,u.r,.int .i64 ((L.r.length:Nat):Int),.int .i64 ((L.r.length:Nat):Int),.bool false,x17,x18,x19,x20,x21,u.p,.int .i64 ((L.p.length:Nat):Int),.int .i64 ((i:Nat):Int),x25]∧
   N.get K1.n=some (.cells true false 5 (Abm L vr vl) 167)/\OW 207 6 K1 N vr (Ai0 L)/\OW 39 1 K1 N vl ((List.range i).map fun i=>[S64 (Awa L i)])/\i<=L.p.length/\q=L.p.length-i) L.p.length
   ⟨0,.slice none 0 0,_,_,rfl,gm,ow,OW.nil _ _ km,by omega,rfl⟩ ?_
  rintro Q2 q fr N ⟨i,vl,x11,x25,rfl,gmN,owr,owl,hi,rfl⟩ hn2 hx2 hret2
  have kN:=owr.k
  by_cases hlt:i<L.p.length
  ·obtain⟨np,rp⟩:=(hA.p.keeps kN).at_ hlt
   have h0:(0:Int)<=(i:Int):=by omega
   have h1:(i:Int)<((L.p.length:Nat):Int):=by omega
   have hw:=wrS (i:=i) (by omega)
   have hli:Awa L i=Acu (L.p.getD i ([],0)).2 :=rfl
   generalize L.p.getD i ([],0)=z at*
   have w1:one1 (Value.int .i64 z.2)=True:=by simp[one1,Aav]
   have w2:one1 (Value.string ⟨z.1.toArray⟩)=True:=by simp[one1,Abc]
   have isl:=owl.is
   have isr:=owr.is
   unfold Abm at gmN
   obtain⟨N1,hN1⟩:∃X,X=N.alloc (.cells true false 2 [.string ⟨z.1.toArray⟩,.int .i64 z.2] 89):=⟨_,rfl⟩
   have kN1:Aac N N1:=by rw[hN1];exact(Aac.refl N).alloc _
   have gmN1:=kN1.at_ gmN
   simp(disch:=first|assumption|omega|(simp only[LN]<;>omega)|(simp(disch:=first|assumption|omega|(simp only[LN]<;>omega))only[Aab,Aad];assumption))only[P4,seval,h1,lp,np,rp,Aai,gmN,w1,w2]
   have gpN1:=Aaa.Bfd N (.cells true false 2 [.string ⟨z.1.toArray⟩,.int .i64 z.2] 89)
   rw[<-hN1]at gpN1 ⊢
   have t1:K1.n<N1.n:=Aaa.Bfg gmN1
   simp(disch:=first|assumption|omega)only[P4,seval,gmN1,gpN1,isl]
   refine Aat (Av9 _) ?_
   have lvl:=owl.len
   have fW:=Ban (S64 (Acu z.2)) rfl
   simp(disch:=first|assumption|omega)only[P4,seval,gmN1,gpN1,isl,fW,Abn,Aci,t1]
   refine⟨by simp,OW.appD (owl.keeps (kN1.alloc _)) (Sl.one1 (row:=[S64 (Acu z.2)]) rfl rfl) ?_ ?_⟩
   ·simp only[List.length_map,List.length_range,List.length_cons,List.length_nil];omega
   intro v' K' ow' c'
   have owr':=(owr.keeps (kN1.alloc (.cells true false 1 [S64 (Acu z.2)] 39))).chg c' (owr.apart owl (by omega)) ow'.k
   have hml:K1.n∉Ahp vl:=Agr (owl.sep gmN (by omega))
   have gmK:=c'.at_ (((Aac.refl N1).alloc (.cells true false 1 [S64 (Acu z.2)] 39)).at_ gmN1) hml
   have bv':=ow'.sep gmK (by omega)
   have br':=owr'.sep gmK (by omega)
   have hbK:=Aaa.Bfg gmK
   have o1:=ow'.one
   simp(disch:=first|assumption|omega)only[P4,seval,gmK,o1,hw]
   have ers:(List.range (i+1)).map (fun i=>[S64 (Awa L i)])=(List.range i).map (fun i=>[S64 (Awa L i)])++[[S64 (Acu z.2)]]:=by
    rw[List.range_succ,List.map_append,<-hli];rfl
   exact hn2 _ _ _ ⟨i+1,v',_,_,rfl,Aaa.Bfe gmK _,owr'.set br' (Nat.le_refl _) hbK,by rw[ers];exact ow'.set bv' (Nat.le_refl _) hbK,by omega,rfl⟩ (by omega)
  ·have h1:¬((i:Nat):Int)<((L.p.length:Nat):Int):=by omega
   have hie:i=L.p.length:=by omega
   subst hie
   unfold Abm at gmN
   have isl:=owl.one
   have isr:=owr.one
   have gwN:=kN.at_ gw1
   have hwl:=Aaa.Bfg gwN
   simp(disch:=first|assumption|omega)only[P4,seval,h1]
   refine hx2 _ _ _ ?_
   simp(disch:=first|assumption|omega|(simp only[LN]<;>omega)|(simp(disch:=first|assumption|omega|(simp only[LN]<;>omega))only[Aab,Aad];assumption))only[P4,seval,gmN,gwN,isl,isr,O4]
   refine hq2 _ _ ⟨.tuple #[.agg (Abm L vr vl).toArray,.int .i64 0],?_,(k0.trans (k1.trans kN)).set (by omega) hwl _,fun e=>absurd he e,fun _=>⟨vr,vl,rfl,owr.sl.chg1 (Chg.set N hwl _) (owr.sep gwN (by omega)),owl.sl.chg1 (Chg.set N hwl _) (owl.sep gwN (by omega)),fun b hb=>Nat.le_trans (by omega) (owr.f b hb),fun b hb=>Nat.le_trans (by omega) (owl.f b hb)⟩⟩
   show Ack [.cn 5 2,.t 3] _ _=_
   have gg:=Aaa.Bfe gwN (.cells true false 5 [vr,vl,S64 (Abr ((L.r.length:Nat):Int)),S32 (Abr ((L.p.length:Nat):Int)),S64 (Abr ((L.s.length:Nat):Int))] 167)
   simp[Ack,Af0,RX.get,Adb,ptr,Adf,gg,Abm];rfl
end Go.AM.Fd
namespace Go.AM.F
def Bdu:List Value:=[(.int .u64 0),(.int .u64 0),(.int .u64 0)]++List.replicate 64 (.int .u8 0)++[(.int .u32 0)]
def A99:List Value:=[(.pointer none),(.int .u64 0),(.int .u64 0),(.int .u64 0)]++List.replicate 64 (.int .u8 0)++[(.int .u32 0),(.int .u64 0),(.int .u32 0),(.int .u32 0),(.slice none 0 0),(.int .u64 0)]
def Bdv:List Nat:=List.replicate 68 1
def Bdw:TypeId->List Value
 |102=>[(.slice none 0 0),(.slice none 0 0),(.int .i64 0),(.int .u32 0)]
 |87=>[(.string ByteArray.empty),(.int .i64 0),(.slice none 0 0),(.slice none 0 0),(.slice none 0 0),(.slice none 0 0)]
 |107=>[(.int .i64 0),(.int .i64 0),(.slice none 0 0),(.slice none 0 0),(.slice none 0 0)]
 |89=>[(.string ByteArray.empty),(.int .i64 0)]
 |43=>Bdu
 |54=>[(.int .u64 0),(.int .u32 0)]
 |241=>A99
 |83=>[(.int .u8 0),(.int .i64 0)]
 |244=>[.nilFunc,.nilFunc,.nilFunc,.nilFunc]
 |41=>[(.int .u32 0)]
 |120=>[(.int .i64 0),(.bool false)]
 |_=>[]
def Bdx:TypeId->Value
 |_=>undef
def Bdy:TypeId->List Nat
 |43=>Bdv
 |_=>[]
def Bdz:Nat->TypeId->List Value
 |1,107=>[(.int .i64 0),(.int .i64 0),(.slice none 0 0),(.slice none 0 0),(.slice none 0 0)]
 |1,3=>[(.int .i64 0)]
 |_,_=>[]
structure QzK (sl:List Nat) (n:Nat) where
 p:CzV sl n:=by
  refine(fun(_:Cz Bdw Bdx Bdy Bdz Go.Proofs.Tryz.prog 0 ?sl ?n ?a)=>(CzV.mk ?a:CzV ?sl ?n)) ?h
  case h=>
  intro zc zv zk zr hc hv hk hr
  conv=>lhs;cbv;try simp only[hc,hv,hk,hr,Bdw,Bdx,Bdy,Bdz]
noncomputable def f10:=({}:QzK [0,1,2,3,4,6,7,8,9,10,17,25,26,27,28,62,63,64,65] 10).p.a
noncomputable def Bd0:=({}:QzK [0,1,2,4,5,6,7,8,10,11,12,13,15,39,40,41,42,53,54,55,59,74,75,76,80] 156).p.a
noncomputable def f41:=({}:QzK [0,1,3,4,5,6,8,22,23,24,30,40,50] 41).p.a
noncomputable def f16:=({}:QzK [0,1,3,4,5,6,15,19,20,21,22,30,40] 16).p.a
noncomputable def f33:=({}:QzK [0,1,2,4,5,6,7,21,23,24,25,26,42] 33).p.a
noncomputable def Bd1:=({}:QzK [0,1,3,4,5,23,53] 157).p.a
noncomputable def Bd2:=({}:QzK [0,1,4] 158).p.a
noncomputable def A5n:=({}:QzK [0,1,4,5,19,29,46,55,76] 159).p.a
noncomputable def Bd3:=({}:QzK [0,1,4,5,6,34] 160).p.a
noncomputable def f42:=({}:QzK [0,1,4] 42).p.a
noncomputable def f44:=({}:QzK [0,1,3] 44).p.a
noncomputable def f46:=({}:QzK [0,1,2,3] 46).p.a
noncomputable def Baa:=({}:QzK [0,1,4,6,8,34,36,37,38,39,69,83,84,85,86,90] 161).p.a
noncomputable def A7y:=({}:QzK [0,1,25,50] 162).p.a
noncomputable def Bab:=({}:QzK [0,1,3,4,5,18,25,26,27,28,40] 163).p.a
noncomputable def Bd4:=({}:QzK [0,1,2,4] 164).p.a
noncomputable def Bd5:=({}:QzK [0,1,4] 165).p.a
noncomputable def Bac:=({}:QzK [0,1,2,3,4,6] 167).p.a
noncomputable def Bd6:=({}:QzK [0,1,2,3] 168).p.a
noncomputable def Bd7:=({}:QzK [0,1,3] 169).p.a
end Go.AM.F
namespace Go.AM.Fd
open Nat (reduceAdd reduceEqDiff reduceLT reduceLeDiff reduceMul reduceSub)
open Go.Proofs Go.AM.F
def cfl(L:Ly)(i n:Nat):List Int:=((List.range n).filter fun k=>(k != i)&&cf L i k).map fun k:Nat=>(k:Int)
theorem Ba3{L:Ly}{i k:Nat}(h:((k != i)&&cf L i k)=true):cfl L i (k+1)=cfl L i k++[(k:Int)]:=by
 unfold cfl;rw[List.range_succ,List.filter_append,List.map_append];simp[h]
theorem Ba4{L:Ly}{i k:Nat}(h:((k != i)&&cf L i k)=false):cfl L i (k+1)=cfl L i k:=by
 unfold cfl;rw[List.range_succ,List.filter_append,List.map_append,List.filter_cons,h];simp
theorem Anh(L:Ly)(i n:Nat):(cfl L i n).length<=n:=by
 unfold cfl;rw[List.length_map]
 exact Nat.le_trans (List.length_filter_le _ _) (by simp)
theorem t33{H:Aaa}{u:V4}{xs:List RV}{L:Ly}(h:LyR H u xs L)(he:Aan L=0)(hf:Ah5 9223372036854775807 L){i:Nat}(hi:i<L.r.length):
 ∃w H',Aaq Tryz.prog 0 33 [.agg u.l.toArray,.int .i64 (i:Nat)] H w H'/\OW 3 1 H H' w ((cfl L i L.r.length).map Ag1):=by
 refine Aam f33 ?_
 intro Q hq1 hq2
 have hmay:=Aar he
 have hL:=Aa1 hmay
 have lr:=hL.r
 have os:=Sl.one h.s
 have op:=Sl.one h.p
 have og:=Sl.one h.g
 have or:=Sl.one h.r
 have ir:=Sl.is h.r
 have lenr:=h.r.len
 rw[h.rlen]at lenr
 have hul:u.l=[u.s,u.p,u.g,u.r]:=rfl
 have e0:(0:Int)<=(i:Int):=by omega
 have e1:(i:Int)<((L.r.length:Nat):Int):=by omega
 have e2:¬(i:Int)<0:=by omega
 have e3:¬((L.r.length:Nat):Int)<=(i:Int):=by omega
 obtain⟨K0,hK0⟩:∃X,X=H.alloc (.cells true false 4 [u.s,u.p,u.g,u.r] 27):=⟨_,rfl⟩
 have k0:Aac H K0:=by rw[hK0];exact(Aac.refl H).alloc _
 have n0:K0.n=H.n+1:=by rw[hK0];rfl
 have gl0:K0.get H.n=some (.cells true false 4 [u.s,u.p,u.g,u.r] 27):=by rw[hK0];exact Aaa.Bfd H _
 have tM:=A5x (h.keeps k0) hf
 obtain⟨hyr,hyo⟩:=Af3 h hi
 have hgood:=Aay he (List.getElem_mem hi)
 rw[<-Acn hi,<-hyr]at hgood
 have rr:∀K,Aac H K->nnS u.r=true/\Afs K 6 u.r i=some (xs.getD i rv0).row:=fun K k=>(h.r.keeps k).at_ (i:=i) (by rw[h.rlen];exact hi)
 have hcf:∀k,cf L i k=Ac8 L (xs.getD i rv0).r (ro L k):=fun k=>by unfold cf;rw[hyr]
 generalize xs.getD i rv0=y at*
 have rowy:y.row=[.string ⟨y.r.n.toArray⟩,.int .i64 y.r.g,y.vp,y.vq,y.vo,y.vf]:=rfl
 obtain⟨a3,a4,a5,a6⟩:=RV.ones hyo
 have a1:one1 (Value.int .i64 y.r.g)=True:=by simp[one1,Aav]
 have a2:one1 (Value.string ⟨y.r.n.toArray⟩)=True:=by simp[one1,Abc]
 simp only[hul]at tM ⊢
 simp(disch:=first|assumption|omega|(simp only[LN]<;>omega)|(simp(disch:=first|assumption|omega|(simp only[LN]<;>omega))only[Aab,Aad];assumption))only[f33,P4,seval,os,op,og,or,e2,e3,ir,lenr]
 simp only[<-hK0]
 refine Aae tM ?_
 rintro _ X ⟨rfl,hX⟩
 rw[hX,hmay]
 simp(disch:=first|assumption|omega)only[P3,seval,Aah,Aao,gl0,ir,lenr]
 obtain⟨A1,hA1⟩:∃v:Value,v=.agg #[u.s,u.p,u.g,u.r]:=⟨_,rfl⟩
 rw[Aag,<-hA1]
 refine Aal (fun q fr K=>∃k v x5 x6 x11 x12,fr=[A1,.int .i64 ((i:Nat):Int),ptr H.n 0,.slice none 0 0,v,x5,x6,.bool false,u.r,.int .i64 ((L.r.length:Nat):Int),.int .i64 ((k:Nat):Int),x11,x12]∧
  OW 3 1 K0 K v ((cfl L i k).map Ag1)/\k<=L.r.length/\q=L.r.length-k) L.r.length
  ⟨0,_,_,_,_,_,rfl,OW.nil _ _ (Aac.refl K0),by omega,rfl⟩ ?_
 rintro Q' q fr K ⟨k,v,x5,x6,x11,x12,rfl,ow,hk,rfl⟩ hn' hx' hret
 have kK:=ow.k
 by_cases hlt:k<L.r.length
 ·have c0:(0:Int)<=(k:Int):=by omega
  have c1:(k:Int)<((L.r.length:Nat):Int):=by omega
  have hw:=wrS (i:=k) (by omega)
  obtain⟨hzr,hzo⟩:=Af3 h hlt
  obtain⟨nb,rb⟩:=(h.r.keeps (k0.trans kK)).at_ (i:=k) (by rw[h.rlen];exact hlt)
  have zlim:=Ahq hmay (List.getElem_mem hlt)
  rw[<-Acn hlt,<-hzr]at zlim
  have hcfk:=hcf k
  rw[<-hzr]at hcfk
  have cy:=fun e=>Ba3 (L:=L) (i:=i) (k:=k) e
  have cn:=fun e=>Ba4 (L:=L) (i:=i) (k:=k) e
  generalize xs.getD k rv0=z at*
  have rowz:z.row=[.string ⟨z.r.n.toArray⟩,.int .i64 z.r.g,z.vp,z.vq,z.vo,z.vf]:=rfl
  obtain⟨b3,b4,b5,b6⟩:=RV.ones hzo
  have b1:one1 (Value.int .i64 z.r.g)=True:=by simp[one1,Aav]
  have b2:one1 (Value.string ⟨z.r.n.toArray⟩)=True:=by simp[one1,Abc]
  obtain⟨K1,hK1⟩:∃X,X=K.alloc (.cells true false 6 z.row 87):=⟨_,rfl⟩
  have k1:Aac K K1:=by rw[hK1];exact(Aac.refl K).alloc _
  have gz1:K1.get K.n=some (.cells true false 6 z.row 87):=by rw[hK1];exact Aaa.Bfd K _
  have gl1:=(kK.trans k1).at_ gl0
  have kA:=(k0.trans kK).trans k1
  obtain⟨na,ra⟩:=rr _ kA
  have tC:=t67 (h.keeps kA) (hyo.keeps kA) (hzo.keeps kA) hgood.lim zlim hL
  simp only[rowz]at rb hK1 gz1
  simp only[hul,rowy,rowz]at tC ra
  by_cases hki:k=i
  ·have en:(((k:Nat):Int) != ((i:Nat):Int))=false:=by simp[hki]
   simp(disch:=first|assumption|omega|(simp only[LN]<;>omega)|(simp(disch:=first|assumption|omega|(simp only[LN]<;>omega))only[Aab,Aad];assumption))only[P4,seval,c1,lenr,nb,rb,Aai,b1,b2,b3,b4,b5,b6,en,hw]
   exact hn' _ _ _ ⟨k+1,_,_,_,_,_,rfl,by rw[cn (by simp[hki])];exact ow.keeps ((Aac.refl K).alloc _),by omega,rfl⟩ (by omega)
  ·have en:(((k:Nat):Int) != ((i:Nat):Int))=true:=by simp;omega
   have hb:(k != i)=true:=by simp[hki]
   simp(disch:=first|assumption|omega|(simp only[LN]<;>omega)|(simp(disch:=first|assumption|omega|(simp only[LN]<;>omega))only[Aab,Aad];assumption))only[P4,seval,c1,lenr,nb,rb,Aai,b1,b2,b3,b4,b5,b6,en]
   rw[<-hK1]
   simp(disch:=first|assumption|omega|(simp only[LN]<;>omega)|(simp(disch:=first|assumption|omega|(simp only[LN]<;>omega))only[Aab,Aad];assumption))only[P4,seval,gl1,gz1,ir,lenr,na,ra,e0,e1,Aai]
   refine Aae tC ?_
   rintro _ X ⟨rfl,hX⟩
   rw[hX,<-hcfk]
   cases hcc:cf L i k with
   |false=>
    simp(disch:=first|assumption|omega)only[P4,seval,hw]
    exact hn' _ _ _ ⟨k+1,_,_,_,_,_,rfl,by rw[cn (by rw[hcc];simp)];exact ow.keeps k1,by omega,rfl⟩ (by omega)
   |true=>
    have isv:=ow.is
    simp(disch:=first|assumption|omega)only[P4,seval,isv]
    have lc:=Anh L i k
    refine OW.appR ((ow.keeps k1).keeps ((Aac.refl _).alloc _)) (Sl.one1 (row:=[.int .i64 ((k:Nat):Int)]) rfl rfl) (by simp;omega) ?_
    intro v' K' ow' c'
    simp(disch:=first|assumption|omega)only[P4,seval,hw]
    exact hn' _ _ _ ⟨k+1,v',_,_,_,_,rfl,by rw[cy (by rw[hcc];simp[hki]),List.map_append];exact ow',by omega,rfl⟩ (by omega)
 ·have c1:¬(k:Int)<((L.r.length:Nat):Int):=by omega
  have hke:k=L.r.length:=by omega
  subst hke
  simp(disch:=first|assumption|omega)only[P4,seval,c1]
  refine hx' _ _ _ ?_
  simp(disch:=first|assumption|omega)only[P4,seval]
  exact hq2 _ _ ⟨_,rfl,ow.base k0⟩
structure SZ (H:Aaa) (z:Nat) (v:Value) (rows:List (List Value)):Prop where
 s:Sl H z v rows
 b:∀b,blk v=some b->∃o r c T,H.get b=some (.cells o r z c T)
theorem SZ.chg{H K:Aaa}{z:Nat}{v:Value}{rows:List (List Value)}{S:List Nat}(h:SZ H z v rows)(k:Chg S H K)(hS:∀b∈S,∀o r c T,H.get b≠some (.cells o r z c T)):SZ K z v rows:=by
 have hn:∀b,blk v=some b->b∉S:=fun b hb hm=>by
  obtain⟨o,r,c,T,g⟩:=h.b b hb
  exact hS b hm o r c T g
 refine⟨Sl.chg h.s k hn,fun b hb=>?_⟩
 obtain⟨o,r,c,T,g⟩:=h.b b hb
 exact⟨o,r,c,T,k.at_ g (hn b hb)⟩
theorem SZ.keeps{H K:Aaa}{z:Nat}{v:Value}{rows:List (List Value)}(h:SZ H z v rows)(k:Aac H K):SZ K z v rows:=h.chg (k.chg []) (by simp)
theorem SZ.set{H:Aaa}{z y:Nat}{v:Value}{rows:List (List Value)}{b:Nat}{o r:Bool}{c:List Value}{T:Nat}(h:SZ H z v rows)(g:H.get b=some (.cells o r y c T))(hz:y≠z)(x:AO):SZ (H.set b x) z v rows:=
 h.chg (Chg.set H (Aaa.Bfg g) x) fun b' hb o' r' c' T' g'=>by
  simp only[List.mem_cons,List.not_mem_nil,or_false]at hb
  subst hb;rw[g]at g';injection g' with g';injection g' with _ _ e;exact hz e
theorem _root_.Go.AM.OW.other{e y z:Nat}{H K:Aaa}{v:Value}{rows:List (List Value)}(h:OW e y H K v rows)(hz:y≠z):∀b∈Ahp v,∀o r c T,K.get b≠some (.cells o r z c T):=by
 intro b hb o r c T g
 rw[Abu]at hb
 rcases h.ap with⟨rfl,_,_⟩|⟨b',room,rfl,_,h2⟩
 ·cases hb
 ·cases hb;rw[h2]at g;injection g with g;injection g with _ _ e;exact hz e
theorem WRr.sz{H:Aaa}{e z:Nat}{v:Value}{rows:List (List Value)}(h:WRr H e z v rows):SZ H z v rows:=by
 refine⟨h.sl,fun b hb=>?_⟩
 rcases h.1 with⟨rfl,_,_⟩|⟨b',k,room,d,rfl,_,_,_,g⟩
 ·cases hb
 ·cases hb;exact⟨_,_,_,_,g⟩
theorem _root_.Go.AM.OW.sz{e z:Nat}{H K:Aaa}{v:Value}{rows:List (List Value)}(h:OW e z H K v rows):SZ K z v rows:=by
 refine⟨h.sl,fun b hb=>?_⟩
 rcases h.ap with⟨rfl,_,_⟩|⟨b',room,rfl,_,h2⟩
 ·cases hb
 ·cases hb;exact⟨_,_,_,_,h2⟩
structure V3 where
 t:Value
 n:Value
 c:Value
def Ah9(L:Ly)(i:Nat)(a:V3):List Value:=[.int .i64 ((ro L i).path.getD 0 0),.int .i64 (L.g.getD (ro L i).g.toNat ([],0)).2,a.t,a.n,a.c]
structure AOk (H:Aaa) (L:Ly) (i:Nat) (a:V3):Prop where
 t:SZ H 1 a.t ((trk (ro L i)).map Ag1)
 n:SZ H 2 a.n ((nds (ro L i)).map Aft)
 c:SZ H 1 a.c ((cfl L i L.r.length).map Ag1)
theorem AOk.keeps{H K:Aaa}{L:Ly}{i:Nat}{a:V3}(h:AOk H L i a)(k:Aac H K):AOk K L i a:=⟨h.t.keeps k,h.n.keeps k,h.c.keeps k⟩
theorem AOk.chg{H K:Aaa}{L:Ly}{i y:Nat}{a:V3}{S:List Nat}(h:AOk H L i a)(k:Chg S H K)(hS:∀z,y≠z->∀b∈S,∀o r c T,H.get b≠some (.cells o r z c T))(hy:2<y):AOk K L i a:=
 ⟨h.t.chg k (hS 1 (by omega)),h.n.chg k (hS 2 (by omega)),h.c.chg k (hS 1 (by omega))⟩
theorem AOk.set{H:Aaa}{L:Ly}{i:Nat}{a:V3}{b:Nat}{o r:Bool}{c:List Value}{T:Nat}(h:AOk H L i a)(g:H.get b=some (.cells o r 4 c T))(x:AO):AOk (H.set b x) L i a:=
 ⟨h.t.set g (by omega) x,h.n.set g (by omega) x,h.c.set g (by omega) x⟩
def Ado(L:Ly)(ls:Nat->V3)(n:Nat):List (List Value):=(List.range n).map fun i=>Ah9 L i (ls i)
theorem A11(L:Ly)(ls:Nat->V3)(n:Nat)(a:V3):Ado L (fun j=>if j=n then a else ls j) (n+1)=Ado L ls n++[Ah9 L n a]:=by
 unfold Ado
 rw[List.range_succ,List.map_append]
 congr 1
 ·exact List.map_congr_left fun i hi=>by
   have:=List.mem_range.1 hi
   show Ah9 L i (if i=n then a else ls i)=_
   rw[if_neg (by omega)]
 ·simp
def amc(L:Ly)(vl vi:Value):List Value:=[vl,vi,.int .i64 ((L.s.length:Nat):Int),S32 (Abr (L.p.length:Nat))]
def MaX(H:Aaa)(b:Nat)(L:Ly):Prop:=∃vl vi ls own room T,H.get b=some (.cells own room 4 (amc L vl vi) T)/\Sl H 5 vl (Ado L ls L.r.length)/\(∀i,i<L.r.length->AOk H L i (ls i))/\IL H vi (L.p.map (·.2))
structure MaA (H:Aaa) (b:Nat) (L:Ly):Prop where
 x:MaX H b L
 z:∀S K,Chg S H K->(∀z,z=1\/z=2\/z=4\/z=5->∀b∈S,∀o r c T,H.get b≠some (.cells o r z c T))->MaX K b L
theorem MaA.chg{H K:Aaa}{b:Nat}{L:Ly}{S:List Nat}(h:MaA H b L)(k:Chg S H K)(hS:∀z,z=1\/z=2\/z=4\/z=5->∀b∈S,∀o r c T,H.get b≠some (.cells o r z c T)):MaA K b L:=by
 refine⟨h.z S K k hS,fun S' K' k' hS'=>h.z (S++S') K' ((k.mono (T:=S++S') (fun x h=>List.mem_append_left _ h)).trans (k'.mono (T:=S++S') (fun x h=>List.mem_append_right _ h)) (fun x h=>.inl h)) fun z hz c hc o r C T g=>?_⟩
 by_cases hm:c∈S
 ·exact hS z hz c hm o r C T g
 ·rcases List.mem_append.1 hc with hc|hc
  ·exact hm hc
  ·exact hS' z hz c hc o r C T (k.at_ g hm)
theorem MaA.keeps{H K:Aaa}{b:Nat}{L:Ly}(h:MaA H b L)(k:Aac H K):MaA K b L:=h.chg (k.chg []) (fun _ _ b hb=>by cases hb)
theorem MaA.of{H:Aaa}{b:Nat}{L:Ly}{vl vi:Value}{ls:Nat->V3}{own room:Bool}{T:Nat}(g:H.get b=some (.cells own room 4 (amc L vl vi) T))(s:SZ H 5 vl (Ado L ls L.r.length))(a:∀i,i<L.r.length->AOk H L i (ls i))(i:SZ H 1 vi ((L.p.map (·.2)).map Ag1)):MaA H b L:=by
 refine⟨⟨vl,vi,ls,own,room,T,g,s.s,a,i.s⟩,fun S K k hS=>⟨vl,vi,ls,own,room,T,k.at_ g (fun hm=>hS 4 (by omega) b hm _ _ _ _ g),(s.chg k (hS 5 (by omega))).s,fun j hj=>?_,(i.chg k (hS 1 (by omega))).s⟩⟩
 have:=a j hj
 exact⟨this.t.chg k (hS 1 (by omega)),this.n.chg k (hS 2 (by omega)),this.c.chg k (hS 1 (by omega))⟩
theorem Ba5{x y:Int}{c d e:Value}(hc:isS c=true)(hd:isS d=true)(he:isS e=true):Aau [.int .i64 0,.int .i64 0,.slice none 0 0,.slice none 0 0,.slice none 0 0] [(0,1,.int .i64 x),(1,1,.int .i64 y),(2,1,c),(3,1,d),(4,1,e)]=some [.int .i64 x,.int .i64 y,c,d,e]:=by
 cases c with
 |slice p n k=>cases d with
  |slice q m j=>cases e with
   |slice q m j=>rfl
   |_=>cases he
  |_=>cases hd
 |_=>cases hc
theorem A60(a b c d e:Value):Aau [.int .i64 0,.int .i64 0,.slice none 0 0,.slice none 0 0,.slice none 0 0] [(0,5,.agg #[a,b,c,d,e])]=some [a,b,c,d,e]:=rfl
theorem A61(n:Int):Aau [.slice none 0 0,.slice none 0 0,.int .i64 0,.int .u32 0] [(2,1,.int .i64 n)]=some [.slice none 0 0,.slice none 0 0,.int .i64 n,.int .u32 0]:=rfl
theorem t10{H:Aaa}{u:V4}{xs:List RV}{L:Ly}(h:LyR H u xs L)(hf:Ah5 9223372036854775807 L)(he:Aan L=0):
 ∃w H',Aaq Tryz.prog 0 10 [.agg u.l.toArray] H w H'/\Aac H H'/\∃b,w=.tuple #[ptr b 0,.int .i64 0]/\MaA H' b L:=by
 refine Aam f10 ?_
 intro Q hq1 hq2
 have os:=Sl.one h.s
 have op:=Sl.one h.p
 have og:=Sl.one h.g
 have or:=Sl.one h.r
 have is:=Sl.is h.s
 have ip:=Sl.is h.p
 have ig:=Sl.is h.g
 have ir:=Sl.is h.r
 have hul:u.l=[u.s,u.p,u.g,u.r]:=rfl
 have hmay:=Aar he
 have hL:=Aa1 hmay
 have hLs:=hL.s
 have hLp:=hL.p
 have hLg:=hL.g
 have hLr:=hL.r
 have hrl:=h.rlen
 have lr:=h.r.len
 have ls_:=h.s.len
 have lp:=h.p.len
 have lg:=h.g.len
 rw[hrl]at lr
 obtain⟨K0,hK0⟩:∃X,X=H.alloc (.cells true false 4 [u.s,u.p,u.g,u.r] 27):=⟨_,rfl⟩
 have k0:Aac H K0:=by rw[hK0];exact(Aac.refl H).alloc _
 have n0:K0.n=H.n+1:=by rw[hK0];rfl
 have gl0:K0.get H.n=some (.cells true false 4 [u.s,u.p,u.g,u.r] 27):=by rw[hK0];exact Aaa.Bfd H _
 have tC:=t30 (h.keeps k0) hf
 simp only[hul]at tC ⊢
 simp(disch:=first|assumption|omega|(simp only[LN]<;>omega)|(simp(disch:=first|assumption|omega|(simp only[LN]<;>omega))only[Aab,Aad];assumption))only[f10,P4,seval,os,op,og,or]
 simp only[<-hK0]
 refine Aae tC ?_
 rintro _ X ⟨hX,ie,rfl⟩
 rw[hX,he]
 obtain⟨K1,hK1⟩:∃X,X=K0.alloc (.cells true false 4 [.slice none 0 0,.slice none 0 0,.int .i64 ((L.s.length:Nat):Int),.int .u32 0] 102):=⟨_,rfl⟩
 have k1:Aac K0 K1:=by rw[hK1];exact(Aac.refl K0).alloc _
 have n1:K1.n=H.n+2:=by rw[hK1];show K0.n+1=_;omega
 have gm1:K1.get (H.n+1)=some (.cells true false 4 [.slice none 0 0,.slice none 0 0,.int .i64 ((L.s.length:Nat):Int),.int .u32 0] 102):=by rw[hK1,<-n0];exact Aaa.Bfd K0 _
 have gl1:=k1.at_ gl0
 simp(disch:=first|assumption|omega)only[P3,seval,Aah,Aao,gl0,ls_,is,lr,ir,A61]
 rw[<-hK1,Aag,n0]
 have hA:=(h.keeps k0).keeps k1
 refine Aal (fun q fr M=>∃i vl x6 x7 x14,fr=[.agg #[u.s,u.p,u.g,u.r],ptr H.n 0,.pointer none,.int .i64 0,.int .i64 0,ptr (H.n+1) 0,x6,x7,undef,undef,.bool false,u.r,.int .i64 ((L.r.length:Nat):Int),.int .i64 ((i:Nat):Int),x14,undef,undef,undef,undef]∧
  Chg [H.n+1] K1 M/\M.get (H.n+1)=some (.cells true false 4 [vl,.slice none 0 0,.int .i64 ((L.s.length:Nat):Int),.int .u32 0] 102)∧
  (∃as_,OW 107 5 K0 M vl (Ado L as_ i)/\∀j,j<i->AOk M L j (as_ j))/\i<=L.r.length/\q=L.r.length-i) L.r.length
  ⟨0,_,_,_,_,rfl,Chg.refl _ _,gm1,⟨fun _=>⟨undef,undef,undef⟩,OW.nil _ _ k1,fun j hj=>absurd hj (by omega)⟩,by omega,rfl⟩ ?_
 rintro Q' q fr M ⟨i,vl,x6,x7,x14,rfl,km,gm,⟨as_,ow,ok⟩,hi,rfl⟩ hn' hx' hret
 have gl2:=km.at_ gl1 (by simp)
 by_cases hlt:i<L.r.length
 ·obtain⟨hyr,hyo⟩:=Af3 h (i:=i) hlt
  have hHM:Aac H M:=(k0.trans k1).Bfh km (by simp)
  have hM:=h.keeps hHM
  obtain⟨na,ra⟩:=hM.r.at_ (i:=i) (by omega)
  have hgood:=Aay he (List.getElem_mem hlt)
  rw[<-Acn hlt,<-hyr]at hgood
  have arw:∀a:V3,Ah9 L i a=[.int .i64 ((ro L i).path.getD 0 0),.int .i64 (L.g.getD (ro L i).g.toNat ([],0)).2,a.t,a.n,a.c]:=fun a=>rfl
  rw[<-hyr]at arw
  have mkA:∀{K:Aaa} {a:V3},SZ K 1 a.t ((trk (xs.getD i rv0).r).map Ag1)->SZ K 2 a.n ((nds (xs.getD i rv0).r).map Aft)->SZ K 1 a.c ((cfl L i L.r.length).map Ag1)->AOk K L i a:=fun h1 h2 h3=>⟨by rw[<-hyr];exact h1,by rw[<-hyr];exact h2,h3⟩
  generalize xs.getD i rv0=y at*
  have hlim:=hgood.lim
  have lP:=hlim.p
  have lO:=hlim.o
  have lQ:=hlim.q
  have lF:=hlim.f
  have h0:(0:Int)<=(i:Int):=by omega
  have h1:(i:Int)<((L.r.length:Nat):Int):=by omega
  have hw:=wrS (i:=i) (by omega)
  have rowy:y.row=[.string ⟨y.r.n.toArray⟩,.int .i64 y.r.g,y.vp,y.vq,y.vo,y.vf]:=rfl
  obtain⟨a3,a4,a5,a6⟩:=RV.ones hyo
  have a1:one1 (Value.int .i64 y.r.g)=True:=by simp[one1,Aav]
  have a2:one1 (Value.string ⟨y.r.n.toArray⟩)=True:=by simp[one1,Abc]
  obtain⟨M1,hM1⟩:∃X,X=M.alloc (.cells true false 6 y.row 87):=⟨_,rfl⟩
  have m1:M1.n=M.n+1:=by rw[hM1];rfl
  have kM1:Aac M M1:=by rw[hM1];exact(Aac.refl M).alloc _
  have gy1:M1.get M.n=some (.cells true false 6 y.row 87):=by rw[hM1];exact Aaa.Bfd M _
  have gm1':=kM1.at_ gm
  have gl3:=kM1.at_ gl2
  have hHM1:=hHM.trans kM1
  have yo1:=hyo.keeps hHM1
  have tTr:=t31 yo1 (by omega)
  -- what is read ahead of the calls
  have iy:=Sl.is hyo.p
  have lpt:=hyo.p.len
  obtain⟨nap,rap1⟩:=yo1.p.at_ (i:=0) hgood.ne
  have p0:(0:Int)<((y.r.path.length:Nat):Int):=by have:=hgood.ne;omega
  have q1:=Afk rap1
  obtain⟨n,hn⟩:∃n:Nat,y.r.g=(n:Int):=⟨y.r.g.toNat,by have:=hlim.g.1;omega⟩
  have hnl:n<L.g.length:=by have:=hlim.g.2;omega
  obtain⟨nag,rag1⟩:=(h.g.keeps hHM1).at_ hnl
  have q5:=Afk rag1
  have g0:(0:Int)<=(n:Int):=by omega
  have g1:(n:Int)<((L.g.length:Nat):Int):=by omega
  have t0:Int.toNat 0=0:=rfl
  have b1:=Aaa.Bfg gm1'
  have b2:=Aaa.Bfg gy1
  have b3:=Aaa.Bfg gl3
  simp only[rowy]at ra hM1 gy1 tTr
  simp(disch:=first|assumption|omega)only[P3,seval,Aah,Aao,h1]
  rw[Aag]
  simp(disch:=first|assumption|omega|(simp only[LN]<;>omega)|(simp(disch:=first|assumption|omega|(simp only[LN]<;>omega))only[Aab,Aad];assumption))only[P3,seval,Aah,Aao,lr,ra,na,Aai,a1,a2,a3,a4,a5,a6]
  rw[<-hM1]
  simp(disch:=first|assumption|omega|(simp only[LN]<;>omega)|(simp(disch:=first|assumption|omega|(simp only[LN]<;>omega))only[Aab,Aad];assumption))only[P3,seval,Aah,Aao,gm1',gl3,gy1,iy,lpt,nap,rap1,p0,t0,Aaj,nag,rag1,g0,g1,ig,lg,hn,q1,q5,b1,b2,b3]
  simp only[hn]at gy1 tTr
  refine Aae tTr ?_
  rintro tv M2 ⟨htv,kM2,ftv⟩
  have gy2:=kM2.at_ gy1
  have gm2':=kM2.at_ gm1'
  have gl4:=kM2.at_ gl3
  have c1:=kM2.get _ q1
  have c2:=kM2.get _ q5
  have m2:=kM2.n
  have l1:=Aaa.Bfg gm2'
  have l2:=Aaa.Bfg gy2
  have l3:=Aaa.Bfg gl4
  have l4:bn y.vp-1<M2.n:=by omega
  have l5:bn u.g-1<M2.n:=by omega
  simp(disch:=first|assumption|omega|(simp only[LN]<;>omega)|(simp(disch:=first|assumption|omega|(simp only[LN]<;>omega))only[Aab,Aad];assumption))only[P3,seval,Aah,Aao,gy1,gy2,gm1',gm2',gl3,gl4,c1,c2,l1,l2,l3,l4,l5,q1,q5,b1,b2,b3]
  have tN:=t32 (yo1.keeps kM2) (by omega)
  simp only[rowy,hn]at tN
  refine⟨by simp,Aae tN ?_⟩
  rintro nv M3 ⟨hnv,kM3,fnv⟩
  have gy3:=kM3.at_ gy2
  have gm3':=kM3.at_ gm2'
  have gl5:=kM3.at_ gl4
  have c3:=kM3.get _ l4
  have c4:=kM3.get _ l5
  have m3:=kM3.n
  have o1:=Aaa.Bfg gm3'
  have o2:=Aaa.Bfg gy3
  have o3:=Aaa.Bfg gl5
  have o4:bn y.vp-1<M3.n:=by omega
  have o5:bn u.g-1<M3.n:=by omega
  have tO:=t33 (((h.keeps hHM1).keeps kM2).keeps kM3) he hf hlt
  simp only[hul]at tO
  simp(disch:=first|assumption|omega|(simp only[LN]<;>omega)|(simp(disch:=first|assumption|omega|(simp only[LN]<;>omega))only[Aab,Aad];assumption))only[P3,seval,Aah,Aao,gy1,gy2,gy3,gm1',gm2',gm3',gl3,gl4,gl5,c1,c2,c3,c4,l1,l2,l3,l4,l5,q1,q5,b1,b2,b3,o1,o2,o3,o4,o5]
  refine⟨by simp,Aae tO ?_⟩
  rintro cv M4 owc
  have kM4:=owc.k
  have gy4:=kM4.at_ gy3
  have gm4':=kM4.at_ gm3'
  have gl6:=kM4.at_ gl5
  have d3:=kM4.get _ o4
  have d4:=kM4.get _ o5
  have m4:=kM4.n
  have r1:=Aaa.Bfg gm4'
  have r2:=Aaa.Bfg gy4
  have r3:=Aaa.Bfg gl6
  have r4:bn y.vp-1<M4.n:=by omega
  have r5:bn u.g-1<M4.n:=by omega
  have fL:=Ba5 (x:=y.r.path.getD 0 0) (y:=(L.g.getD n ([],0)).2) (Sl.is htv.sl) (Sl.is hnv.sl) owc.is
  have w1:=Sl.one htv.sl
  have w2:=Sl.one hnv.sl
  have w3:=owc.one
  have w4:=Aap (Sl.is htv.sl)
  have w5:=Aap (Sl.is hnv.sl)
  have w6:=Aap owc.is
  have isv:=ow.is
  simp(disch:=first|assumption|omega)only[P3,seval,Aah,Aao,gy1,gy2,gy3,gy4,gm1',gm2',gm3',gm4',gl3,gl4,gl5,gl6,c1,c2,c3,c4,d3,d4,l1,l2,l3,l4,l5,q1,q5,b1,b2,b3,o1,o2,o3,o4,o5,r1,r2,r3,r4,r5,fL,A60,w1,w2,w3,w4,w5,w6,isv]
  have kMB:=(((kM1.trans kM2).trans kM3).trans kM4).alloc (.cells true false 5 [.int .i64 (y.r.path.getD 0 0),.int .i64 (L.g.getD n ([],0)).2,tv,nv,cv] 107)
  have owB:=ow.keeps kMB
  have bv:=ow.sep gm (by omega)
  have lvl:=ow.len
  have lar:(Ado L as_ i).length=i:=by simp[Ado]
  refine⟨by simp,OW.appD owB (Sl.one1 (row:=[.int .i64 (y.r.path.getD 0 0),.int .i64 (L.g.getD n ([],0)).2,tv,nv,cv]) rfl rfl) (by simp[lar];omega) ?_⟩
  intro v' K' ow' c'
  have gmK:=c'.at_ (kMB.at_ gm) (Agr bv)
  have hbK:=Aaa.Bfg gmK
  have bv':=ow'.sep gmK (by omega)
  have ov':=ow'.one
  simp(disch:=first|assumption|omega)only[P4,seval,gmK,hbK,ov',hw,h1]
  have kTB:Aac M2 (M4.alloc (.cells true false 5 [.int .i64 (y.r.path.getD 0 0),.int .i64 (L.g.getD n ([],0)).2,tv,nv,cv] 107)):=(kM3.trans kM4).alloc _
  have kNB:Aac M3 (M4.alloc (.cells true false 5 [.int .i64 (y.r.path.getD 0 0),.int .i64 (L.g.getD n ([],0)).2,tv,nv,cv] 107)):=kM4.alloc _
  have oth:=fun z (hz:5≠z)=>owB.other hz
  have new:AOk (M4.alloc (.cells true false 5 [.int .i64 (y.r.path.getD 0 0),.int .i64 (L.g.getD n ([],0)).2,tv,nv,cv] 107)) L i ⟨tv,nv,cv⟩:=mkA (htv.sz.keeps kTB) (hnv.sz.keeps kNB) (owc.sz.keeps ((Aac.refl M4).alloc _))
  have cK:Chg [H.n+1] K1 K':=(km.trans (kMB.chg [H.n+1]) (by simp)).trans c' (fun b hb=>.inr (by
   have e1:=ow.f b (Abu.1 hb)
   have e2:b≠H.n+1:=fun e=>Agr bv (e ▸ hb)
   omega))
  refine hn' _ _ _ ⟨i+1,v',_,_,_,rfl,cK.trans (Chg.set K' hbK _) (by simp),Aaa.Bfe gmK _,⟨fun j=>if j=i then⟨tv,nv,cv⟩else as_ j,?_,?_⟩,by omega,rfl⟩ (by omega)
  ·rw[A11,arw]
   have:(ro L i).g=y.r.g:=by rw[<-hyr]
   have e:=ow'.set bv' (by omega) hbK (o:=.cells true false 4 [v',.slice none 0 0,.int .i64 ((L.s.length:Nat):Int),.int .u32 0] 102)
   have hnt:(Int.toNat (n:Int))=n:=by omega
   simp only[hn,hnt]
   exact e
  ·intro j hj
   by_cases e:j=i
   ·subst e
    simp only[if_pos rfl]
    exact(new.chg c' oth (by omega)).set gmK _
   ·simp only[if_neg e]
    exact(((ok j (by omega)).keeps kMB).chg c' oth (by omega)).set gmK _
 ·have hie:i=L.r.length:=by omega
  subst hie
  have h1:¬((L.r.length:Nat):Int)<((L.r.length:Nat):Int):=by omega
  simp(disch:=first|assumption|omega)only[P4,seval,h1]
  refine hx' _ _ _ ?_
  simp(disch:=first|assumption|omega)only[P3,seval,Aah,Aao,gl2,lp,ip]
  rw[Aag]
  have pZ:Value.int .u32 0=S32 (Abr ((0:Nat):Int)):=by rw[Ae5];congr 1
  rw[pZ]at gm
  refine Aal (fun q fr N=>∃i vi x8 x9 x18,fr=[.agg #[u.s,u.p,u.g,u.r],ptr H.n 0,.pointer none,.int .i64 0,.int .i64 0,ptr (H.n+1) 0,x6,x7,x8,x9,.bool false,u.r,.int .i64 ((L.r.length:Nat):Int),.int .i64 ((L.r.length:Nat):Int),.bool false,u.p,.int .i64 ((L.p.length:Nat):Int),.int .i64 ((i:Nat):Int),x18]∧
   Chg [H.n+1] M N/\N.get (H.n+1)=some (.cells true false 4 [vl,vi,.int .i64 ((L.s.length:Nat):Int),S32 (Abr (i:Nat))] 102)/\OW 3 1 K0 N vi (((L.p.map (·.2)).take i).map Ag1)/\Ads M.n vi/\i<=L.p.length/\q=L.p.length-i) L.p.length
   ⟨0,.slice none 0 0,_,_,_,rfl,Chg.refl _ _,gm,OW.nil _ _ (k1.Bfh km (by simp;omega)),fun b hb=>(by cases hb),by omega,rfl⟩ ?_
  rintro Q2 q fr N ⟨i,vi,x8,x9,x18,rfl,cN,gmN,owl,fri,hi,rfl⟩ hn2 hx2 hret2
  have hHN:Aac H N:=((k0.trans k1).Bfh km (by simp)).Bfh cN (by simp)
  by_cases hlt:i<L.p.length
  ·obtain⟨np,rp⟩:=(h.p.keeps hHN).at_ hlt
   have h0:(0:Int)<=(i:Int):=by omega
   have h2:(i:Int)<((L.p.length:Nat):Int):=by omega
   have hw:=wrS (i:=i) (by omega)
   have htk:(L.p.map (·.2)).take (i+1)=(L.p.map (·.2)).take i++[(L.p.getD i ([],0)).2]:=by
    rw[List.take_add_one,List.getElem?_map,List.getElem?_eq_getElem hlt,List.getD_eq_getElem?_getD,List.getElem?_eq_getElem hlt];rfl
   generalize L.p.getD i ([],0)=z at*
   have w1:one1 (Value.int .i64 z.2)=True:=by simp[one1,Aav]
   have w2:one1 (Value.string ⟨z.1.toArray⟩)=True:=by simp[one1,Abc]
   have isl:=owl.is
   have sh:=Aj3 (show i<32 by omega)
   obtain⟨N1,hN1⟩:∃X,X=N.alloc (.cells true false 2 [.string ⟨z.1.toArray⟩,.int .i64 z.2] 89):=⟨_,rfl⟩
   have kN1:Aac N N1:=by rw[hN1];exact(Aac.refl N).alloc _
   have gmN1:=kN1.at_ gmN
   have gpN1:N1.get N.n=some (.cells true false 2 [.string ⟨z.1.toArray⟩,.int .i64 z.2] 89):=by rw[hN1];exact Aaa.Bfd N _
   have t1:=Aaa.Bfg gmN1
   have t2:=Aaa.Bfg gpN1
   simp(disch:=first|assumption|omega)only[P3,seval,Aah,Aao,h2,lp,np,rp,Aai,w1,w2]
   rw[Aag]
   simp(disch:=first|assumption|omega|(simp only[LN]<;>omega)|(simp(disch:=first|assumption|omega|(simp only[LN]<;>omega))only[Aab,Aad];assumption))only[P3,seval,Aah,Aao,h2,lp,np,rp,Aai,w1,w2]
   rw[<-hN1]
   simp(disch:=first|assumption|omega)only[P3,seval,Aah,Aao,gmN1,gpN1,isl,t1,t2]
   have bv:=owl.sep gmN (by omega)
   have kNB:=kN1.alloc (.cells true false 1 [.int .i64 z.2] 3)
   have ltk:((L.p.map (·.2)).take i).length<=32:=by simp;omega
   have hx1:Sl (N1.alloc (.cells true false 1 [.int .i64 z.2] 3)) 1 (slc N1.n 0 1 1) [[.int .i64 z.2]]:=Sl.one1 (row:=[.int .i64 z.2]) rfl rfl
   have owlB:=owl.keeps kNB
   refine A2z owlB.ap hx1.sh hx1.el (Ab7 hx1.row) (by simp;omega) (fun v' K' a' c' hb'=>?_)
   have ow':=owlB.grow a' hx1.row c' hb'
   have fri':Ads M.n v':=fun b hb=>by
    rcases hb' with e|e
    ·exact fri b (by rw[<-e];exact hb)
    ·rw[e]at hb;cases hb
     have:=cN.n;have:=kNB.n;omega
   have gmK:=c'.at_ (kNB.at_ gmN) (Agr bv)
   have gpK:=c'.at_ (((Aac.refl N1).alloc (.cells true false 1 [.int .i64 z.2] 3)).at_ gpN1)
   have hbK:=Aaa.Bfg gmK
   have bv':=ow'.sep gmK (by omega)
   have ov':=ow'.one
   simp(disch:=first|assumption|omega)only[P4,seval,gmK,hbK,ov',hw,h2,sh,Al3,Ae2,Ab3]
   have elow:(S32 fun j=>Abr ((i:Nat):Int) j||decide (j=i))=S32 (Abr ((i+1:Nat):Int)):=by
    congr 1;funext j;unfold Abr
    by_cases e:j=i
    ·subst e;simp;omega
    ·have:decide (((j:Nat):Int)<((i:Nat):Int))=decide (((j:Nat):Int)<((i+1:Nat):Int)):=by rw[decide_eq_decide];omega
     simp only[this,e,decide_false,Bool.or_false]
   rw[elow]
   have cK:Chg [H.n+1] M K':=(cN.trans (kNB.chg [H.n+1]) (by simp)).trans c' (fun b hb=>.inr (fri b (Abu.1 hb)))
   exact hn2 _ _ _ ⟨i+1,v',_,_,_,rfl,cK.trans (Chg.set K' hbK _) (by simp),Aaa.Bfe gmK _,by rw[htk,List.map_append];exact ow'.set bv' (by omega) hbK,fri',by omega,rfl⟩ (by omega)
  ·have hie:i=L.p.length:=by omega
   subst hie
   have h2:¬((L.p.length:Nat):Int)<((L.p.length:Nat):Int):=by omega
   simp(disch:=first|assumption|omega)only[P4,seval,h2]
   refine hx2 _ _ _ ?_
   simp(disch:=first|assumption|omega)only[P4,seval]
   have hb4:∀z,4≠z->∀b∈[H.n+1],∀o r c T,M.get b≠some (.cells o r z c T):=by
    intro z hz b hb o r c T g
    simp only[List.mem_cons,List.not_mem_nil,or_false]at hb
    subst hb;rw[gm]at g;injection g with g;injection g with _ _ e;exact hz e
   have sv:=owl.sz
   rw[List.take_of_length_le (by simp)]at sv
   exact hq2 _ _ ⟨_,rfl,hHN,_,rfl,MaA.of gmN (ow.sz.chg cN (hb4 5 (by omega))) (fun j hj=>(ok j hj).chg cN hb4 (by omega)) sv⟩
theorem u10{H:Aaa}{u:V4}{xs:List RV}{L:Ly}(h:LyR H u xs L)(hf:Ah5 9223372036854775807 L)(he:Aan L≠0):
 ∃w H',Aaq Tryz.prog 0 10 [.agg u.l.toArray] H w H'/\Aac H H'/\w=.tuple #[.pointer none,.int .i64 (Aan L)]:=by
 refine Aam f10 ?_
 intro Q hq1 hq2
 have os:=Sl.one h.s
 have op:=Sl.one h.p
 have og:=Sl.one h.g
 have or:=Sl.one h.r
 have hul:u.l=[u.s,u.p,u.g,u.r]:=rfl
 have kA:=(Aac.refl H).alloc (.cells true false 4 [u.s,u.p,u.g,u.r] 27)
 have tC:=t30 (h.keeps kA) hf
 simp only[hul]at tC ⊢
 simp(disch:=first|assumption|omega|(simp only[LN]<;>omega)|(simp(disch:=first|assumption|omega|(simp only[LN]<;>omega))only[Aab,Aad];assumption))only[f10,P4,seval,os,op,og,or]
 refine Aae tC ?_
 rintro _ X ⟨hX,ie,rfl⟩
 rw[hX]
 have ne:(Aan L != 0)=true:=by simp[he]
 simp(disch:=first|assumption|omega)only[P4,seval,ne]
 exact hq2 _ _ ⟨_,rfl,kA,rfl⟩
theorem Acr(L:Ly):(Ai0 L).length=L.r.length:=by simp[Ai0]
theorem Ags{L:Ly}{i:Nat}(h:i<L.r.length){h':i<(Ai0 L).length}:(Ai0 L)[i]=Aei L i:=by simp[Ai0]
theorem Bey{H:Aaa}{v0 v1 v2 v3 v4:Value}{L:Ly}{f:Nat->Bool}{fn:Nat}{g:Nat->Nat->Bool}(hs:Sl H 6 v0 (Ai0 L))(hl:L.r.length<=64)
 (h1:v1.oneCell'=true) (h2:v2.oneCell'=true) (h3:v3.oneCell'=true) (h4:v4.oneCell'=true)
 (hF:∀(K:Aaa) i,i<L.r.length->∃w K',Aaq Tryz.prog 0 fn [.agg (Aei L i).toArray] K w K'/\w=S32 (g i)/\K'=K):
 ∃w H',Aaq Tryz.prog 0 185 [.agg #[v0,v1,v2,v3,v4],S64 f,.func (.func fn) #[] #[]] H w H'/\w=S32 (fun p=>(List.range L.r.length).any fun i=>f i&&g i p)/\H'=H:=by
 refine gci ?_
 refine Aam Bci ?_
 intro Q hq1 hq2
 have h0:=Sl.one hs
 have is0:=Sl.is hs
 have len:=hs.len
 rw[Acr]at len
 have k0:=(Aac.refl H).alloc (.cells true false 5 [v0,v1,v2,v3,v4] 167)
 simp(disch:=first|assumption|omega)only[Bci,P3,seval,Aah,Aao,h0,h1,h2,h3,h4,is0,len]
 rw[Aag]
 refine Aal (fun q fr K=>∃i x6 x7 x11 x12,fr=[.agg #[v0,v1,v2,v3,v4],S64 f,.func (.func fn) #[] #[],ptr H.n 0,.int .u32 0,S32 (fun p=>(List.range i).any fun i=>f i&&g i p),x6,x7,v0,.int .i64 ((L.r.length:Nat):Int),.int .i64 ((i:Nat):Int),x11,x12]∧
  Aac H K/\i<=L.r.length/\q=L.r.length-i) L.r.length
  ⟨0,_,_,_,_,by rw[Ae5];rfl,k0,by omega,rfl⟩ ?_
 rintro Q' q fr K ⟨i,x6,x7,x11,x12,rfl,kK,hi,rfl⟩ hn' hx' hret
 by_cases hlt:i<L.r.length
 ·obtain⟨na,ra⟩:=(hs.keeps kK).at_ (by omega) (i:=i) (by rw[Acr];exact hlt)
  rw[Ags hlt]at ra
  have e0:(0:Int)<=(i:Int):=by omega
  have e1:(i:Int)<((L.r.length:Nat):Int):=by omega
  have hw:=wrS (i:=i) (by omega)
  have hasE:Abx f (i:Int)=f i:=by
   have a:(i:Int)<64:=by omega
   simp[Abx,a]
  have hf:=fun K=>hF K i hlt
  unfold Aei at ra hf
  have kA:=(Aac.refl K).alloc (.cells true false 6 (Aei L i) 207)
  have ext:(S32 fun p=>(List.range (i+1)).any fun i=>f i&&g i p)=S32 (fun p=>((List.range i).any fun i=>f i&&g i p)||(f i&&g i p)):=by
   congr 1;funext p;rw[List.range_succ,List.any_append];simp
  unfold Aei at kA
  simp(disch:=first|assumption|omega|(simp only[LN]<;>omega)|(simp(disch:=first|assumption|omega|(simp only[LN]<;>omega))only[Aab,Aad];assumption))only[P4,seval,e1,len,na,ra,Aai,O4]
  refine Aae (A72 f _) ?_
  rintro _ X ⟨rfl,hX⟩
  rw[hX,hasE]
  cases hfi:f i with
  |false=>
   rw[hfi]at ext
   simp(disch:=first|assumption|omega)only[P4,seval,hw]
   exact hn' _ _ _ ⟨i+1,_,_,_,_,by rw[ext];simp;exact⟨rfl,rfl,rfl,rfl⟩,kK.trans kA,by omega,rfl⟩ (by omega)
  |true=>
   rw[hfi]at ext
   simp(disch:=first|assumption|omega|(simp only[LN]<;>omega)|(simp(disch:=first|assumption|omega|(simp only[LN]<;>omega))only[Aab,Aad];assumption))only[P4,seval,O4,Acw,List.nil_append,List.append_nil,Ac4]
   refine Aat (hf _) ?_
   simp(disch:=first|assumption|omega)only[P4,seval,hw,Al3,O4]
   exact hn' _ _ _ ⟨i+1,_,_,_,_,by rw[ext];simp;exact⟨rfl,rfl,rfl,rfl⟩,kK.trans kA,by omega,rfl⟩ (by omega)
 ·have e1:¬((i:Nat):Int)<((L.r.length:Nat):Int):=by omega
  have hie:i=L.r.length:=by omega
  subst hie
  simp(disch:=first|assumption|omega)only[P4,seval,e1]
  refine hx' _ _ _ ?_
  simp(disch:=first|assumption|omega)only[P4,seval]
  exact hq2 _ _ ⟨_,rfl,rfl,kK⟩
theorem t188{H:Aaa}{v0 v1 v2 v3 v4:Value}{L:Ly}{f:Nat->Bool}{fn:Nat}{g:Nat->Nat->Bool}(hs:Sl H 6 v0 (Ai0 L))(hl:L.r.length<=64)
 (h1:v1.oneCell'=true) (h2:v2.oneCell'=true) (h3:v3.oneCell'=true) (h4:v4.oneCell'=true)
 (hF:∀(K:Aaa) i,i<L.r.length->∃w K',Aaq Tryz.prog 0 fn [.agg (Aei L i).toArray] K w K'/\w=S64 (g i)/\K'=K):
 ∃w H',Aaq Tryz.prog 0 188 [.agg #[v0,v1,v2,v3,v4],S64 f,.func (.func fn) #[] #[]] H w H'/\w=S64 (fun p=>(List.range L.r.length).any fun i=>f i&&g i p)/\H'=H:=by
 refine gci ?_
 refine Aam Bcl ?_
 intro Q hq1 hq2
 have h0:=Sl.one hs
 have is0:=Sl.is hs
 have len:=hs.len
 rw[Acr]at len
 have k0:=(Aac.refl H).alloc (.cells true false 5 [v0,v1,v2,v3,v4] 167)
 simp(disch:=first|assumption|omega)only[Bcl,P3,seval,Aah,Aao,h0,h1,h2,h3,h4,is0,len]
 rw[Aag]
 refine Aal (fun q fr K=>∃i x6 x7 x11 x12,fr=[.agg #[v0,v1,v2,v3,v4],S64 f,.func (.func fn) #[] #[],ptr H.n 0,.int .u64 0,S64 (fun p=>(List.range i).any fun i=>f i&&g i p),x6,x7,v0,.int .i64 ((L.r.length:Nat):Int),.int .i64 ((i:Nat):Int),x11,x12]∧
  Aac H K/\i<=L.r.length/\q=L.r.length-i) L.r.length
  ⟨0,_,_,_,_,by rw[Acs];rfl,k0,by omega,rfl⟩ ?_
 rintro Q' q fr K ⟨i,x6,x7,x11,x12,rfl,kK,hi,rfl⟩ hn' hx' hret
 by_cases hlt:i<L.r.length
 ·obtain⟨na,ra⟩:=(hs.keeps kK).at_ (by omega) (i:=i) (by rw[Acr];exact hlt)
  rw[Ags hlt]at ra
  have e0:(0:Int)<=(i:Int):=by omega
  have e1:(i:Int)<((L.r.length:Nat):Int):=by omega
  have hw:=wrS (i:=i) (by omega)
  have hasE:Abx f (i:Int)=f i:=by
   have a:(i:Int)<64:=by omega
   simp[Abx,a]
  have hf:=fun K=>hF K i hlt
  unfold Aei at ra hf
  have kA:=(Aac.refl K).alloc (.cells true false 6 (Aei L i) 207)
  have ext:(S64 fun p=>(List.range (i+1)).any fun i=>f i&&g i p)=S64 (fun p=>((List.range i).any fun i=>f i&&g i p)||(f i&&g i p)):=by
   congr 1;funext p;rw[List.range_succ,List.any_append];simp
  unfold Aei at kA
  simp(disch:=first|assumption|omega|(simp only[LN]<;>omega)|(simp(disch:=first|assumption|omega|(simp only[LN]<;>omega))only[Aab,Aad];assumption))only[P4,seval,e1,len,na,ra,Aai,O4]
  refine Aae (A72 f _) ?_
  rintro _ X ⟨rfl,hX⟩
  rw[hX,hasE]
  cases hfi:f i with
  |false=>
   rw[hfi]at ext
   simp(disch:=first|assumption|omega)only[P4,seval,hw]
   exact hn' _ _ _ ⟨i+1,_,_,_,_,by rw[ext];simp;exact⟨rfl,rfl,rfl,rfl⟩,kK.trans kA,by omega,rfl⟩ (by omega)
  |true=>
   rw[hfi]at ext
   simp(disch:=first|assumption|omega|(simp only[LN]<;>omega)|(simp(disch:=first|assumption|omega|(simp only[LN]<;>omega))only[Aab,Aad];assumption))only[P4,seval,O4,Acw,List.nil_append,List.append_nil,Ac4]
   refine Aat (hf _) ?_
   simp(disch:=first|assumption|omega)only[P4,seval,hw,Agw,O4]
   exact hn' _ _ _ ⟨i+1,_,_,_,_,by rw[ext];simp;exact⟨rfl,rfl,rfl,rfl⟩,kK.trans kA,by omega,rfl⟩ (by omega)
 ·have e1:¬((i:Nat):Int)<((L.r.length:Nat):Int):=by omega
  have hie:i=L.r.length:=by omega
  subst hie
  simp(disch:=first|assumption|omega)only[P4,seval,e1]
  refine hx' _ _ _ ?_
  simp(disch:=first|assumption|omega)only[P4,seval]
  exact hq2 _ _ ⟨_,rfl,rfl,kK⟩
def nor(L:Ly)(i:Nat):Nat->Bool:=ndP (nds (ro L i)) false
def rev(L:Ly)(i:Nat):Nat->Bool:=ndP (nds (ro L i)) true
theorem t186{H:Aaa}(L:Ly)(i:Nat):∃w K',Aaq Tryz.prog 0 186 [.agg (Aei L i).toArray] H w K'/\w=S32 (nor L i)/\K'=H:=by
 refine gci ?_
 refine Aam Bcj ?_
 intro Q hq1 hq2
 have k:=(Aac.refl H).alloc (.cells true false 6 (Aei L i) 207)
 unfold Aei at k ⊢
 simp(disch:=first|assumption|omega)only[Bcj,P4,seval,O4]
 exact hq2 _ _ ⟨_,rfl,rfl,k⟩
theorem t187{H:Aaa}(L:Ly)(i:Nat):∃w K',Aaq Tryz.prog 0 187 [.agg (Aei L i).toArray] H w K'/\w=S32 (rev L i)/\K'=H:=by
 refine gci ?_
 refine Aam Bck ?_
 intro Q hq1 hq2
 have k:=(Aac.refl H).alloc (.cells true false 6 (Aei L i) 207)
 unfold Aei at k ⊢
 simp(disch:=first|assumption|omega)only[Bck,P4,seval,O4]
 exact hq2 _ _ ⟨_,rfl,rfl,k⟩
theorem t189{H:Aaa}(L:Ly)(i:Nat):∃w K',Aaq Tryz.prog 0 189 [.agg (Aei L i).toArray] H w K'/\w=S64 (Ahr L i)/\K'=H:=by
 refine gci ?_
 refine Aam Bcm ?_
 intro Q hq1 hq2
 have k:=(Aac.refl H).alloc (.cells true false 6 (Aei L i) 207)
 unfold Aei at k ⊢
 simp(disch:=first|assumption|omega)only[Bcm,P4,seval,O4]
 exact hq2 _ _ ⟨_,rfl,rfl,k⟩
def Ahg(L:Ly)(f:Nat->Bool)(g:Nat->Nat->Bool)(p:Nat):Bool:=(List.range L.r.length).any fun i=>f i&&g i p
structure MsR (H:Aaa) (vr vl:Value) (L:Ly):Prop where
 r:Sl H 6 vr (Ai0 L)
 l:Sl H 1 vl (A58 L)
theorem MsR.keeps{H K:Aaa}{vr vl:Value}{L:Ly}(h:MsR H vr vl L)(k:Aac H K):MsR K vr vl L:=⟨h.r.keeps k,h.l.keeps k⟩
theorem Bez{H:Aaa}{vr vl:Value}{L:Ly}{f:Nat->Bool}(h:MsR H vr vl L)(hl:L.r.length<=64):
 ∃w K',Aaq Tryz.prog 0 174 [.agg (Abm L vr vl).toArray,S64 f] H w K'/\w=.tuple #[S32 (Ahg L f (nor L)),S32 (Ahg L f (rev L))]/\K'=H:=by
 suffices h':∃w K',Aaq Tryz.prog 0 174 [.agg (Abm L vr vl).toArray,S64 f] H w K'/\w=.tuple #[S32 (Ahg L f (nor L)),S32 (Ahg L f (rev L))]/\Aac H K' by
  obtain⟨_,_,a,rfl,k⟩:=h'
  exact⟨_,_,a.gc0 k (.inr (.tuple _ _ rfl (fun i a b=>by
   match i,a with
   |0,_=>exact .int _ _
   |1,_=>exact .int _ _))),rfl,rfl⟩
 refine Aam Bcn ?_
 intro Q hq1 hq2
 have r1:=Sl.one h.r
 have l1:=Sl.one h.l
 have kA:=(Aac.refl H).alloc (.cells true false 5 (Abm L vr vl) 167)
 have hA:=h.keeps kA
 unfold Abm at kA hA ⊢
 simp(disch:=first|assumption|omega|(simp only[LN]<;>omega)|(simp(disch:=first|assumption|omega|(simp only[LN]<;>omega))only[Aab,Aad];assumption))only[Bcn,P4,seval,r1,l1,O4]
 refine Aat (Bey hA.r hl l1 rfl rfl rfl (fun K i _=>t186 L i)) ?_
 simp(disch:=first|assumption|omega|(simp only[LN]<;>omega)|(simp(disch:=first|assumption|omega|(simp only[LN]<;>omega))only[Aab,Aad];assumption))only[P4,seval,r1,l1,O4]
 refine Aat (Bey hA.r hl l1 rfl rfl rfl (fun K i _=>t187 L i)) ?_
 simp(disch:=first|assumption|omega)only[P4,seval,r1,l1,O4]
 exact hq2 _ _ ⟨_,rfl,rfl,kA⟩
theorem t175{H:Aaa}{vr vl:Value}{L:Ly}{f:Nat->Bool}(h:MsR H vr vl L)(hl:L.r.length<=64):
 ∃w K',Aaq Tryz.prog 0 175 [.agg (Abm L vr vl).toArray,S64 f] H w K'/\w=S64 (Ahg L f (Ahr L))/\K'=H:=by
 refine gci ?_
 refine Aam Bco ?_
 intro Q hq1 hq2
 have r1:=Sl.one h.r
 have l1:=Sl.one h.l
 have kA:=(Aac.refl H).alloc (.cells true false 5 (Abm L vr vl) 167)
 have hA:=h.keeps kA
 unfold Abm at kA hA ⊢
 simp(disch:=first|assumption|omega|(simp only[LN]<;>omega)|(simp(disch:=first|assumption|omega|(simp only[LN]<;>omega))only[Aab,Aad];assumption))only[Bco,P4,seval,r1,l1,O4]
 refine Aat (t188 hA.r hl l1 rfl rfl rfl (fun K i _=>t189 L i)) ?_
 simp(disch:=first|assumption|omega)only[P4,seval,Aci]
 exact hq2 _ _ ⟨_,rfl,rfl,kA⟩
def MaR(H:Aaa)(b:Nat)(L:Ly):Prop:=∃vr vl own room T,H.get b=some (.cells own room 5 (Abm L vr vl) T)/\MsR H vr vl L
theorem MaR.keeps{H K:Aaa}{b:Nat}{L:Ly}(h:MaR H b L)(k:Aac H K):MaR K b L:=by
 obtain⟨vr,vl,o,r,T,g,m⟩:=h
 exact⟨vr,vl,o,r,T,k.at_ g,m.keeps k⟩
def MaF(n:Nat)(H:Aaa)(b:Nat)(L:Ly):Prop:=∃vr vl own room T,(n<=b/\Ads n vr/\Ads n vl)/\H.get b=some (.cells own room 5 (Abm L vr vl) T)/\MsR H vr vl L
theorem MaF.r{n:Nat}{H:Aaa}{b:Nat}{L:Ly}(h:MaF n H b L):MaR H b L:=by
 obtain⟨vr,vl,o,r,T,_,g,m⟩:=h
 exact⟨vr,vl,o,r,T,g,m⟩
theorem MaF.same{n:Nat}{H K:Aaa}{b:Nat}{L:Ly}(h:MaF n H b L)(k:∀c,n<=c->c<H.n->K.get c=H.get c):MaF n K b L:=by
 obtain⟨vr,vl,o,r,T,⟨f1,f2,f3⟩,g,m⟩:=h
 exact⟨vr,vl,o,r,T,⟨f1,f2,f3⟩,by rw[k b f1 (Aaa.Bfg g)];exact g,⟨m.r.get' fun c hc hl=>k c (f2 c hc) hl,m.l.get' fun c hc hl=>k c (f3 c hc) hl⟩⟩
theorem Bar(a b c d e:Value):Aau [.slice none 0 0,.slice none 0 0,.int .u64 0,.int .u32 0,.int .u64 0] [(0,5,.agg #[a,b,c,d,e])]=some [a,b,c,d,e]:=rfl
theorem t60{H:Aaa}{u:V4}{xs:List RV}{L:Ly}(h:LyR H u xs L)(hf:Ah5 9223372036854775807 L):
 ∃w H',Aaq Tryz.prog 0 60 [.agg u.l.toArray] H w H'/\Aac H H'/\(Aan L≠0->w=.tuple #[.pointer none,.int .i64 (Aan L)])∧
  (Aan L=0->∃b,w=.tuple #[ptr b 0,.int .i64 0]/\MaF H.n H' b L):=by
 refine Aam f60 ?_
 intro Q hq1 hq2
 have os:=Sl.one h.s
 have op:=Sl.one h.p
 have og:=Sl.one h.g
 have or:=Sl.one h.r
 have hul:u.l=[u.s,u.p,u.g,u.r]:=rfl
 have kA:=(Aac.refl H).alloc (.cells true false 4 u.l 27)
 have tM:=t92 (h.keeps kA) hf
 simp only[hul]at kA tM ⊢
 simp(disch:=first|assumption|omega|(simp only[LN]<;>omega)|(simp(disch:=first|assumption|omega|(simp only[LN]<;>omega))only[Aab,Aad];assumption))only[f60,P4,seval,os,op,og,or]
 refine Aae tM ?_
 rintro _ K1 ⟨k1,e1,e2⟩
 by_cases he:Aan L=0
 case neg=>
  rw[e1 he]
  have ne:(Aan L != 0)=true:=by simp[he]
  simp(disch:=first|assumption|omega|(simp only[LN]<;>omega)|(simp(disch:=first|assumption|omega|(simp only[LN]<;>omega))only[Aab,Aad];assumption))only[P4,seval,ne]
  exact hq2 _ _ ⟨_,rfl,(kA.trans k1).alloc _,fun _=>rfl,fun e=>absurd e he⟩
 case pos=>
 obtain⟨vr,vl,rfl,sr,sl,fr,fl⟩:=e2 he
 have r1:=Sl.one sr
 have l1:=Sl.one sl
 unfold Abm
 have k2:=((Aac.refl K1).alloc (.cells true false 5 (Abm L vr vl) 167)).alloc (.cells true false 5 (Abm L vr vl) 171)
 have g2:=Aaa.Bfd (K1.alloc (.cells true false 5 (Abm L vr vl) 167)) (.cells true false 5 (Abm L vr vl) 171)
 have n1:=kA.n
 have n2:=k1.n
 have nA:(H.alloc (.cells true false 4 u.l 27)).n=H.n+1:=rfl
 have m2:MaF H.n ((K1.alloc (.cells true false 5 (Abm L vr vl) 167)).alloc (.cells true false 5 (Abm L vr vl) 171)) (K1.n+1) L:=⟨vr,vl,_,_,_,⟨by simp only[Acd]at*;omega,fun b hb=>Nat.le_trans (by simp only[Acd]at*;omega) (fr b hb),fun b hb=>Nat.le_trans (by simp only[Acd]at*;omega) (fl b hb)⟩,g2,(MsR.mk sr sl).keeps k2⟩
 unfold Abm at k2 m2
 simp(disch:=first|assumption|omega|(simp only[LN]<;>omega)|(simp(disch:=first|assumption|omega|(simp only[LN]<;>omega))only[Aab,Aad];assumption))only[P4,seval,r1,l1,O4,Bar]
 exact hq2 _ _ ⟨_,rfl,(kA.trans k1).trans k2,fun e=>absurd he e,fun _=>⟨_,rfl,m2⟩⟩
structure Sta where
 lo:Nat->Bool
 us:Nat->Bool
 ca:Nat->Bool
 ti:Nat->Nat
 po:Nat->Bool
def tis(t:Nat->Nat):List Value:=(List.range 64).map fun i=>Value.int .u8 (t i:Nat)
def stl(s:Sta):List Value:=S64 s.lo::S64 s.us::S64 s.ca::(tis s.ti++[S32 s.po])
theorem Aed(t:Nat->Nat):(tis t).length=64:=by simp[tis]
theorem Al0{t:Nat->Nat}{i:Nat}(h:i<64):(tis t)[i]? =some (.int .u8 (t i:Nat)):=by simp[tis,h]
theorem Aaf(s:Sta):(stl s).length=68:=by simp[stl,Aed]
theorem Abt(s:Sta):(stl s)[0]? =some (S64 s.lo):=rfl
theorem Aee(s:Sta):(stl s)[1]? =some (S64 s.us):=rfl
theorem Adm(s:Sta):(stl s)[2]? =some (S64 s.ca):=rfl
theorem Ab0(s:Sta):(stl s)[67]? =some (S32 s.po):=by
 show(tis s.ti++[S32 s.po])[64]? =_
 rw[List.getElem?_append_right (by rw[Aed];omega),Aed];rfl
theorem Ak2(s:Sta){i:Nat}(h:i<64):(stl s)[3+i]? =some (.int .u8 (s.ti i:Nat)):=by
 rw[Nat.add_comm]
 show(tis s.ti++[S32 s.po])[i]? =_
 rw[List.getElem?_append_left (by rw[Aed];omega),Al0 h]
theorem Ahh(s:Sta)(f:Nat->Bool):(stl s).set 0 (S64 f)=stl {s with lo:=f}:=rfl
theorem Ahx(s:Sta)(f:Nat->Bool):(stl s).set 1 (S64 f)=stl {s with us:=f}:=rfl
theorem Agt(s:Sta)(f:Nat->Bool):(stl s).set 2 (S64 f)=stl {s with ca:=f}:=rfl
theorem Afl(s:Sta)(f:Nat->Bool):(stl s).set 67 (S32 f)=stl {s with po:=f}:=by
 show _::_::_::((tis s.ti++[S32 s.po]).set 64 (S32 f))=_
 rw[List.set_append_right _ _ (by rw[Aed];omega),Aed];rfl
def upd(t:Nat->Nat)(i n:Nat)(j:Nat):Nat:=if j=i then n else t j
theorem A1f(t:Nat->Nat)(i n:Nat):(tis t).set i (.int .u8 (n:Nat))=tis (upd t i n):=by
 apply List.ext_getElem?
 intro j
 rw[List.getElem?_set,Aed]
 by_cases e:i=j
 ·subst e
  by_cases h:i<64
  ·rw[if_pos rfl,if_pos h,Al0 h];simp[upd]
  ·rw[if_pos rfl,if_neg h];simp[tis,h]
 ·rw[if_neg e]
  have e2:¬j=i:=fun x=>e x.symm
  by_cases h:j<64
  ·rw[Al0 h,Al0 h];simp[upd,e2]
  ·simp[tis,h]
theorem Ajl(s:Sta){i:Nat}(h:i<64)(n:Nat):(stl s).set (3+i) (.int .u8 (n:Nat))=stl {s with ti:=upd s.ti i n}:=by
 rw[Nat.add_comm]
 show _::_::_::((tis s.ti++[S32 s.po]).set i _)=_
 rw[List.set_append_left _ _ (by rw[Aed];omega),A1f];rfl
theorem Al1(s:Sta){i:Nat}(h:i<64):(stl s).set (3+i) (.int .u8 0)=stl {s with ti:=upd s.ti i 0}:=Ajl s h 0
theorem As7(s:Sta){i:Nat}(h:i<64):(stl s).set (3+i) (.int .u8 20)=stl {s with ti:=upd s.ti i 20}:=Ajl s h 20
theorem A1g(s:Sta):((stl s).drop 3).take 64=tis s.ti:=by
 show(tis s.ti++[S32 s.po]).take 64=_
 rw[List.take_append_of_le_length (by rw[Aed];omega),List.take_of_length_le (by rw[Aed];omega)]
theorem A1h(t:Nat->Nat):(tis t).all Value.oneCell'=true:=by
 rw[List.all_eq_true];intro x hx
 obtain⟨i,_,rfl⟩:=List.mem_map.1 hx
 rfl
theorem Aas(s:Sta):(stl s).all Value.oneCell'=true:=by
 show(true&&(true&&(true&&(tis s.ti++[S32 s.po]).all Value.oneCell')))=true
 rw[List.all_append,A1h];rfl
def Abi:Sta:=⟨fun _=>false,fun _=>false,fun _=>false,fun _=>0,fun _=>false⟩
theorem Ac9:[.int .u64 0,.int .u64 0,.int .u64 0]++List.replicate 64 (.int .u8 0)++[.int .u32 0]=stl Abi:=by
 show Value.int .u64 0::Value.int .u64 0::Value.int .u64 0::(List.replicate 64 (.int .u8 0)++[.int .u32 0])=_
 rw[Acs,Ae5]
 show _=S64 _::S64 _::S64 _::(tis (fun _=>0)++[S32 _])
 have:tis (fun _=>0)=List.replicate 64 (.int .u8 0):=by
  unfold tis;rw[List.map_const'];simp
 rw[this];rfl
theorem As8(s:Sta)(o r:Bool)(T:Nat):Ac5 (some (.cells o r 68 (stl s) T)) 3 64=some (tis s.ti):=by
 rw[Agl,if_pos (by rw[Aaf];omega),A1g]
theorem As9(H:Aaa)(t:Nat->Nat)(i:Nat)(h:i<64):Aak (.idxa false 1 64 (.agg (tis t).toArray) (.int .i64 (i:Int))) H=some (.int .u8 (t i:Nat),H):=by
 simp only[Aak]
 rw[if_pos ⟨by omega,by omega⟩]
 have:Int.toNat (i:Int)=i:=by omega
 simp[this,Al0 h]
def sti(s:Sta):List Int:=((Aa0 s.lo 64:Nat):Int)::((Aa0 s.us 64:Nat):Int)::((Aa0 s.ca 64:Nat):Int)::((List.range 64).map (fun i=>(s.ti i:Int))++[((Aa0 s.po 32:Nat):Int)])
def Atz(s t:Sta):Bool:=decide (sti s=sti t)
theorem Al2:∀(ks:List IntKind) (xs ys:List Int),xs.length=ks.length->ys.length=ks.length->Ae6 (List.replicate ks.length 1) (List.zipWith Value.int ks xs) (List.zipWith Value.int ks ys)=some (decide (xs=ys))
 |[],[],[],_,_=>by simp[Ae6]
 |k::ks,x::xs,y::ys,h1,h2=>by
  have ih:=Al2 ks xs ys (by simpa using h1) (by simpa using h2)
  simp only[List.length_cons,List.replicate_succ,List.zipWith_cons_cons,Ae6,eqC,if_true,ih]
  congr 1
  rw[Bool.eq_iff_iff];simp
 |[],_::_,_,h,_=>by simp at h
 |[],[],_::_,_,h=>by simp at h
 |_::_,[],_,h,_=>by simp at h
 |_::_,_::_,[],_,h=>by simp at h
def K68:List IntKind:=.u64:: .u64:: .u64::(List.replicate 64 .u8++[.u32])
theorem Ata{k:IntKind}:∀(l:List Int),List.zipWith Value.int (List.replicate l.length k) l=l.map (Value.int k)
 |[]=>rfl
 |a::l=>by rw[List.length_cons,List.replicate_succ,List.zipWith_cons_cons,Ata l];rfl
theorem Atb(s:Sta):stl s=List.zipWith Value.int K68 (sti s):=by
 have h:((List.range 64).map (fun i=>(s.ti i:Int))).length=64:=by simp
 have e:=Ata (k:=.u8) ((List.range 64).map (fun i=>(s.ti i:Int)))
 rw[h]at e
 show _::_::_::(tis s.ti++[S32 s.po])=_::_::_::List.zipWith Value.int (List.replicate 64 .u8++[.u32]) (_++[_])
 rw[List.zipWith_append (by simp),e]
 simp[tis,S64,S32]
theorem Ahs(H:Aaa)(neg:Bool)(s t:Sta):Aak (.eqs (List.replicate 68 1) neg (.agg (stl s).toArray) (.agg (stl t).toArray)) H=some (.bool (if neg then !Atz s t else Atz s t),H):=by
 simp only[Aak]
 have:=Al2 K68 (sti s) (sti t) (by simp[K68,sti]) (by simp[K68,sti])
 have hk:K68.length=68:=by simp[K68]
 rw[hk,<-Atb,<-Atb]at this
 rw[this];rfl
end Go.AM.Fd
namespace Go.AM.F
def Bcr:List Value:=[(.int .u64 0),(.int .u64 0),(.int .u64 0)]++List.replicate 64 (.int .u8 0)++[(.int .u32 0)]
def Bcs:TypeId->List Value
 |207=>[(.int .u64 0),(.int .u64 0),(.int .u64 0),(.int .u32 0),(.int .u32 0),(.int .u64 0)]
 |43=>Bcr
 |54=>[(.int .u64 0),(.int .u32 0)]
 |83=>[(.int .u8 0),(.int .i64 0)]
 |41=>[(.int .u32 0)]
 |_=>[]
def Bct:TypeId->Value
 |_=>undef
def Bcu:TypeId->List Nat
 |_=>[]
def Bcv:Nat->TypeId->List Value
 |_,_=>[]
structure QzG (sl:List Nat) (n:Nat) where
 p:CzV sl n:=by
  refine(fun(_:Cz Bcs Bct Bcu Bcv Go.Proofs.Tryz.prog 0 ?sl ?n ?a)=>(CzV.mk ?a:CzV ?sl ?n)) ?h
  case h=>
  intro zc zv zk zr hc hv hk hr
  conv=>lhs;cbv;try simp only[hc,hv,hk,hr,Bcs,Bct,Bcu,Bcv]
noncomputable def Bcw:=({}:QzG [0,1,2,3,7,8,9,10,11,12,13,18,19,29,79,117,136,143,183] 176).p.a
noncomputable def Bcx:=({}:QzG [0,1,4,5,6,7,8,9,10,11,18] 177).p.a
noncomputable def Bcy:=({}:QzG [0,1,2,4,5] 178).p.a
noncomputable def Bcz:=({}:QzG [0,1,2,4,5] 179).p.a
noncomputable def Bc0:=({}:QzG [0,1,4,5,6,7,8,9,10,11,18] 180).p.a
noncomputable def Bc1:=({}:QzG [0,1,4] 181).p.a
noncomputable def Bc2:=({}:QzG [0,1,2,3] 166).p.a
noncomputable def A96:=({}:QzG [0,1,2,3,5,6] 183).p.a
noncomputable def Bc3:=({}:QzG [0,1,4] 172).p.a
noncomputable def Bc4:=({}:QzG [0,1,2,4,5,6,7,8,9,10,11,12,13,14,15,17,19,20,21,22,24,33,34,35,36,41,81,82,83,84,96,97,98,99] 171).p.a
end Go.AM.F
