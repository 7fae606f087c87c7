/- Part of the proof. -/
import Derived.Test.YtfjdehnnfljjfaaGreatGLK02
import Derived.Laws.Externs
set_option linter.unusedSimpArgs false
set_option linter.unusedVariables false
set_option linter.unusedSimpArgs false
set_option linter.unusedVariables false
namespace Go.AM
def WR(H:AHeap)(e esz:Nat)(v:Value)(n:Nat)(c:List Value):Prop:=
 (v=.slice none 0 0∧n=0∧c=[])∨∃b k room d,v=slc b 0 n k∧n≤k∧d.length=k*esz∧d.take (n*esz)=c∧H.get b=some (.cells true room esz d e)
section
variable {H H':AHeap} {e esz:Nat} {v:Value} {n:Nat} {c:List Value}
theorem AP.wr(h:AP H e esz v n c):WR H e esz v n c:=by
 rcases h with h|⟨b,room,rfl,h1,h2⟩
 ·exact .inl h
 ·exact .inr ⟨b,n,room,c,rfl,Nat.le_refl _,h1,by rw[←h1,List.take_length],h2⟩
theorem WR.elems(h:WR H e esz v n c):elemsA H esz v=some c:=by
 rcases h with⟨rfl,rfl,rfl⟩|⟨b,k,room,d,rfl,h1,h2,rfl,h4⟩
 ·rfl
 ·have:=Nat.mul_le_mul_right esz h1
  simp only[elemsA,slc,h4]
  rw[if_pos (by omega),List.drop_zero]
theorem WR.shape(h:WR H e esz v n c):∃a k,v=.slice a n k:=by
 rcases h with⟨rfl,rfl,rfl⟩|⟨b,k,room,d,rfl,h1,h2,h3,h4⟩
 ·exact⟨_,_,rfl⟩
 ·exact⟨_,_,rfl⟩
theorem WR.is(h:WR H e esz v n c):isS v=true:=by obtain⟨a,k,rfl⟩:=h.shape;rfl
theorem WR.sl{rows:List (List Value)}(h:WR H e esz v n rows.flatten)(hr:∀r∈rows,r.length=esz)(hn:n=rows.length):Sl H esz v rows:=by
 obtain⟨a,k,rfl⟩:=h.shape
 exact⟨⟨a,k,by rw[hn]⟩,hr,h.elems⟩
theorem WR.app{bytes m:Nat}{news:List Value}(h:WR H e esz v n c)(hm:news.length=m*esz)(hs:(n+m)*bytes≤140737488355328∧n+m≤140737488355328):
 ∃v' H',appA H e esz bytes v m news=some (v',H')∧WR H' e esz v' (n+m) (c++news)∧Chg (blkL v) H H'∧(blk v'=blk v∨blk v'=some H.n):=by
 rcases h with⟨rfl,rfl,rfl⟩|⟨b,k,room,d,rfl,h1,h2,h3,h4⟩
 ·obtain⟨v',H',a,b,d⟩:=AP.app (H:=H) (e:=e) (esz:=esz) (v:=.slice none 0 0) (n:=0) (c:=[]) (.inl ⟨rfl,rfl,rfl⟩) hm hs
  exact⟨v',H',a,b.wr,d⟩
 ·simp only[appA,slc]
  by_cases hm0:m=0
  ·subst hm0
   have:news=[]:=by rw[←List.length_eq_zero_iff];omega
   subst this
   rw[if_pos rfl]
   exact⟨_,_,rfl,.inr ⟨b,k,room,d,rfl,h1,h2,by simpa using h3,h4⟩,Chg.refl _ _,.inl rfl⟩
  ·have hle:=Nat.mul_le_mul_right esz h1
   have hc:c.length=n*esz:=by rw[←h3,List.length_take,h2];omega
   have hnm:(n+m)*esz=n*esz+m*esz:=Nat.add_mul _ _ _
   rw[if_neg hm0,if_pos hs]
   simp only[h4,true_and]
   rw[if_pos (show 0+k*esz≤d.length by omega)]
   by_cases hk:n+m≤k
   ·have hle2:=Nat.mul_le_mul_right esz hk
    rw[if_pos hk]
    simp only[if_true]
    refine⟨_,_,rfl,.inr ⟨b,k,room,_,rfl,hk,?_,?_,AHeap.get_set_same h4 _⟩,Chg.set H (AHeap.get_lt h4) _,.inl rfl⟩
    ·rw[List.length_append,List.length_append,List.length_take,List.length_drop,hm];omega
    ·rw[Nat.zero_add,h3,List.take_append_of_le_length (by rw[List.length_append,hc,hm];omega),List.take_of_length_le (by rw[List.length_append,hc,hm];omega)]
   ·rw[if_neg hk,List.drop_zero,h3]
    have hlen:(c++news).length=(n+m)*esz:=by rw[List.length_append,hc,hm,Nat.add_mul]
    split
    ·exact⟨_,_,rfl,.inr ⟨H.n,n+m,true,_,rfl,Nat.le_refl _,hlen,by rw[←hlen,List.take_length],AHeap.get_alloc_new H _⟩,(Chg.refl _ _).alloc _,.inr rfl⟩
    ·exact⟨_,_,rfl,.inr ⟨H.n,n+m,true,_,rfl,Nat.le_refl _,hlen,by rw[←hlen,List.take_length],AHeap.get_alloc_new (H.set b .dead) _⟩,(Chg.set H (AHeap.get_lt h4) _).alloc _,.inr rfl⟩
end
section
variable {P:Program} {ng:Nat} {H:AHeap} {KF:List Value→AHeap→Prop} {fr tm:List Value} {tr:List TE} {e esz:Nat} {v:Value} {n:Nat} {c:List Value}
theorem WR.appR{d:D}{r:List AOper}{bytes:Nat}{x:Value}{m:Nat}{news:List Value}(h:WR H e esz v n c)(hx:∃a k,x=.slice a m k)(h1:elemsA H esz x=some news)(hm:news.length=m*esz)
 (hs:(n+m)*bytes≤140737488355328∧n+m≤140737488355328)
 (hk:∀v' H',WR H' e esz v' (n+m) (c++news)→Chg (blkL v) H H'→(blk v'=blk v∨blk v'=some H.n)→RW P ng r (d.frame v' fr) (d.temps v' tm) H' KF):goR P ng (asem (.app e esz bytes v x) H) d r fr tm KF:=by
 obtain⟨v',H',e1,e2,e3,e4⟩:=h.app (bytes:=bytes) hm hs
 obtain⟨a,k,rfl⟩:=hx
 refine⟨v',H',?_,hk v' H' e2 e3 e4⟩
 simp only[asem,h1];exact e1
end
end Go.AM

set_option linter.unusedSimpArgs false
set_option linter.unusedVariables false
namespace Go.AM
section
variable {H K K':AHeap} {t t' a b c d:Th} {r ts:List Th}
end
def thA(e esz:Nat)(v:Value)(n:Nat)(c:List Value):Th where
 P K:=AP K e esz v n c
 F:=blkL v
 lt K h y hy:=h.lt (mem_blkL.1 hy)
 st K K' h hn k:=by
  rcases h with⟨rfl,rfl,rfl⟩|⟨b,room,rfl,h1,h2⟩
  ·exact .inl ⟨rfl,rfl,rfl⟩
  ·exact .inr ⟨b,room,rfl,h1,by rw[k b (mem_blkL.2 rfl)];exact h2⟩
end Go.AM

set_option linter.unusedSimpArgs false
set_option linter.unusedVariables false
namespace Go.AM
def cpre:Nat→ACode→ACode
 |0,_=>.skip
 |1,.seq a _=>a
 |n+2,.seq a b=>.seq a (cpre (n+1) b)
 |_+1,c=>c
def cpost:Nat→ACode→ACode
 |0,c=>c
 |n+1,.seq _ b=>cpost n b
 |_+1,_=>.skip
def cok:Nat→ACode→Bool
 |0,_=>false
 |1,.seq _ _=>true
 |n+2,.seq _ b=>cok (n+1) b
 |_+1,_=>false
variable {P:Program} {ng:Nat} {H:AHeap} {Q:AQ} {fr:List Value}
theorem andThen2(Q:AQ)(K K':List Value→AHeap→Prop):(Q.andThen K).andThen K'=Q.andThen K':=by
 funext e fr H
 cases e<;>rfl
theorem W_pp:∀(n:Nat) (c:ACode) (Q:AQ) (fr:List Value) (H:AHeap),cok n c=true→W P ng c Q fr H=W P ng (cpre n c) (Q.andThen (W P ng (cpost n c) Q)) fr H
 |0,c,Q,fr,H,h=>by simp[cok]at h
 |1,c,Q,fr,H,h=>by
  cases c<;>simp[cok]at h
  rfl
 |n+2,c,Q,fr,H,h=>by
  cases c<;>simp[cok]at h
  rename_i a b
  simp only[cpre,cpost,W_seq]
  rw[andThen2]
  congr 1
  funext e fr H
  cases e
  ·exact W_pp (n+1) b Q fr H h
  all_goals rfl
theorem W_part{c:ACode}(n:Nat)(M:List Value→AHeap→Prop)(hok:cok n c=true)
 (h1:∀Q':AQ,(∀fr H,M fr H→Q' .normal fr H)→(∀i fr H,Q (.exit i) fr H→Q' (.exit i) fr H)→(∀fr H,Q .ret fr H→Q' .ret fr H)→W P ng (cpre n c) Q' fr H)
 (h2:∀fr H,M fr H→W P ng (cpost n c) Q fr H):W P ng c Q fr H:=by
 rw[W_pp n c Q fr H hok]
 exact h1 _ (fun fr H h=>h2 fr H h) (fun _ _ _ h=>h) (fun _ _ h=>h)
end Go.AM

set_option linter.unusedSimpArgs false
set_option linter.unusedVariables false
namespace Go.AM
section
variable {P:Program} {ng:Nat} {H:AHeap} {Q:AQ} {fr tm:List Value}
theorem str_ext(l:List UInt8)(a b:Nat):(⟨l.toArray⟩:ByteArray).extract a b=⟨((l.take b).drop a).toArray⟩:=by
 apply ByteArray.ext
 rw[ByteArray.data_extract,List.drop_take]
 simp[List.extract_eq_take_drop]
theorem str_size(l:List UInt8):(⟨l.toArray⟩:ByteArray).size=l.length:=by simp[ByteArray.size]
theorem a_slsT{l:List UInt8}{n:Nat}{kd:IntKind}(h:n≤l.length):asem (.slstr (.string ⟨l.toArray⟩) (some (.int kd (n:Int))) none) H=some (.string ⟨(l.drop n).toArray⟩,H):=by
 simp only[asem,bndA,str_size]
 rw[if_pos (by omega)]
 simp[str_ext]
theorem a_slsP{l:List UInt8}{n:Nat}{kd:IntKind}(h:n≤l.length):asem (.slstr (.string ⟨l.toArray⟩) none (some (.int kd (n:Int)))) H=some (.string ⟨(l.take n).toArray⟩,H):=by
 simp only[asem,bndA,str_size]
 rw[if_pos (by omega)]
 simp[str_ext]
theorem a_slsM{l:List UInt8}{n m:Nat}{kd kd':IntKind}(h:n≤m)(h2:m≤l.length):asem (.slstr (.string ⟨l.toArray⟩) (some (.int kd (n:Int))) (some (.int kd' (m:Int)))) H=some (.string ⟨((l.take m).drop n).toArray⟩,H):=by
 simp only[asem,bndA,str_size]
 rw[if_pos (by omega)]
 simp only
 rw[if_pos (by omega)]
 simp[str_ext]
theorem a_idxS{l:List UInt8}{n:Nat}{kd:IntKind}(h:n<l.length):asem (.idxs (.string ⟨l.toArray⟩) (.int kd (n:Int))) H=some (.int .u8 ((l.getD n 0).toNat:Nat),H):=by
 simp only[asem,str_size]
 rw[if_pos (by omega)]
 simp[List.getD,List.getElem?_eq_getElem h]
theorem b_eqS(a b:List UInt8):binA .eql (.string ⟨a.toArray⟩) (.string ⟨b.toArray⟩)=some (.bool (decide (a=b))):=by rw[b_seql,bytes_eq]
theorem b_neS(a b:List UInt8):binA .neq (.string ⟨a.toArray⟩) (.string ⟨b.toArray⟩)=some (.bool (!decide (a=b))):=by rw[b_sneq,bytes_eq]
theorem b_addS{a b:List UInt8}(h:a.length+b.length≤140737488355328):binA .add (.string ⟨a.toArray⟩) (.string ⟨b.toArray⟩)=some (.string ⟨(a++b).toArray⟩):=by
 rw[b_sadd (by simpa[str_size]using h),bytes_append]
theorem yieldK{b:Nat}{xs:List Value}{R K:Value→AHeap→Prop}(h:∃v H',AYield P ng b xs H v H'∧R v H')(k:∀v H',R v H'→K v H'):∃v H',AYield P ng b xs H v H'∧K v H':=by
 obtain⟨v,H',h1,h2⟩:=h;exact⟨v,H',h1,k v H' h2⟩
end
theorem blen(ba:ByteArray):ba.data.toList.length=ba.size:=Array.length_toList
theorem bloop{β:Type}(f:β→UInt8→β)(ba:ByteArray):∀(i j:Nat) (b:β),j+i=ba.size→
 ByteArray.foldlM.loop (m:=_root_.Id) (fun b x=>pure (f b x)) ba ba.size (Nat.le_refl _) i j b=(ba.data.toList.drop j).foldl f b:=by
 intro i
 induction i with
 |zero=>
  intro j b h
  unfold ByteArray.foldlM.loop
  rw[dif_neg (by omega),List.drop_of_length_le (by rw[blen];omega)]
  rfl
 |succ i ih=>
  intro j b h
  unfold ByteArray.foldlM.loop
  have hj:j<ba.size:=by omega
  rw[dif_pos hj]
  have hl:j<ba.data.toList.length:=by rw[blen];exact hj
  rw[List.drop_eq_getElem_cons hl,List.foldl_cons]
  exact ih (j+1) _ (by omega)
theorem bfold{β:Type}(f:β→UInt8→β)(ba:ByteArray)(b:β):ba.foldl f b=ba.data.toList.foldl f b:=by
 unfold ByteArray.foldl ByteArray.foldlM
 rw[dif_pos (Nat.le_refl _)]
 exact bloop f ba ba.size 0 b (by omega)
def cB(c:UInt8):List UInt8→Nat
 |[]=>0
 |x::l=>if x=c then cB c l+1 else cB c l
theorem cB_fold(c:UInt8):∀(l:List UInt8) (n:Int),l.foldl (fun(n:Int) x=>if x==c then n+1 else n) n=n+(cB c l:Int)
 |[],n=>by simp[cB]
 |x::l,n=>by
  rw[List.foldl_cons,cB_fold]
  by_cases h:x=c
  ·have e:cB c (x::l)=cB c l+1:=by simp[cB,h]
   rw[e,if_pos (by simpa using h)];push_cast;omega
  ·have e:cB c (x::l)=cB c l:=by simp[cB,h]
   rw[e,if_neg (by simpa using h)]
end Go.AM

set_option linter.unusedSimpArgs false
set_option linter.unusedVariables false
namespace Go.AM
section
variable {P:Program} {ng:Nat} {H:AHeap} {Q:AQ} {fr tm:List Value} {KF:List Value→AHeap→Prop} {tr:List TE}
variable (d:D) (r:List AOper) (un:List Nat) (rd:List (AOper×List Nat))
theorem st_appz(e esz b:Nat)(z:List Value)(s x:Value):stR P ng (.appz e esz b z s x) d r fr tm H KF=goR P ng (asem (.appz e esz b z s x) H) d r fr tm KF:=st_of d r (by simp) (by simp) (by simp)
theorem st_cap(x:Value):stR P ng (.cap x) d r fr tm H KF=goR P ng (asem (.cap x) H) d r fr tm KF:=st_of d r (by simp) (by simp) (by simp)
end
section
variable {H:AHeap}
theorem a_cap0:asem (.cap (.slice none 0 0)) H=some (.int .i64 0,H):=_root_.id rfl
end
section
variable {κ:Type} [DecidableEq κ] {enc:κ→Value} {d:TypeDesc} {H:AHeap}
omit [DecidableEq κ]in
omit [DecidableEq κ]in
omit [DecidableEq κ]in
end
end Go.AM

set_option linter.unusedSimpArgs false
set_option linter.unusedVariables false
namespace Go.AM
def WO(H:AHeap)(e esz:Nat)(v:Value)(n:Nat)(c:List Value):Prop:=
 (v=.slice none 0 0∧n=0∧c=[])∨∃b o k room d,v=slc b o n k∧n≤k∧d.length=o+k*esz∧(d.drop o).take (n*esz)=c∧H.get b=some (.cells true room esz d e)
section
variable {H H':AHeap} {e esz:Nat} {v:Value} {n:Nat} {c:List Value}
theorem AP.wo(h:AP H e esz v n c):WO H e esz v n c:=by
 rcases h with h|⟨b,room,rfl,h1,h2⟩
 ·exact .inl h
 ·exact .inr ⟨b,0,n,room,c,rfl,Nat.le_refl _,by omega,by rw[List.drop_zero,←h1,List.take_length],h2⟩
theorem WO.nil(H:AHeap)(e esz:Nat):WO H e esz (.slice none 0 0) 0 []:=.inl ⟨rfl,rfl,rfl⟩
theorem WO.len(h:WO H e esz v n c):c.length=n*esz:=by
 rcases h with⟨rfl,rfl,rfl⟩|⟨b,o,k,room,d,rfl,h1,h2,rfl,h4⟩
 ·simp
 ·have:=Nat.mul_le_mul_right esz h1
  rw[List.length_take,List.length_drop,h2];omega
theorem WO.elems(h:WO H e esz v n c):elemsA H esz v=some c:=by
 rcases h with⟨rfl,rfl,rfl⟩|⟨b,o,k,room,d,rfl,h1,h2,rfl,h4⟩
 ·rfl
 ·have:=Nat.mul_le_mul_right esz h1
  simp only[elemsA,slc,h4]
  rw[if_pos (by omega)]
theorem WO.shape(h:WO H e esz v n c):∃a k,v=.slice a n k:=by
 rcases h with⟨rfl,rfl,rfl⟩|⟨b,o,k,room,d,rfl,h1,h2,h3,h4⟩
 ·exact⟨_,_,rfl⟩
 ·exact⟨_,_,rfl⟩
theorem WO.is(h:WO H e esz v n c):isS v=true:=by obtain⟨a,k,rfl⟩:=h.shape;rfl
theorem WO.lenS(h:WO H e esz v n c):Go.AM.lenS v=n:=by obtain⟨a,k,rfl⟩:=h.shape;rfl
theorem WO.one(h:WO H e esz v n c):v.oneCell'=true:=by obtain⟨a,k,rfl⟩:=h.shape;rfl
theorem WO.lt(h:WO H e esz v n c){b:Nat}(hb:blk v=some b):b<H.n:=by
 rcases h with⟨rfl,rfl,rfl⟩|⟨b',o,k,room,d,rfl,h1,h2,h3,h4⟩
 ·cases hb
 ·cases hb;exact AHeap.get_lt h4
theorem WO.chg{S:List Nat}(h:WO H e esz v n c)(k:Chg S H H')(hS:∀x∈blkL v,x∉S):WO H' e esz v n c:=by
 rcases h with h|⟨b,o,m,room,d,rfl,h1,h2,h3,h4⟩
 ·exact .inl h
 ·exact .inr ⟨b,o,m,room,d,rfl,h1,h2,h3,k.at_ h4 (hS b (mem_blkL.2 rfl))⟩
theorem WO.keeps(h:WO H e esz v n c)(k:Keeps H H'):WO H' e esz v n c:=h.chg (k.chg []) (by simp)
theorem WO.sl{rows:List (List Value)}(h:WO H e esz v n rows.flatten)(hr:∀r∈rows,r.length=esz)(hn:n=rows.length):Sl H esz v rows:=by
 obtain⟨a,k,rfl⟩:=h.shape
 exact⟨⟨a,k,by rw[hn]⟩,hr,h.elems⟩
theorem WO.get'(h:WO H e esz v n c)(k:∀b,blk v=some b→H'.get b=H.get b):WO H' e esz v n c:=by
 rcases h with h|⟨b,o,m,room,d,rfl,h1,h2,h3,h4⟩
 ·exact .inl h
 ·exact .inr ⟨b,o,m,room,d,rfl,h1,h2,h3,by rw[k b rfl];exact h4⟩
theorem WO.app{bytes m:Nat}{news:List Value}(h:WO H e esz v n c)(hm:news.length=m*esz)(hs:(n+m)*bytes≤140737488355328∧n+m≤140737488355328):
 ∃v' H',appA H e esz bytes v m news=some (v',H')∧WO H' e esz v' (n+m) (c++news)∧Chg (blkL v) H H'∧(blk v'=blk v∨blk v'=some H.n):=by
 rcases h with⟨rfl,rfl,rfl⟩|⟨b,o,k,room,d,rfl,h1,h2,h3,h4⟩
 ·obtain⟨v',H',a,b,d⟩:=AP.app (H:=H) (e:=e) (esz:=esz) (v:=.slice none 0 0) (n:=0) (c:=[]) (.inl ⟨rfl,rfl,rfl⟩) hm hs
  exact⟨v',H',a,b.wo,d⟩
 ·simp only[appA,slc]
  by_cases hm0:m=0
  ·subst hm0
   have:news=[]:=by rw[←List.length_eq_zero_iff];omega
   subst this
   rw[if_pos rfl]
   exact⟨_,_,rfl,.inr ⟨b,o,k,room,d,rfl,h1,h2,by simpa using h3,h4⟩,Chg.refl _ _,.inl rfl⟩
  ·have hle:=Nat.mul_le_mul_right esz h1
   have hc:c.length=n*esz:=by rw[←h3,List.length_take,List.length_drop,h2];omega
   have hnm:(n+m)*esz=n*esz+m*esz:=Nat.add_mul _ _ _
   rw[if_neg hm0,if_pos hs]
   simp only[h4,true_and]
   rw[if_pos (show o+k*esz≤d.length by omega)]
   by_cases hk:n+m≤k
   ·have hle2:=Nat.mul_le_mul_right esz hk
    rw[if_pos hk]
    simp only[if_true]
    refine⟨_,_,rfl,.inr ⟨b,o,k,room,_,rfl,hk,?_,?_,AHeap.get_set_same h4 _⟩,Chg.set H (AHeap.get_lt h4) _,.inl rfl⟩
    ·rw[List.length_append,List.length_append,List.length_take,List.length_drop,hm];omega
    ·have e1:d.take (o+n*esz)=d.take o++c:=by rw[←h3,List.take_add]
     have e2:(d.take o).length=o:=by rw[List.length_take];omega
     rw[e1,List.append_assoc,List.append_assoc,List.drop_append,e2,Nat.sub_self,List.drop_zero,List.drop_of_length_le (by omega),List.nil_append,←List.append_assoc,List.take_append_of_le_length (by rw[List.length_append,hc,hm];omega),List.take_of_length_le (by rw[List.length_append,hc,hm];omega)]
   ·rw[if_neg hk,h3]
    have hlen:(c++news).length=(n+m)*esz:=by rw[List.length_append,hc,hm,Nat.add_mul]
    split
    ·exact⟨_,_,rfl,.inr ⟨H.n,0,n+m,true,_,rfl,Nat.le_refl _,by omega,by rw[List.drop_zero,←hlen,List.take_length],AHeap.get_alloc_new H _⟩,(Chg.refl _ _).alloc _,.inr rfl⟩
    ·exact⟨_,_,rfl,.inr ⟨H.n,0,n+m,true,_,rfl,Nat.le_refl _,by omega,by rw[List.drop_zero,←hlen,List.take_length],AHeap.get_alloc_new (H.set b .dead) _⟩,(Chg.set H (AHeap.get_lt h4) _).alloc _,.inr rfl⟩
theorem WO.cut{kd:IntKind}{i:Nat}(h:WO H e esz v n c)(hi:i≤n):∃w,asem (.slsl esz v (some (.int kd (i:Nat))) none none) H=some (w,H)∧WO H e esz w (n-i) (c.drop (i*esz))∧(blk w=blk v∨blk w=none):=by
 rcases h with⟨rfl,rfl,rfl⟩|⟨b,o,k,room,d,rfl,h1,h2,rfl,h4⟩
 ·obtain rfl:i=0:=by omega
  exact⟨.slice none 0 0,rfl,by simpa using WO.nil H e esz,.inl rfl⟩
 ·have e1:bndA (some (.int kd (i:Nat))) 0 n=some i:=by
   simp only[bndA];simp;omega
  have e2:bndA none k k=some k:=rfl
  have e3:bndA none n k=some n:=rfl
  refine⟨slc b (o+i*esz) (n-i) (k-i),?_,.inr ⟨b,o+i*esz,k-i,room,d,rfl,by omega,?_,?_,h4⟩,.inl rfl⟩
  ·simp only[asem,slc,e2,e3,e1,h4,true_or,↓reduceIte]
  ·have:=Nat.sub_mul k i esz
   have:=Nat.mul_le_mul_right esz (show i≤k by omega)
   omega
  ·rw[List.drop_take,List.drop_drop,Nat.sub_mul]
end
section
variable {P:Program} {ng:Nat} {H:AHeap} {KF:List Value→AHeap→Prop} {fr tm:List Value} {tr:List TE} {e esz:Nat} {v:Value} {n:Nat} {c:List Value}
theorem WO.appD{d:D}{r:List (AOper×List Nat)}{bytes:Nat}{x:Value}{m:Nat}{news:List Value}(h:WO H e esz v n c)(hx:∃a k,x=.slice a m k)(h1:elemsA H esz x=some news)(hm:news.length=m*esz)
 (hs:(n+m)*bytes≤140737488355328∧n+m≤140737488355328)
 (hk:∀v' H',WO H' e esz v' (n+m) (c++news)→Chg (blkL v) H H'→(blk v'=blk v∨blk v'=some H.n)→RD P ng r (d.frame v' fr) (d.temps v' tm) H' (tr++[⟨3,[],H,H'⟩]) KF):goD P ng (.app e esz bytes v x) (asem (.app e esz bytes v x) H) d [] r fr tm H tr KF:=by
 obtain⟨v',H',e1,e2,e3,e4⟩:=h.app (bytes:=bytes) hm hs
 obtain⟨a,k,rfl⟩:=hx
 exact⟨v',H',by simp only[asem,h1];exact e1,trivial,hk v' H' e2 e3 e4⟩
end
def thO(e esz:Nat)(v:Value)(n:Nat)(c:List Value):Th where
 P K:=WO K e esz v n c
 F:=blkL v
 lt K h y hy:=h.lt (mem_blkL.1 hy)
 st K K' h hn k:=h.get' fun b hb=>k b (mem_blkL.2 hb)
end Go.AM

set_option linter.unusedSimpArgs false
set_option linter.unusedVariables false
namespace Go.AM
def fp(A:List Th):List Nat:=A.flatMap Th.F
theorem fp_app(A B:List Th):fp (A++B)=fp A++fp B:=by simp[fp]
theorem mem_fp{A:List Th}{y:Nat}:y∈fp A↔∃t∈A,y∈t.F:=by simp[fp]
structure Upd (A A':List Th) (K K':AHeap):Prop where
 sep:Sep K' A'
 chg:Chg (fp A) K K'
 fr:∀y∈fp A',y∈fp A∨K.n≤y
section
variable {H K K' K2:AHeap} {A A' A2 B B':List Th}
theorem Sep.left(h:Sep K (A++B)):Sep K A:=⟨fun t ht=>h.all t (List.mem_append_left _ ht),(List.pairwise_append.1 h.ap).1⟩
theorem Sep.right(h:Sep K (A++B)):Sep K B:=⟨fun t ht=>h.all t (List.mem_append_right _ ht),(List.pairwise_append.1 h.ap).2.1⟩
theorem Sep.lt(h:Sep K A){y:Nat}(hy:y∈fp A):y<K.n:=by
 obtain⟨t,ht,h1⟩:=mem_fp.1 hy
 exact t.lt K (h.all t ht) y h1
theorem Sep.cross(h:Sep K (A++B)){y:Nat}(hy:y∈fp A):y∉fp B:=by
 intro hb
 obtain⟨t,ht,h1⟩:=mem_fp.1 hy
 obtain⟨u,hu,h2⟩:=mem_fp.1 hb
 exact(List.pairwise_append.1 h.ap).2.2 t ht u hu y h1 h2
theorem Sep.join(h:Sep K A)(k:Sep K B)(x:∀y∈fp A,y∉fp B):Sep K (A++B):=by
 refine⟨fun t ht=>?_,List.pairwise_append.2 ⟨h.ap,k.ap,fun t ht u hu y h1 h2=>x y (mem_fp.2 ⟨t,ht,h1⟩) (mem_fp.2 ⟨u,hu,h2⟩)⟩⟩
 rcases List.mem_append.1 ht with ht|ht
 ·exact h.all t ht
 ·exact k.all t ht
theorem Sep.chg(h:Sep K A){S:List Nat}(c:Chg S K K')(x:∀y∈fp A,y∉S):Sep K' A:=
 ⟨fun t ht=>t.st K K' (h.all t ht) c.n fun b hb=>c.get b (t.lt K (h.all t ht) b hb) (x b (mem_fp.2 ⟨t,ht,hb⟩)),h.ap⟩
theorem Upd.refl(h:Sep K A):Upd A A K K:=⟨h,Chg.refl _ _,fun y hy=>.inl hy⟩
theorem Upd.keeps(h:Sep K A)(k:Keeps K K'):Upd A A K K':=⟨h.keeps k,k.chg _,fun y hy=>.inl hy⟩
theorem Upd.trans(u:Upd A A' K K')(v:Upd A' A2 K' K2):Upd A A2 K K2:=
 ⟨v.sep,u.chg.trans v.chg fun x hx=>u.fr x hx,fun y hy=>by
  rcases v.fr y hy with h|h
  ·exact u.fr y h
  ·exact .inr (Nat.le_trans u.chg.n h)⟩
theorem Upd.keeps'(u:Upd A A' K K')(k:Keeps K' K2):Upd A A' K K2:=u.trans (.keeps u.sep k)
theorem Upd.ext(u:Upd A A' K K')(h:Sep K (A++B)):Upd (A++B) (A'++B) K K':=by
 have hx:∀y∈fp A',y∉fp B:=fun y hy hb=>by
  rcases u.fr y hy with h1|h1
  ·exact h.cross h1 hb
  ·have:=h.right.lt hb;omega
 refine⟨u.sep.join (h.right.chg u.chg fun y hy hb=>h.cross hb hy) hx,u.chg.mono fun x hx=>by rw[fp_app];exact List.mem_append_left _ hx,fun y hy=>?_⟩
 rw[fp_app]at hy ⊢
 rcases List.mem_append.1 hy with hy|hy
 ·rcases u.fr y hy with h1|h1
  ·exact .inl (List.mem_append_left _ h1)
  ·exact .inr h1
 ·exact .inl (List.mem_append_right _ hy)
theorem Upd.permL(u:Upd A A' K K')(p:A2.Perm A):Upd A2 A' K K':=
 ⟨u.sep,u.chg.mono fun x hx=>by
  obtain⟨t,ht,h1⟩:=mem_fp.1 hx
  exact mem_fp.2 ⟨t,p.mem_iff.2 ht,h1⟩,fun y hy=>by
  rcases u.fr y hy with h1|h1
  ·obtain⟨t,ht,h2⟩:=mem_fp.1 h1
   exact .inl (mem_fp.2 ⟨t,p.mem_iff.2 ht,h2⟩)
  ·exact .inr h1⟩
theorem Upd.permR(u:Upd A A' K K')(p:A'.Perm A2):Upd A A2 K K':=
 ⟨u.sep.perm p,u.chg,fun y hy=>by
  obtain⟨t,ht,h1⟩:=mem_fp.1 hy
  exact u.fr y (mem_fp.2 ⟨t,p.mem_iff.2 ht,h1⟩)⟩
theorem Upd.extR(u:Upd B B' K K')(h:Sep K (A++B)):Upd (A++B) (A++B') K K':=
 ((u.ext (B:=A) (h.perm List.perm_append_comm)).permL List.perm_append_comm).permR List.perm_append_comm
theorem Upd.at_{l r:List Th}{t t':Th}(h:Sep K (l++t::r))(c:Chg t.F K K')(hp:t'.P K')(hf:∀y∈t'.F,y∈t.F∨K.n≤y):Upd (l++t::r) (l++t'::r) K K':=
 ⟨h.upd c hp hf,c.mono fun x hx=>mem_fp.2 ⟨t,by simp,hx⟩,fun y hy=>by
  obtain⟨u,hu,h1⟩:=mem_fp.1 hy
  rcases List.mem_append.1 hu with hu|hu
  ·exact .inl (mem_fp.2 ⟨u,by simp[hu],h1⟩)
  ·rcases List.mem_cons.1 hu with rfl|hu
   ·rcases hf y h1 with h2|h2
    ·exact .inl (mem_fp.2 ⟨t,by simp,h2⟩)
    ·exact .inr h2
   ·exact .inl (mem_fp.2 ⟨u,by simp[hu],h1⟩)⟩
theorem Upd.next{l r:List Th}{t t':Th}(u:Upd A (l++t::r) K K')(c:Chg t.F K' K2)(hp:t'.P K2)(hf:∀y∈t'.F,y∈t.F∨K'.n≤y∨K.n≤y∧∀x∈l++r,y∉x.F):Upd A (l++t'::r) K K2:=by
 have ha:=u.sep.ap
 have hl:=u.sep.all
 rw[List.pairwise_append,List.pairwise_cons]at ha
 have keep:∀x∈l++r,∀y∈x.F,y∉t.F:=fun x hx y hy ht=>by
  rcases List.mem_append.1 hx with hx|hx
  ·exact ha.2.2 x hx t (by simp) y hy ht
  ·exact ha.2.1.1 x hx y ht hy
 have av:∀x∈l++r,∀y∈x.F,y∉t'.F:=fun x hx y hy ht=>by
  have hx2:x∈l++t::r:=by
   rcases List.mem_append.1 hx with hx|hx
   ·exact List.mem_append_left _ hx
   ·exact List.mem_append_right _ (List.mem_cons_of_mem _ hx)
  rcases hf y ht with h1|h1|h1
  ·exact keep x hx y hy h1
  ·have:=x.lt K' (hl x hx2) y hy;omega
  ·exact h1.2 x hx hy
 refine⟨⟨fun x hx=>?_,?_⟩,u.chg.trans c fun x hx=>u.fr x (mem_fp.2 ⟨t,by simp,hx⟩),fun y hy=>?_⟩
 ·have hx3:x=t'∨x∈l++r:=by
   rcases List.mem_append.1 hx with hx|hx
   ·exact .inr (List.mem_append_left _ hx)
   ·rcases List.mem_cons.1 hx with hx|hx
    ·exact .inl hx
    ·exact .inr (List.mem_append_right _ hx)
  rcases hx3 with rfl|hx
  ·exact hp
  ·have hx2:x∈l++t::r:=by
    rcases List.mem_append.1 hx with hx|hx
    ·exact List.mem_append_left _ hx
    ·exact List.mem_append_right _ (List.mem_cons_of_mem _ hx)
   exact x.st K' K2 (hl x hx2) c.n fun y hy=>c.get y (x.lt K' (hl x hx2) y hy) (keep x hx y hy)
 ·rw[List.pairwise_append,List.pairwise_cons]
  refine⟨ha.1,⟨fun x hx y hy h2=>av x (List.mem_append_right _ hx) y h2 hy,ha.2.1.2⟩,fun x hx z hz y hy h2=>?_⟩
  rcases List.mem_cons.1 hz with rfl|hz
  ·exact av x (List.mem_append_left _ hx) y hy h2
  ·exact ha.2.2 x hx z (List.mem_cons_of_mem _ hz) y hy h2
 ·obtain⟨x,hx,h1⟩:=mem_fp.1 hy
  rcases List.mem_append.1 hx with hx|hx
  ·exact u.fr y (mem_fp.2 ⟨x,by simp[hx],h1⟩)
  ·rcases List.mem_cons.1 hx with rfl|hx
   ·rcases hf y h1 with h2|h2|h2
    ·exact u.fr y (mem_fp.2 ⟨t,by simp,h2⟩)
    ·exact .inr (Nat.le_trans u.chg.n h2)
    ·exact .inr h2.1
   ·exact u.fr y (mem_fp.2 ⟨x,by simp[hx],h1⟩)
end
theorem set_same{H:AHeap}{b:Nat}{o:AO}(h:H.get b=some o):H.set b o=H:=by
 have hl:=AHeap.get_lt h
 unfold AHeap.get at h
 rw[if_pos hl]at h
 unfold AHeap.set
 congr 1
 obtain⟨hi,he⟩:=List.getElem?_eq_some_iff.1 h
 rw[←he];exact List.set_getElem_self ..
theorem a_copyB{H:AHeap}{b o n k:Nat}{room:Bool}{esz e:Nat}{c:List Value}{x:Value}{l:List UInt8}(hx:BS H x l)(hg:H.get b=some (.cells true room esz c e))(hl:l.length≤n)(hc:o+n≤c.length):
 asem (.copy 1 (slc b o n k) x) H=some (.int .i64 (l.length:Nat),H.set b (.cells true room esz (c.take o++cellsOf l++c.drop (o+l.length)) e)):=by
 obtain⟨a,q,rfl⟩:=hx.sh
 have he:=hx.el
 have hm:min l.length n=l.length:=by omega
 simp only[asem,slc,he,hg,hm,Nat.mul_one]
 by_cases h0:l.length=0
 ·have:l=[]:=List.length_eq_zero_iff.1 h0
  subst this
  have e1:c.take o++cellsOf []++c.drop (o+([]:List UInt8).length)=c:=by simp[cellsOf]
  rw[if_pos h0,e1,set_same hg];rfl
 ·rw[if_neg h0,if_pos ⟨trivial,by omega⟩,List.take_of_length_le (l:=cellsOf l) (by rw[cellsOf_length];omega)]
theorem a_slarrF(H:AHeap)(esz n b o:Nat):asem (.slarr esz n (ptr b o) none none none) H=some (slc b o n n,H):=by
 simp[asem,ptr,bndA]
theorem a_slarrK(H:AHeap)(esz n b o:Nat){kd:IntKind}{k:Int}(h0:0≤k)(h1:k≤n):asem (.slarr esz n (ptr b o) none (some (.int kd k)) none) H=some (slc b o k.toNat n,H):=by
 simp only[asem,ptr,bndA]
 rw[if_pos (by omega)]
 simp
theorem a_copyN{H:AHeap}{b o n k:Nat}{room:Bool}{esz e:Nat}{c:List Value}{x:Value}{l:List UInt8}(hx:BS H x l)(hg:H.get b=some (.cells true room esz c e))(hl:n≤l.length)(hc:o+n≤c.length):
 asem (.copy 1 (slc b o n k) x) H=some (.int .i64 (n:Nat),H.set b (.cells true room esz (c.take o++cellsOf (l.take n)++c.drop (o+n)) e)):=by
 obtain⟨a,q,rfl⟩:=hx.sh
 have he:=hx.el
 have hm:min l.length n=n:=by omega
 simp only[asem,slc,he,hg,hm,Nat.mul_one]
 by_cases h0:n=0
 ·subst h0
  have e1:c.take o++cellsOf (l.take 0)++c.drop (o+0)=c:=by simp[cellsOf]
  rw[if_pos rfl,e1,set_same hg];rfl
 ·rw[if_neg h0,if_pos ⟨trivial,by omega⟩]
  simp only[cellsOf,List.map_take]
theorem cond_mid{P:Program}{ng:Nat}{Q:AQ}{fr:List Value}{H:AHeap}{v:Value}{t e:ACode}{K:List Value→AHeap→Prop}(M:List Value→AHeap→Prop)
 (h1:∀Q':AQ,(∀fr H,M fr H→Q' .normal fr H)→(∀i fr H,Q (.exit i) fr H→Q' (.exit i) fr H)→(∀fr H,Q .ret fr H→Q' .ret fr H)→condW P ng v t e Q' fr H)
 (h2:∀fr H,M fr H→K fr H):condW P ng v t e (Q.andThen K) fr H:=
 h1 _ (fun fr H h=>h2 fr H h) (fun _ _ _ h=>h) (fun _ _ h=>h)
theorem BS.lenS{H:AHeap}{v:Value}{l:List UInt8}(h:BS H v l):Go.AM.lenS v=l.length:=by have:=Sl.len h.sl;simpa using this
theorem BS.isS{H:AHeap}{v:Value}{l:List UInt8}(h:BS H v l):Go.AM.isS v=true:=Sl.is h.sl
end Go.AM
namespace Go.AM.Fd
open Go.Proofs Go.AM.F
structure Dk where
 bl:List (List UInt8)
 op:List (Nat×List UInt8)
 st:Nat
 ar:Option Nat
 off:Bool
structure Dk.ok (D:Dk):Prop where
 b:∀x∈D.bl,x.length=256
 o:∀w∈D.op,w.1<D.bl.length∧w.2.length=256
 n:D.bl.length≤4096
 m:D.op.length≤1000000
 s:D.st≤1000000
 r:∀n,D.ar=some n→n≤9223372036854775807
def padB(b:List UInt8):List UInt8:=b++List.replicate (256-b.length) 0
theorem padB_len{b:List UInt8}(h:b.length≤256):(padB b).length=256:=by simp[padB];omega
def zB:List UInt8:=List.replicate 256 0
theorem zB_len:zB.length=256:=by rw[zB,List.length_replicate]
def newD(n:Int):Dk:=⟨List.replicate (min n 4096).toNat zB,[],0,none,false⟩
def askD(D:Dk)(i:Int):Int:=if D.off=true then 140 else if i<0∨(D.bl.length:Int)≤i then 2 else 0
def stepD(D:Dk):Dk×Bool:=match D.ar with
 |none=>(⟨D.bl,D.op,D.st+1,none,D.off⟩,false)
 |some 0=>(⟨D.bl,D.op,D.st+1,none,true⟩,true)
 |some (n+1)=>(⟨D.bl,D.op,D.st+1,some n,D.off⟩,false)
def wrD(D:Dk)(i:Int)(b:List UInt8):Dk×Int:=if askD D i≠0 then(D,askD D i)else if 256<b.length then(D,3)else
 ((stepD ⟨D.bl,D.op++[(i.toNat,padB b)],D.st,D.ar,D.off⟩).1,if(stepD D).2 =true then 140 else 0)
def setl(bl:List (List UInt8))(op:List (Nat×List UInt8)):List (List UInt8):=op.foldl (fun l w=>l.set w.1 w.2) bl
def settD(D:Dk):Dk:=⟨setl D.bl D.op,[],D.st,D.ar,D.off⟩
def syD(D:Dk):Dk×Int:=if D.off=true then(D,140)else if(stepD D).2 =true then((stepD D).1,140)else(settD (stepD D).1,0)
def lastW(op:List (Nat×List UInt8))(i:Nat):Option (List UInt8):=(op.reverse.find? fun w=>w.1==i).map (·.2)
def rdB(D:Dk)(i:Nat):List UInt8:=(lastW D.op i).getD (D.bl.getD i [])
def failD(D:Dk)(n:Int):Dk:=⟨D.bl,D.op,D.st,if 0≤n then some n.toNat else none,D.off⟩
def crashD(D:Dk):Dk:=⟨D.bl,D.op,D.st,none,true⟩
def fateN(fs:List UInt8)(i:Nat):Nat:=if(fs.getD i 0).toNat=255 then 256 else(fs.getD i 0).toNat
def onB(bl:List (List UInt8))(fs:List UInt8):List (Nat×List UInt8)→Nat→List (List UInt8)
 |[],_=>bl
 |w::op,i=>onB (bl.set w.1 (w.2.take (fateN fs i)++(bl.getD w.1 []).drop (fateN fs i))) fs op (i+1)
def onD(D:Dk)(fs:List UInt8):Dk:=if D.off=true then⟨onB D.bl fs D.op 0,[],D.st,none,false⟩else⟨D.bl,D.op,D.st,none,false⟩
theorem setl_len:∀(op:List (Nat×List UInt8)) (bl:List (List UInt8)),(setl bl op).length=bl.length
 |[],bl=>rfl
 |w::op,bl=>by
  show(setl (bl.set w.1 w.2) op).length=_
  rw[setl_len op,List.length_set]
theorem mem_set{l:List (List UInt8)}{i:Nat}{a x:List UInt8}(h:x∈l.set i a):x∈l∨x=a:=List.mem_or_eq_of_mem_set h
theorem setl_all:∀(op:List (Nat×List UInt8)) (bl:List (List UInt8)),(∀x∈bl,x.length=256)→(∀w∈op,w.2.length=256)→∀x∈setl bl op,x.length=256
 |[],bl,h,_=>h
 |w::op,bl,h,k=>setl_all op (bl.set w.1 w.2) (fun x hx=>by
  rcases mem_set hx with hx|rfl
  ·exact h x hx
  ·exact k w (by simp)) fun w' hw=>k w' (by simp[hw])
theorem onB_len(fs:List UInt8):∀(op:List (Nat×List UInt8)) (bl:List (List UInt8)) (i:Nat),(onB bl fs op i).length=bl.length
 |[],bl,i=>rfl
 |w::op,bl,i=>by rw[onB,onB_len fs op,List.length_set]
theorem fateN_le(fs:List UInt8)(i:Nat):fateN fs i≤256:=by
 unfold fateN
 have:=(fs.getD i 0).toNat_lt
 split<;>omega
theorem getD_len{bl:List (List UInt8)}(h:∀x∈bl,x.length=256){i:Nat}(hi:i<bl.length):(bl.getD i []).length=256:=by
 simp only[List.getD,List.getElem?_eq_getElem hi,Option.getD_some]
 exact h _ (List.getElem_mem _)
theorem onB_all(fs:List UInt8):∀(op:List (Nat×List UInt8)) (bl:List (List UInt8)) (i:Nat),(∀x∈bl,x.length=256)→(∀w∈op,w.1<bl.length∧w.2.length=256)→∀x∈onB bl fs op i,x.length=256
 |[],bl,i,h,_=>h
 |w::op,bl,i,h,k=>onB_all fs op _ (i+1) (fun x hx=>by
  rcases mem_set hx with hx|rfl
  ·exact h x hx
  ·have h1:=k w (by simp)
   have h2:=getD_len h h1.1
   have h3:=fateN_le fs i
   rw[List.length_append,List.length_take,List.length_drop,h2,h1.2];omega) fun w' hw=>by
  rw[List.length_set];exact k w' (by simp[hw])
theorem stepD_bl(D:Dk):(stepD D).1.bl=D.bl∧(stepD D).1.op=D.op∧(stepD D).1.st=D.st+1:=by
 unfold stepD;split<;>exact⟨rfl,rfl,rfl⟩
theorem stepD_op(D:Dk)(op:List (Nat×List UInt8)):(stepD ⟨D.bl,op,D.st,D.ar,D.off⟩).2 =(stepD D).2 :=by
 unfold stepD;simp only;split<;>rfl
theorem Dk.ok.step{D:Dk}(h:D.ok)(hs:D.st<1000000):(stepD D).1.ok:=by
 obtain⟨a,b,c⟩:=stepD_bl D
 refine⟨by rw[a];exact h.b,by rw[a,b];exact h.o,by rw[a];exact h.n,by rw[b];exact h.m,by rw[c];omega,fun n hn=>?_⟩
 unfold stepD at hn
 split at hn
 ·cases hn
 ·cases hn
 ·rename_i m hm
  cases hn
  have:=h.r _ hm
  omega
theorem askD_ok{D:Dk}{i:Int}(h:askD D i=0):0≤i∧i.toNat<D.bl.length∧D.off=false:=by
 unfold askD at h
 split at h
 ·cases h
 ·split at h
  ·cases h
  ·rename_i h1 h2
   exact⟨by omega,by omega,by simpa using h1⟩
theorem Dk.ok.wr{D:Dk}{i:Int}{b:List UInt8}(h:D.ok)(hs:D.st<1000000)(hm:D.op.length<1000000):(wrD D i b).1.ok:=by
 unfold wrD
 split
 ·exact h
 ·rename_i ha
  split
  ·exact h
  ·rename_i hb
   have ha:=askD_ok (Classical.not_not.1 ha)
   refine Dk.ok.step ⟨h.b,fun w hw=>?_,h.n,by simp;omega,h.s,h.r⟩ hs
   rcases List.mem_append.1 hw with hw|hw
   ·exact h.o w hw
   ·simp only[List.mem_singleton]at hw
    subst hw
    exact⟨ha.2.1,padB_len (by omega)⟩
theorem Dk.ok.sett{D:Dk}(h:D.ok):(settD D).ok:=⟨setl_all _ _ h.b fun w hw=>(h.o w hw).2,by simp[settD],by simp only[settD,setl_len];exact h.n,by simp[settD],h.s,h.r⟩
theorem Dk.ok.sy{D:Dk}(h:D.ok)(hs:D.st<1000000):(syD D).1.ok:=by
 unfold syD
 split
 ·exact h
 ·split
  ·exact h.step hs
  ·exact(h.step hs).sett
theorem Dk.ok.fail{D:Dk}(h:D.ok){n:Int}(hn:n≤9223372036854775807):(failD D n).ok:=⟨h.b,h.o,h.n,h.m,h.s,fun m hm=>by
 simp only[failD]at hm
 split at hm
 ·cases hm;omega
 ·cases hm⟩
theorem Dk.ok.crash{D:Dk}(h:D.ok):(crashD D).ok:=⟨h.b,h.o,h.n,h.m,h.s,fun m hm=>by cases hm⟩
theorem Dk.ok.on{D:Dk}(h:D.ok)(fs:List UInt8):(onD D fs).ok:=by
 unfold onD
 split
 ·exact⟨onB_all fs _ _ 0 h.b h.o,by simp,by simp only[onB_len];exact h.n,by simp,h.s,fun m hm=>by cases hm⟩
 ·exact⟨h.b,h.o,h.n,h.m,h.s,fun m hm=>by cases hm⟩
theorem lastW_mem{op:List (Nat×List UInt8)}{i:Nat}{b:List UInt8}(h:lastW op i=some b):∃w∈op,w.1=i∧w.2=b:=by
 unfold lastW at h
 obtain⟨w,h1,rfl⟩:=Option.map_eq_some_iff.1 h
 have h2:=List.mem_of_find?_eq_some h1
 have h3:=List.find?_some h1
 exact⟨w,by simpa using h2,by simpa using h3,rfl⟩
theorem lastW_hit{op:List (Nat×List UInt8)}{i k:Nat}(hk:k<op.length)(hn:lastW (op.drop (k+1)) i=none)(hi:op[k].1 =i):lastW op i=some op[k].2 :=by
 unfold lastW at*
 have e:op=op.take k++op[k]::op.drop (k+1):=by rw[←List.drop_eq_getElem_cons hk,List.take_append_drop]
 have hn2:((op.drop (k+1)).reverse.find? fun w=>w.1==i)=none:=by simpa using hn
 rw[show op.reverse=(op.drop (k+1)).reverse++(op[k]::(op.take k).reverse) by
  conv=>lhs;rw[e]
  simp[List.reverse_append]]
 rw[List.find?_append,hn2,Option.none_or,List.find?_cons_of_pos (by simpa using hi)]
 rfl
theorem lastW_miss{op:List (Nat×List UInt8)}{i k:Nat}(hk:k<op.length)(hn:lastW (op.drop (k+1)) i=none)(hi:op[k].1 ≠i):lastW (op.drop k) i=none:=by
 unfold lastW at*
 rw[List.drop_eq_getElem_cons hk,List.reverse_cons,List.find?_append]
 have hn2:((op.drop (k+1)).reverse.find? fun w=>w.1==i)=none:=by simpa using hn
 rw[hn2,Option.none_or,List.find?_cons_of_neg (by simpa using hi)]
 rfl
theorem Dk.ok.rd{D:Dk}(h:D.ok){i:Nat}(hi:i<D.bl.length):(rdB D i).length=256:=by
 unfold rdB
 cases e:lastW D.op i with
 |none=>exact getD_len h.b hi
 |some b=>
  obtain⟨w,h1,_,rfl⟩:=lastW_mem e
  exact(h.o w h1).2
theorem flat_set{z:Nat}:∀{rows:List (List Value)} (_:∀r∈rows,r.length=z) (i:Nat) (_:i<rows.length) (r:List Value),rows.flatten.take (i*z)++r++rows.flatten.drop (i*z+z)=(rows.set i r).flatten
 |a::rows,h,0,_,r=>by
  have h1:=h a (by simp)
  rw[Nat.zero_mul,List.take_zero,List.nil_append,Nat.zero_add,List.flatten_cons,List.set_cons_zero,List.flatten_cons]
  rw[show(a++rows.flatten).drop z=rows.flatten by rw[←h1,List.drop_left]]
 |a::rows,h,i+1,hi,r=>by
  have h1:=h a (by simp)
  have h2:=flat_set (rows:=rows) (fun x hx=>h x (by simp[hx])) i (by simpa using hi) r
  rw[List.flatten_cons,List.set_cons_succ,List.flatten_cons,←h2,Nat.add_mul,Nat.one_mul,Nat.add_comm (i*z) z,Nat.add_assoc,←h1,List.take_length_add_append,List.drop_length_add_append]
  simp only[List.append_assoc,Nat.add_comm a.length (i*a.length)]
theorem flat_drop{z:Nat}:∀{rows:List (List Value)} (_:∀r∈rows,r.length=z) (i:Nat) (hi:i<rows.length) (k:Nat) (_:k≤z),rows.flatten.drop (i*z+k)=rows[i].drop k++rows.flatten.drop (i*z+z)
 |a::rows,h,0,_,k,hk=>by
  have h1:=h a (by simp)
  rw[Nat.zero_mul,Nat.zero_add,Nat.zero_add,List.flatten_cons,List.drop_append_of_le_length (by omega),←h1,List.drop_left]
  rfl
 |a::rows,h,i+1,hi,k,hk=>by
  have h1:=h a (by simp)
  have h2:=flat_drop (rows:=rows) (fun x hx=>h x (by simp[hx])) i (by simpa using hi) k hk
  rw[List.flatten_cons,Nat.add_mul,Nat.one_mul,Nat.add_comm (i*z) z,Nat.add_assoc,Nat.add_assoc,←h1,List.drop_length_add_append,List.drop_length_add_append,h1,h2]
  rfl
theorem cellsOf_all(l:List UInt8):(cellsOf l).all Value.oneCell'=true:=List.all_eq_true.2 (Go.AM.cellsOf_one l)
def blR(bl:List (List UInt8)):List (List Value):=bl.map cellsOf
def opR(w:Nat×List UInt8):List Value:=.int .i64 (w.1:Nat)::cellsOf w.2
theorem blR_len{bl:List (List UInt8)}(h:∀x∈bl,x.length=256):∀r∈blR bl,r.length=256:=by
 intro r hr
 obtain⟨x,hx,rfl⟩:=List.mem_map.1 hr
 rw[cellsOf_length,h x hx]
theorem opR_len{D:Dk}(h:D.ok):∀r∈D.op.map opR,r.length=257:=by
 intro r hr
 obtain⟨x,hx,rfl⟩:=List.mem_map.1 hr
 simp only[opR,List.length_cons,cellsOf_length,(h.o x hx).2]
theorem blR_set(bl:List (List UInt8))(i:Nat)(b:List UInt8):(blR bl).set i (cellsOf b)=blR (bl.set i b):=by simp[blR,List.map_set]
theorem pad_cells(i:Value){l:List UInt8}(h:l.length≤256):(i::cellsOf (List.replicate 256 0)).take 1++cellsOf l++(i::cellsOf (List.replicate 256 0)).drop (1+l.length)=i::cellsOf (padB l):=by
 rw[Nat.add_comm 1,List.take_succ_cons,List.take_zero,List.drop_succ_cons,padB,cellsOf_append]
 simp only[List.cons_append,List.nil_append,cellsOf,List.map_replicate,List.drop_replicate]
def ptrO:Option Nat→Value
 |none=>.pointer none
 |some b=>ptr b 0
def thP(ab ar:Option Nat):Th where
 P K:=match ab,ar with
  |none,none=>True
  |some b,some n=>K.get b=some (.cells true false 1 [.int .i64 (n:Nat)] 3)
  |_,_=>False
 F:=ab.toList
 lt K h y hy:=by
  cases ab<;>cases ar<;>simp at hy h
  subst hy;exact AHeap.get_lt h
 st K K' h hn k:=by
  cases ab<;>cases ar<;>simp at h k ⊢
  rw[k];exact h
def dkC(sb:Nat)(v:Value)(ab:Option Nat)(D:Dk):List Value:=[slc sb 0 D.bl.length D.bl.length,v,.int .i64 (D.st:Nat),ptrO ab,.bool D.off]
def dkT(b sb:Nat)(v:Value)(ab:Option Nat)(D:Dk):List Th:=
 [thB b (.cells true false 5 (dkC sb v ab D) 107),thB sb (.cells true false 256 (blR D.bl).flatten 139),thA 141 257 v D.op.length (D.op.map opR).flatten,thP ab D.ar]
structure DkR (K:AHeap) (b sb:Nat) (v:Value) (ab:Option Nat) (D:Dk):Prop where
 s:Sep K (dkT b sb v ab D)
 ok:D.ok
section
variable {K:AHeap} {b sb:Nat} {v:Value} {ab:Option Nat} {D:Dk}
theorem DkR.g(h:DkR K b sb v ab D):K.get b=some (.cells true false 5 [slc sb 0 D.bl.length D.bl.length,v,.int .i64 (D.st:Nat),ptrO ab,.bool D.off] 107):=h.s.get 0 rfl
theorem DkR.gs(h:DkR K b sb v ab D):K.get sb=some (.cells true false 256 (blR D.bl).flatten 139):=h.s.get 1 rfl
theorem DkR.a(h:DkR K b sb v ab D):AP K 141 257 v D.op.length (D.op.map opR).flatten:=h.s.get 2 rfl
theorem DkR.p(h:DkR K b sb v ab D):(thP ab D.ar).P K:=h.s.get 3 rfl
theorem DkR.lt(h:DkR K b sb v ab D):b<K.n:=AHeap.get_lt h.g
theorem DkR.ss(h:DkR K b sb v ab D):Sl K 256 (slc sb 0 D.bl.length D.bl.length) (blR D.bl):=by
 have e:(blR D.bl).length=D.bl.length:=by simp[blR]
 refine⟨⟨_,_,by rw[e];rfl⟩,blR_len h.ok.b,elems_own h.gs ?_⟩
 rw[flat_len (blR_len h.ok.b),e]
theorem DkR.so(h:DkR K b sb v ab D):Sl K 257 v (D.op.map opR):=AP.sl (by simpa using h.a) (opR_len h.ok) (by simp)
theorem DkR.ap(h:DkR K b sb v ab D){y:Nat}(hy:y∈ab.toList):y≠b:=fun e=>h.s.apart 0 3 (by omega) rfl rfl b (by simp[thB]) (by rw[←e];exact hy)
theorem DkR.v_ne(h:DkR K b sb v ab D):b∉blkL v:=fun e=>h.s.apart 0 2 (by omega) rfl rfl b (by simp[thB]) e
theorem DkR.cell{K1:AHeap}{ab':Option Nat}{D':Dk}(h:DkR K b sb v ab D)(k:Keeps K K1)(hb:D'.bl=D.bl)(ho:D'.op=D.op)(hp:(thP ab' D'.ar).P (K1.set b (.cells true false 5 (dkC sb v ab' D') 107)))
 (hf:∀y∈ab'.toList,y∈ab.toList∨K.n≤y):Upd (dkT b sb v ab D) (dkT b sb v ab' D') K (K1.set b (.cells true false 5 (dkC sb v ab' D') 107)):=by
 have hl:b<K1.n:=Nat.lt_of_lt_of_le h.lt k.n
 have u1:=Upd.at_ (l:=[]) (t':=thB b (.cells true false 5 (dkC sb v ab' D') 107)) (h.s.keeps k) (Chg.set K1 hl (.cells true false 5 (dkC sb v ab' D') 107)) (AHeap.get_set_same (k.at_ h.g) _) (by simp[thB])
 simp only[dkT,hb,ho]
 refine Upd.next (l:=[_,_,_]) ((Upd.keeps h.s k).trans u1) (Chg.refl _ _) hp fun y hy=>?_
 rcases hf y hy with h1|h1
 ·exact .inl h1
 ·refine .inr (.inr ⟨h1,fun x hx hxy=>?_⟩)
  have key:y∈fp (dkT b sb v ab D):=by
   simp only[List.nil_append,List.append_nil,List.mem_cons,List.not_mem_nil,or_false]at hx
   rcases hx with rfl|rfl|rfl
   ·exact mem_fp.2 ⟨thB b (.cells true false 5 (dkC sb v ab D) 107),by simp[dkT],hxy⟩
   ·exact mem_fp.2 ⟨thB sb (.cells true false 256 (blR D.bl).flatten 139),by simp[dkT],hxy⟩
   ·exact mem_fp.2 ⟨thA 141 257 v D.op.length (D.op.map opR).flatten,by simp[dkT],hxy⟩
  have:=h.s.lt key
  omega
theorem DkR.blk{K1:AHeap}{i:Nat}{x:List UInt8}(h:DkR K b sb v ab D)(k:Keeps K K1)(hi:i<D.bl.length):
 (blR D.bl).flatten.take (i*256)++cellsOf x++(blR D.bl).flatten.drop (i*256+256)=(blR (D.bl.set i x)).flatten∧
 Upd (dkT b sb v ab D) (dkT b sb v ab ⟨D.bl.set i x,D.op,D.st,D.ar,D.off⟩) K (K1.set sb (.cells true false 256 (blR (D.bl.set i x)).flatten 139)):=by
 have hl:sb<K1.n:=Nat.lt_of_lt_of_le (AHeap.get_lt h.gs) k.n
 refine⟨by rw[flat_set (blR_len h.ok.b) i (by simpa[blR]using hi),blR_set],?_⟩
 have e:dkC sb v ab ⟨D.bl.set i x,D.op,D.st,D.ar,D.off⟩=dkC sb v ab D:=by simp[dkC]
 simp only[dkT,e]
 exact Upd.next (l:=[_]) (t':=thB sb (.cells true false 256 (blR (D.bl.set i x)).flatten 139)) (Upd.keeps h.s k) (Chg.set K1 hl _) (AHeap.get_set_same (k.at_ h.gs) _) (by simp[thB])
theorem DkR.opn{K1:AHeap}{v':Value}{D':Dk}(h:DkR K b sb v ab D)(c:Chg (blkL v) K K1)(hb:D'.bl=D.bl)(hr:D'.ar=D.ar)(hp:AP K1 141 257 v' D'.op.length (D'.op.map opR).flatten)(hf:∀y∈blkL v',y∈blkL v∨K.n≤y):
 Upd (dkT b sb v ab D) (dkT b sb v' ab D') K (K1.set b (.cells true false 5 (dkC sb v' ab D') 107)):=by
 have hl:b<K1.n:=Nat.lt_of_lt_of_le h.lt c.n
 have u1:=Upd.next (l:=[_,_]) (t':=thA 141 257 v' D'.op.length (D'.op.map opR).flatten) (Upd.refl h.s) c hp (fun y hy=>by
  rcases hf y hy with h1|h1
  ·exact .inl h1
  ·exact .inr (.inl h1))
 have gb:K1.get b=some (.cells true false 5 (dkC sb v ab D) 107):=u1.sep.get 0 rfl
 have u2:=Upd.next (l:=[]) (t':=thB b (.cells true false 5 (dkC sb v' ab D') 107)) u1 (Chg.set K1 hl _) (AHeap.get_set_same gb _) (by simp[thB])
 simp only[dkT,hb,hr]
 exact u2
end
end Go.AM.Fd

set_option maxRecDepth 100000
set_option maxHeartbeats 0
namespace Go.AM.F
def Z256G:List Value:=List.replicate 256 (.int .u8 0)
def Z257G:List Value:=[(.int .i64 0)]++List.replicate 256 (.int .u8 0)
def zclG:TypeId→List Value
 |139=>Z256G
 |107=>[(.slice none 0 0),(.slice none 0 0),(.int .i64 0),(.pointer none),(.bool false)]
 |111=>[(.slice none 0 0),(.slice none 0 0),(.int .i64 0),(.bool false),(.int .i64 0),(.bool false)]
 |29=>[(.pointer none)]
 |30=>[(.int .i64 0)]
 |116=>[(.pointer none),(.int .i64 0),(.int .i64 0),(.slice none 0 0),(.int .i64 0)]
 |114=>[(.int .i64 0),(.int .i64 0)]
 |124=>[(.int .i64 0),(.slice none 0 0)]
 |133=>[(.pointer none),(.int .i64 0),(.int .i64 0),(.slice none 0 0),(.int .i64 0)]
 |141=>Z257G
 |143=>[(.int .i64 0),(.string ByteArray.empty)]
 |_=>[]
def zvlG:TypeId→Value
 |114=>(.agg #[(.int .i64 0),(.int .i64 0)])
 |_=>undef
def zklG:TypeId→List Nat
 |_=>[]
def zrlG:Nat→TypeId→List Value
 |1,9=>[(.string ByteArray.empty)]
 |1,5=>[(.int .u8 0)]
 |1,38=>[(.slice none 0 0)]
 |_,_=>[]
noncomputable def f11:AFunc:=by
 refine(fun(_:Cz zclG zvlG zklG zrlG Go.Proofs.Tryz.prog 0 [0,2] 11 ?a)=>?a) ?h
 case h=>
 intro zc zv zk zr hc hv hk hr
 conv=>lhs;cbv;try simp only[hc,hv,hk,hr,zclG,zvlG,zklG,zrlG]
theorem f11_ok:compF Go.Proofs.Tryz.prog 0 [0,2] 11=some f11:=by kernel_rfl
theorem f11_n:argsOK Go.Proofs.Tryz.prog 11 1=true:=by kernel_rfl
noncomputable def f12:AFunc:=by
 refine(fun(_:Cz zclG zvlG zklG zrlG Go.Proofs.Tryz.prog 0 [0,2,3,4,13] 12 ?a)=>?a) ?h
 case h=>
 intro zc zv zk zr hc hv hk hr
 conv=>lhs;cbv;try simp only[hc,hv,hk,hr,zclG,zvlG,zklG,zrlG]
theorem f12_ok:compF Go.Proofs.Tryz.prog 0 [0,2,3,4,13] 12=some f12:=by kernel_rfl
theorem f12_n:argsOK Go.Proofs.Tryz.prog 12 1=true:=by kernel_rfl
noncomputable def f13:AFunc:=by
 refine(fun(_:Cz zclG zvlG zklG zrlG Go.Proofs.Tryz.prog 0 [0,2,3,4,5,6,7,9,10,11,12,13,14,15,18,22,28,29,62,80,82,89,93,94,95,111,125,126,131] 13 ?a)=>?a) ?h
 case h=>
 intro zc zv zk zr hc hv hk hr
 have e0A:=(rfl:rfA Go.Proofs.Tryz.prog 13 0=rfA Go.Proofs.Tryz.prog 13 0);conv at e0A=>rhs;cbv
 have e0B:=(rfl:rfB Go.Proofs.Tryz.prog 13 0=rfB Go.Proofs.Tryz.prog 13 0);conv at e0B=>rhs;cbv
 conv=>lhs;cbv;try simp only[hc,hv,hk,hr,zclG,zvlG,zklG,zrlG];simp only[←e0A,←e0B]
theorem f13_ok:compF Go.Proofs.Tryz.prog 0 [0,2,3,4,5,6,7,9,10,11,12,13,14,15,18,22,28,29,62,80,82,89,93,94,95,111,125,126,131] 13=some f13:=by kernel_rfl
theorem f13_n:argsOK Go.Proofs.Tryz.prog 13 1=true:=by kernel_rfl
noncomputable def f13r0a:ACode:=by
 refine(fun(_:CzC zclG zvlG zklG zrlG Go.Proofs.Tryz.prog 0 133 [0,2,3,4,5,6,7,9,10,11,12,13,14,15,18,22,28,29,62,80,82,89,93,94,95,111,125,126,131] (rfA Go.Proofs.Tryz.prog 13 0) ?a)=>?a) ?h
 case h=>intro zc zv zk zr hc hv hk hr;conv=>lhs;cbv;try simp only[hc,hv,hk,hr,zclG,zvlG,zklG,zrlG]
theorem f13r0a_ok:compC Go.Proofs.Tryz.prog 0 133 [0,2,3,4,5,6,7,9,10,11,12,13,14,15,18,22,28,29,62,80,82,89,93,94,95,111,125,126,131] (rfA Go.Proofs.Tryz.prog 13 0)=some f13r0a:=by kernel_rfl
noncomputable def f13r0b:ACode:=by
 refine(fun(_:CzC zclG zvlG zklG zrlG Go.Proofs.Tryz.prog 0 133 [0,2,3,4,5,6,7,9,10,11,12,13,14,15,18,22,28,29,62,80,82,89,93,94,95,111,125,126,131] (rfB Go.Proofs.Tryz.prog 13 0) ?a)=>?a) ?h
 case h=>intro zc zv zk zr hc hv hk hr;conv=>lhs;cbv;try simp only[hc,hv,hk,hr,zclG,zvlG,zklG,zrlG]
theorem f13r0b_ok:compC Go.Proofs.Tryz.prog 0 133 [0,2,3,4,5,6,7,9,10,11,12,13,14,15,18,22,28,29,62,80,82,89,93,94,95,111,125,126,131] (rfB Go.Proofs.Tryz.prog 13 0)=some f13r0b:=by kernel_rfl
theorem f13r0_n:(noRF (rfA Go.Proofs.Tryz.prog 13 0)&&noRF (rfB Go.Proofs.Tryz.prog 13 0))=true:=by kernel_rfl
noncomputable def f14:AFunc:=by
 refine(fun(_:Cz zclG zvlG zklG zrlG Go.Proofs.Tryz.prog 0 [0,2,3,4,6,8,9,10,11,12,13,14,16,17,18,19,21,28,32,60,73,81,86,90,105,123,140,157] 14 ?a)=>?a) ?h
 case h=>
 intro zc zv zk zr hc hv hk hr
 conv=>lhs;cbv;try simp only[hc,hv,hk,hr,zclG,zvlG,zklG,zrlG]
theorem f14_ok:compF Go.Proofs.Tryz.prog 0 [0,2,3,4,6,8,9,10,11,12,13,14,16,17,18,19,21,28,32,60,73,81,86,90,105,123,140,157] 14=some f14:=by kernel_rfl
theorem f14_n:argsOK Go.Proofs.Tryz.prog 14 1=true:=by kernel_rfl
noncomputable def f17:AFunc:=by
 refine(fun(_:Cz zclG zvlG zklG zrlG Go.Proofs.Tryz.prog 0 [0,1,3,5,10] 17 ?a)=>?a) ?h
 case h=>
 intro zc zv zk zr hc hv hk hr
 conv=>lhs;cbv;try simp only[hc,hv,hk,hr,zclG,zvlG,zklG,zrlG]
theorem f17_ok:compF Go.Proofs.Tryz.prog 0 [0,1,3,5,10] 17=some f17:=by kernel_rfl
theorem f17_n:argsOK Go.Proofs.Tryz.prog 17 2=true:=by kernel_rfl
noncomputable def f18:AFunc:=by
 refine(fun(_:Cz zclG zvlG zklG zrlG Go.Proofs.Tryz.prog 0 [0,1] 18 ?a)=>?a) ?h
 case h=>
 intro zc zv zk zr hc hv hk hr
 conv=>lhs;cbv;try simp only[hc,hv,hk,hr,zclG,zvlG,zklG,zrlG]
theorem f18_ok:compF Go.Proofs.Tryz.prog 0 [0,1] 18=some f18:=by kernel_rfl
theorem f18_n:argsOK Go.Proofs.Tryz.prog 18 2=true:=by kernel_rfl
noncomputable def f19:AFunc:=by
 refine(fun(_:Cz zclG zvlG zklG zrlG Go.Proofs.Tryz.prog 0 [0,3] 19 ?a)=>?a) ?h
 case h=>
 intro zc zv zk zr hc hv hk hr
 conv=>lhs;cbv;try simp only[hc,hv,hk,hr,zclG,zvlG,zklG,zrlG]
theorem f19_ok:compF Go.Proofs.Tryz.prog 0 [0,3] 19=some f19:=by kernel_rfl
theorem f19_n:argsOK Go.Proofs.Tryz.prog 19 1=true:=by kernel_rfl
noncomputable def f20:AFunc:=by
 refine(fun(_:Cz zclG zvlG zklG zrlG Go.Proofs.Tryz.prog 0 [0] 20 ?a)=>?a) ?h
 case h=>
 intro zc zv zk zr hc hv hk hr
 conv=>lhs;cbv;try simp only[hc,hv,hk,hr,zclG,zvlG,zklG,zrlG]
theorem f20_ok:compF Go.Proofs.Tryz.prog 0 [0] 20=some f20:=by kernel_rfl
theorem f20_n:argsOK Go.Proofs.Tryz.prog 20 1=true:=by kernel_rfl
noncomputable def f21:AFunc:=by
 refine(fun(_:Cz zclG zvlG zklG zrlG Go.Proofs.Tryz.prog 0 [0,1,4,5,6,8,16,23,24,25,26,33,40] 21 ?a)=>?a) ?h
 case h=>
 intro zc zv zk zr hc hv hk hr
 conv=>lhs;cbv;try simp only[hc,hv,hk,hr,zclG,zvlG,zklG,zrlG]
theorem f21_ok:compF Go.Proofs.Tryz.prog 0 [0,1,4,5,6,8,16,23,24,25,26,33,40] 21=some f21:=by kernel_rfl
theorem f21_n:argsOK Go.Proofs.Tryz.prog 21 2=true:=by kernel_rfl
noncomputable def f22:AFunc:=by
 refine(fun(_:Cz zclG zvlG zklG zrlG Go.Proofs.Tryz.prog 0 [0,1,4,5,6,14,24,37,44] 22 ?a)=>?a) ?h
 case h=>
 intro zc zv zk zr hc hv hk hr
 conv=>lhs;cbv;try simp only[hc,hv,hk,hr,zclG,zvlG,zklG,zrlG]
theorem f22_ok:compF Go.Proofs.Tryz.prog 0 [0,1,4,5,6,14,24,37,44] 22=some f22:=by kernel_rfl
theorem f22_n:argsOK Go.Proofs.Tryz.prog 22 2=true:=by kernel_rfl
end Go.AM.F

set_option maxRecDepth 100000
set_option maxHeartbeats 0
namespace Go.AM.F
def Z257H:List Value:=[(.int .i64 0)]++List.replicate 256 (.int .u8 0)
def zclH:TypeId→List Value
 |141=>Z257H
 |143=>[(.int .i64 0),(.string ByteArray.empty)]
 |124=>[(.int .i64 0),(.slice none 0 0)]
 |114=>[(.int .i64 0),(.int .i64 0)]
 |_=>[]
def zvlH:TypeId→Value
 |_=>undef
def zklH:TypeId→List Nat
 |_=>[]
def zrlH:Nat→TypeId→List Value
 |1,141=>Z257H
 |1,143=>[(.int .i64 0),(.string ByteArray.empty)]
 |1,38=>[(.slice none 0 0)]
 |1,5=>[(.int .u8 0)]
 |_,_=>[]
noncomputable def f23:AFunc:=by
 refine(fun(_:Cz zclH zvlH zklH zrlH Go.Proofs.Tryz.prog 0 [0,1,2,6,7,8,13,17] 23 ?a)=>?a) ?h
 case h=>
 intro zc zv zk zr hc hv hk hr
 conv=>lhs;cbv;try simp only[hc,hv,hk,hr,zclH,zvlH,zklH,zrlH]
theorem f23_ok:compF Go.Proofs.Tryz.prog 0 [0,1,2,6,7,8,13,17] 23=some f23:=by kernel_rfl
theorem f23_n:argsOK Go.Proofs.Tryz.prog 23 3=true:=by kernel_rfl
noncomputable def f24:AFunc:=by
 refine(fun(_:Cz zclH zvlH zklH zrlH Go.Proofs.Tryz.prog 0 [0,1,2,6,7,12,16,31] 24 ?a)=>?a) ?h
 case h=>
 intro zc zv zk zr hc hv hk hr
 conv=>lhs;cbv;try simp only[hc,hv,hk,hr,zclH,zvlH,zklH,zrlH]
theorem f24_ok:compF Go.Proofs.Tryz.prog 0 [0,1,2,6,7,12,16,31] 24=some f24:=by kernel_rfl
theorem f24_n:argsOK Go.Proofs.Tryz.prog 24 3=true:=by kernel_rfl
noncomputable def f26:AFunc:=by
 refine(fun(_:Cz zclH zvlH zklH zrlH Go.Proofs.Tryz.prog 0 [0,1,4,5,22] 26 ?a)=>?a) ?h
 case h=>
 intro zc zv zk zr hc hv hk hr
 conv=>lhs;cbv;try simp only[hc,hv,hk,hr,zclH,zvlH,zklH,zrlH]
theorem f26_ok:compF Go.Proofs.Tryz.prog 0 [0,1,4,5,22] 26=some f26:=by kernel_rfl
theorem f26_n:argsOK Go.Proofs.Tryz.prog 26 2=true:=by kernel_rfl
noncomputable def f27:AFunc:=by
 refine(fun(_:Cz zclH zvlH zklH zrlH Go.Proofs.Tryz.prog 0 [0,2,4] 27 ?a)=>?a) ?h
 case h=>
 intro zc zv zk zr hc hv hk hr
 conv=>lhs;cbv;try simp only[hc,hv,hk,hr,zclH,zvlH,zklH,zrlH]
theorem f27_ok:compF Go.Proofs.Tryz.prog 0 [0,2,4] 27=some f27:=by kernel_rfl
theorem f27_n:argsOK Go.Proofs.Tryz.prog 27 1=true:=by kernel_rfl
noncomputable def f28:AFunc:=by
 refine(fun(_:Cz zclH zvlH zklH zrlH Go.Proofs.Tryz.prog 0 [0,2,4] 28 ?a)=>?a) ?h
 case h=>
 intro zc zv zk zr hc hv hk hr
 conv=>lhs;cbv;try simp only[hc,hv,hk,hr,zclH,zvlH,zklH,zrlH]
theorem f28_ok:compF Go.Proofs.Tryz.prog 0 [0,2,4] 28=some f28:=by kernel_rfl
theorem f28_n:argsOK Go.Proofs.Tryz.prog 28 1=true:=by kernel_rfl
noncomputable def f29:AFunc:=by
 refine(fun(_:Cz zclH zvlH zklH zrlH Go.Proofs.Tryz.prog 0 [0,2,4] 29 ?a)=>?a) ?h
 case h=>
 intro zc zv zk zr hc hv hk hr
 conv=>lhs;cbv;try simp only[hc,hv,hk,hr,zclH,zvlH,zklH,zrlH]
theorem f29_ok:compF Go.Proofs.Tryz.prog 0 [0,2,4] 29=some f29:=by kernel_rfl
theorem f29_n:argsOK Go.Proofs.Tryz.prog 29 1=true:=by kernel_rfl
noncomputable def f30:AFunc:=by
 refine(fun(_:Cz zclH zvlH zklH zrlH Go.Proofs.Tryz.prog 0 [0,2,4] 30 ?a)=>?a) ?h
 case h=>
 intro zc zv zk zr hc hv hk hr
 conv=>lhs;cbv;try simp only[hc,hv,hk,hr,zclH,zvlH,zklH,zrlH]
theorem f30_ok:compF Go.Proofs.Tryz.prog 0 [0,2,4] 30=some f30:=by kernel_rfl
theorem f30_n:argsOK Go.Proofs.Tryz.prog 30 1=true:=by kernel_rfl
noncomputable def f31:AFunc:=by
 refine(fun(_:Cz zclH zvlH zklH zrlH Go.Proofs.Tryz.prog 0 [0,1,4,5,6,7,10,14,18,41] 31 ?a)=>?a) ?h
 case h=>
 intro zc zv zk zr hc hv hk hr
 conv=>lhs;cbv;try simp only[hc,hv,hk,hr,zclH,zvlH,zklH,zrlH]
theorem f31_ok:compF Go.Proofs.Tryz.prog 0 [0,1,4,5,6,7,10,14,18,41] 31=some f31:=by kernel_rfl
theorem f31_n:argsOK Go.Proofs.Tryz.prog 31 2=true:=by kernel_rfl
noncomputable def f32:AFunc:=by
 refine(fun(_:Cz zclH zvlH zklH zrlH Go.Proofs.Tryz.prog 0 [0,1,4,5,6,7,10,14,44] 32 ?a)=>?a) ?h
 case h=>
 intro zc zv zk zr hc hv hk hr
 conv=>lhs;cbv;try simp only[hc,hv,hk,hr,zclH,zvlH,zklH,zrlH]
theorem f32_ok:compF Go.Proofs.Tryz.prog 0 [0,1,4,5,6,7,10,14,44] 32=some f32:=by kernel_rfl
theorem f32_n:argsOK Go.Proofs.Tryz.prog 32 2=true:=by kernel_rfl
noncomputable def f33:AFunc:=by
 refine(fun(_:Cz zclH zvlH zklH zrlH Go.Proofs.Tryz.prog 0 [0,1,4,5] 33 ?a)=>?a) ?h
 case h=>
 intro zc zv zk zr hc hv hk hr
 conv=>lhs;cbv;try simp only[hc,hv,hk,hr,zclH,zvlH,zklH,zrlH]
theorem f33_ok:compF Go.Proofs.Tryz.prog 0 [0,1,4,5] 33=some f33:=by kernel_rfl
theorem f33_n:argsOK Go.Proofs.Tryz.prog 33 2=true:=by kernel_rfl
noncomputable def f34:AFunc:=by
 refine(fun(_:Cz zclH zvlH zklH zrlH Go.Proofs.Tryz.prog 0 [0,1,4,5] 34 ?a)=>?a) ?h
 case h=>
 intro zc zv zk zr hc hv hk hr
 conv=>lhs;cbv;try simp only[hc,hv,hk,hr,zclH,zvlH,zklH,zrlH]
theorem f34_ok:compF Go.Proofs.Tryz.prog 0 [0,1,4,5] 34=some f34:=by kernel_rfl
theorem f34_n:argsOK Go.Proofs.Tryz.prog 34 2=true:=by kernel_rfl
end Go.AM.F

set_option maxRecDepth 100000
set_option maxHeartbeats 0
namespace Go.AM.F
def Z256I:List Value:=List.replicate 256 (.int .u8 0)
def Z257I:List Value:=[(.int .i64 0)]++List.replicate 256 (.int .u8 0)
def zclI:TypeId→List Value
 |40=>[(.int .u8 0),(.slice none 0 0),(.int .i64 0),(.slice none 0 0)]
 |139=>Z256I
 |141=>Z257I
 |114=>[(.int .i64 0),(.int .i64 0)]
 |124=>[(.int .i64 0),(.slice none 0 0)]
 |_=>[]
def zvlI:TypeId→Value
 |124=>(.agg #[(.int .i64 0),(.slice none 0 0)])
 |_=>undef
def zklI:TypeId→List Nat
 |_=>[]
def zrlI:Nat→TypeId→List Value
 |1,9=>[(.string ByteArray.empty)]
 |1,5=>[(.int .u8 0)]
 |_,_=>[]
noncomputable def f64:AFunc:=by
 refine(fun(_:Cz zclI zvlI zklI zrlI Go.Proofs.Tryz.prog 0 [0,2,3,9] 64 ?a)=>?a) ?h
 case h=>
 intro zc zv zk zr hc hv hk hr
 conv=>lhs;cbv;try simp only[hc,hv,hk,hr,zclI,zvlI,zklI,zrlI]
theorem f64_ok:compF Go.Proofs.Tryz.prog 0 [0,2,3,9] 64=some f64:=by kernel_rfl
theorem f64_n:argsOK Go.Proofs.Tryz.prog 64 1=true:=by kernel_rfl
noncomputable def f65:AFunc:=by
 refine(fun(_:Cz zclI zvlI zklI zrlI Go.Proofs.Tryz.prog 0 [0,2,4] 65 ?a)=>?a) ?h
 case h=>
 intro zc zv zk zr hc hv hk hr
 conv=>lhs;cbv;try simp only[hc,hv,hk,hr,zclI,zvlI,zklI,zrlI]
theorem f65_ok:compF Go.Proofs.Tryz.prog 0 [0,2,4] 65=some f65:=by kernel_rfl
theorem f65_n:argsOK Go.Proofs.Tryz.prog 65 1=true:=by kernel_rfl
noncomputable def f66:AFunc:=by
 refine(fun(_:Cz zclI zvlI zklI zrlI Go.Proofs.Tryz.prog 0 [0,2] 66 ?a)=>?a) ?h
 case h=>
 intro zc zv zk zr hc hv hk hr
 conv=>lhs;cbv;try simp only[hc,hv,hk,hr,zclI,zvlI,zklI,zrlI]
theorem f66_ok:compF Go.Proofs.Tryz.prog 0 [0,2] 66=some f66:=by kernel_rfl
theorem f66_n:argsOK Go.Proofs.Tryz.prog 66 1=true:=by kernel_rfl
noncomputable def f67:AFunc:=by
 refine(fun(_:Cz zclI zvlI zklI zrlI Go.Proofs.Tryz.prog 0 [0,1,3,4,5,6,7,9,14,27,28,29,33] 67 ?a)=>?a) ?h
 case h=>
 intro zc zv zk zr hc hv hk hr
 have e0A:=(rfl:rfA Go.Proofs.Tryz.prog 67 0=rfA Go.Proofs.Tryz.prog 67 0);conv at e0A=>rhs;cbv
 have e0B:=(rfl:rfB Go.Proofs.Tryz.prog 67 0=rfB Go.Proofs.Tryz.prog 67 0);conv at e0B=>rhs;cbv
 conv=>lhs;cbv;try simp only[hc,hv,hk,hr,zclI,zvlI,zklI,zrlI];simp only[←e0A,←e0B]
theorem f67_ok:compF Go.Proofs.Tryz.prog 0 [0,1,3,4,5,6,7,9,14,27,28,29,33] 67=some f67:=by kernel_rfl
theorem f67_n:argsOK Go.Proofs.Tryz.prog 67 2=true:=by kernel_rfl
noncomputable def f67r0a:ACode:=by
 refine(fun(_:CzC zclI zvlI zklI zrlI Go.Proofs.Tryz.prog 0 37 [0,1,3,4,5,6,7,9,14,27,28,29,33] (rfA Go.Proofs.Tryz.prog 67 0) ?a)=>?a) ?h
 case h=>intro zc zv zk zr hc hv hk hr;conv=>lhs;cbv;try simp only[hc,hv,hk,hr,zclI,zvlI,zklI,zrlI]
theorem f67r0a_ok:compC Go.Proofs.Tryz.prog 0 37 [0,1,3,4,5,6,7,9,14,27,28,29,33] (rfA Go.Proofs.Tryz.prog 67 0)=some f67r0a:=by kernel_rfl
noncomputable def f67r0b:ACode:=by
 refine(fun(_:CzC zclI zvlI zklI zrlI Go.Proofs.Tryz.prog 0 37 [0,1,3,4,5,6,7,9,14,27,28,29,33] (rfB Go.Proofs.Tryz.prog 67 0) ?a)=>?a) ?h
 case h=>intro zc zv zk zr hc hv hk hr;conv=>lhs;cbv;try simp only[hc,hv,hk,hr,zclI,zvlI,zklI,zrlI]
theorem f67r0b_ok:compC Go.Proofs.Tryz.prog 0 37 [0,1,3,4,5,6,7,9,14,27,28,29,33] (rfB Go.Proofs.Tryz.prog 67 0)=some f67r0b:=by kernel_rfl
theorem f67r0_n:(noRF (rfA Go.Proofs.Tryz.prog 67 0)&&noRF (rfB Go.Proofs.Tryz.prog 67 0))=true:=by kernel_rfl
noncomputable def f68:AFunc:=by
 refine(fun(_:Cz zclI zvlI zklI zrlI Go.Proofs.Tryz.prog 0 [0,1,4,5,6,9,15,25] 68 ?a)=>?a) ?h
 case h=>
 intro zc zv zk zr hc hv hk hr
 conv=>lhs;cbv;try simp only[hc,hv,hk,hr,zclI,zvlI,zklI,zrlI]
theorem f68_ok:compF Go.Proofs.Tryz.prog 0 [0,1,4,5,6,9,15,25] 68=some f68:=by kernel_rfl
theorem f68_n:argsOK Go.Proofs.Tryz.prog 68 2=true:=by kernel_rfl
noncomputable def f69:AFunc:=by
 refine(fun(_:Cz zclI zvlI zklI zrlI Go.Proofs.Tryz.prog 0 [0,2,3,4,5,6,7,11,12,30,33,49,61] 69 ?a)=>?a) ?h
 case h=>
 intro zc zv zk zr hc hv hk hr
 conv=>lhs;cbv;try simp only[hc,hv,hk,hr,zclI,zvlI,zklI,zrlI]
theorem f69_ok:compF Go.Proofs.Tryz.prog 0 [0,2,3,4,5,6,7,11,12,30,33,49,61] 69=some f69:=by kernel_rfl
theorem f69_n:argsOK Go.Proofs.Tryz.prog 69 1=true:=by kernel_rfl
noncomputable def f70:AFunc:=by
 refine(fun(_:Cz zclI zvlI zklI zrlI Go.Proofs.Tryz.prog 0 [0,1,2,6,22] 70 ?a)=>?a) ?h
 case h=>
 intro zc zv zk zr hc hv hk hr
 conv=>lhs;cbv;try simp only[hc,hv,hk,hr,zclI,zvlI,zklI,zrlI]
theorem f70_ok:compF Go.Proofs.Tryz.prog 0 [0,1,2,6,22] 70=some f70:=by kernel_rfl
theorem f70_n:argsOK Go.Proofs.Tryz.prog 70 3=true:=by kernel_rfl
noncomputable def f71:AFunc:=by
 refine(fun(_:Cz zclI zvlI zklI zrlI Go.Proofs.Tryz.prog 0 [0,1,4,5,6,8,9] 71 ?a)=>?a) ?h
 case h=>
 intro zc zv zk zr hc hv hk hr
 conv=>lhs;cbv;try simp only[hc,hv,hk,hr,zclI,zvlI,zklI,zrlI]
theorem f71_ok:compF Go.Proofs.Tryz.prog 0 [0,1,4,5,6,8,9] 71=some f71:=by kernel_rfl
theorem f71_n:argsOK Go.Proofs.Tryz.prog 71 2=true:=by kernel_rfl
noncomputable def f72:AFunc:=by
 refine(fun(_:Cz zclI zvlI zklI zrlI Go.Proofs.Tryz.prog 0 [0,1,4,5,6,8,9,10,25] 72 ?a)=>?a) ?h
 case h=>
 intro zc zv zk zr hc hv hk hr
 conv=>lhs;cbv;try simp only[hc,hv,hk,hr,zclI,zvlI,zklI,zrlI]
theorem f72_ok:compF Go.Proofs.Tryz.prog 0 [0,1,4,5,6,8,9,10,25] 72=some f72:=by kernel_rfl
theorem f72_n:argsOK Go.Proofs.Tryz.prog 72 2=true:=by kernel_rfl
end Go.AM.F

set_option maxRecDepth 100000
set_option maxHeartbeats 0
namespace Go.AM.F
def zclJ:TypeId→List Value
 |_=>[]
def zvlJ:TypeId→Value
 |_=>undef
def zklJ:TypeId→List Nat
 |_=>[]
def zrlJ:Nat→TypeId→List Value
 |0,9=>[]
 |1,9=>[(.string ByteArray.empty)]
 |_,_=>[]
noncomputable def f73:AFunc:=by
 refine(fun(_:Cz zclJ zvlJ zklJ zrlJ Go.Proofs.Tryz.prog 0 [0,1,4,5,6,7,12,21,33] 73 ?a)=>?a) ?h
 case h=>
 intro zc zv zk zr hc hv hk hr
 conv=>lhs;cbv;try simp only[hc,hv,hk,hr,zclJ,zvlJ,zklJ,zrlJ]
theorem f73_ok:compF Go.Proofs.Tryz.prog 0 [0,1,4,5,6,7,12,21,33] 73=some f73:=by kernel_rfl
theorem f73_n:argsOK Go.Proofs.Tryz.prog 73 2=true:=by kernel_rfl
noncomputable def f74:AFunc:=by
 refine(fun(_:Cz zclJ zvlJ zklJ zrlJ Go.Proofs.Tryz.prog 0 [0,2,3,4,5,22] 74 ?a)=>?a) ?h
 case h=>
 intro zc zv zk zr hc hv hk hr
 conv=>lhs;cbv;try simp only[hc,hv,hk,hr,zclJ,zvlJ,zklJ,zrlJ]
theorem f74_ok:compF Go.Proofs.Tryz.prog 0 [0,2,3,4,5,22] 74=some f74:=by kernel_rfl
theorem f74_n:argsOK Go.Proofs.Tryz.prog 74 1=true:=by kernel_rfl
noncomputable def f75:AFunc:=by
 refine(fun(_:Cz zclJ zvlJ zklJ zrlJ Go.Proofs.Tryz.prog 0 [0,2,3,7,13] 75 ?a)=>?a) ?h
 case h=>
 intro zc zv zk zr hc hv hk hr
 conv=>lhs;cbv;try simp only[hc,hv,hk,hr,zclJ,zvlJ,zklJ,zrlJ]
theorem f75_ok:compF Go.Proofs.Tryz.prog 0 [0,2,3,7,13] 75=some f75:=by kernel_rfl
theorem f75_n:argsOK Go.Proofs.Tryz.prog 75 1=true:=by kernel_rfl
noncomputable def f76:AFunc:=by
 refine(fun(_:Cz zclJ zvlJ zklJ zrlJ Go.Proofs.Tryz.prog 0 [0,2,3,11,18] 76 ?a)=>?a) ?h
 case h=>
 intro zc zv zk zr hc hv hk hr
 conv=>lhs;cbv;try simp only[hc,hv,hk,hr,zclJ,zvlJ,zklJ,zrlJ]
theorem f76_ok:compF Go.Proofs.Tryz.prog 0 [0,2,3,11,18] 76=some f76:=by kernel_rfl
theorem f76_n:argsOK Go.Proofs.Tryz.prog 76 1=true:=by kernel_rfl
noncomputable def f77:AFunc:=by
 refine(fun(_:Cz zclJ zvlJ zklJ zrlJ Go.Proofs.Tryz.prog 0 [0,2] 77 ?a)=>?a) ?h
 case h=>
 intro zc zv zk zr hc hv hk hr
 conv=>lhs;cbv;try simp only[hc,hv,hk,hr,zclJ,zvlJ,zklJ,zrlJ]
theorem f77_ok:compF Go.Proofs.Tryz.prog 0 [0,2] 77=some f77:=by kernel_rfl
theorem f77_n:argsOK Go.Proofs.Tryz.prog 77 1=true:=by kernel_rfl
noncomputable def f78:AFunc:=by
 refine(fun(_:Cz zclJ zvlJ zklJ zrlJ Go.Proofs.Tryz.prog 0 [0,1,4] 78 ?a)=>?a) ?h
 case h=>
 intro zc zv zk zr hc hv hk hr
 conv=>lhs;cbv;try simp only[hc,hv,hk,hr,zclJ,zvlJ,zklJ,zrlJ]
theorem f78_ok:compF Go.Proofs.Tryz.prog 0 [0,1,4] 78=some f78:=by kernel_rfl
theorem f78_n:argsOK Go.Proofs.Tryz.prog 78 2=true:=by kernel_rfl
noncomputable def f79:AFunc:=by
 refine(fun(_:Cz zclJ zvlJ zklJ zrlJ Go.Proofs.Tryz.prog 0 [0,2] 79 ?a)=>?a) ?h
 case h=>
 intro zc zv zk zr hc hv hk hr
 conv=>lhs;cbv;try simp only[hc,hv,hk,hr,zclJ,zvlJ,zklJ,zrlJ]
theorem f79_ok:compF Go.Proofs.Tryz.prog 0 [0,2] 79=some f79:=by kernel_rfl
theorem f79_n:argsOK Go.Proofs.Tryz.prog 79 1=true:=by kernel_rfl
noncomputable def f80:AFunc:=by
 refine(fun(_:Cz zclJ zvlJ zklJ zrlJ Go.Proofs.Tryz.prog 0 [0,2,3,4,5,28] 80 ?a)=>?a) ?h
 case h=>
 intro zc zv zk zr hc hv hk hr
 conv=>lhs;cbv;try simp only[hc,hv,hk,hr,zclJ,zvlJ,zklJ,zrlJ]
theorem f80_ok:compF Go.Proofs.Tryz.prog 0 [0,2,3,4,5,28] 80=some f80:=by kernel_rfl
theorem f80_n:argsOK Go.Proofs.Tryz.prog 80 1=true:=by kernel_rfl
noncomputable def f81:AFunc:=by
 refine(fun(_:Cz zclJ zvlJ zklJ zrlJ Go.Proofs.Tryz.prog 0 [0,2,4] 81 ?a)=>?a) ?h
 case h=>
 intro zc zv zk zr hc hv hk hr
 conv=>lhs;cbv;try simp only[hc,hv,hk,hr,zclJ,zvlJ,zklJ,zrlJ]
theorem f81_ok:compF Go.Proofs.Tryz.prog 0 [0,2,4] 81=some f81:=by kernel_rfl
theorem f81_n:argsOK Go.Proofs.Tryz.prog 81 1=true:=by kernel_rfl
noncomputable def f82:AFunc:=by
 refine(fun(_:Cz zclJ zvlJ zklJ zrlJ Go.Proofs.Tryz.prog 0 [0,2,4] 82 ?a)=>?a) ?h
 case h=>
 intro zc zv zk zr hc hv hk hr
 conv=>lhs;cbv;try simp only[hc,hv,hk,hr,zclJ,zvlJ,zklJ,zrlJ]
theorem f82_ok:compF Go.Proofs.Tryz.prog 0 [0,2,4] 82=some f82:=by kernel_rfl
theorem f82_n:argsOK Go.Proofs.Tryz.prog 82 1=true:=by kernel_rfl
noncomputable def f83:AFunc:=by
 refine(fun(_:Cz zclJ zvlJ zklJ zrlJ Go.Proofs.Tryz.prog 0 [0,1,4,5,8,13] 83 ?a)=>?a) ?h
 case h=>
 intro zc zv zk zr hc hv hk hr
 conv=>lhs;cbv;try simp only[hc,hv,hk,hr,zclJ,zvlJ,zklJ,zrlJ]
theorem f83_ok:compF Go.Proofs.Tryz.prog 0 [0,1,4,5,8,13] 83=some f83:=by kernel_rfl
theorem f83_n:argsOK Go.Proofs.Tryz.prog 83 2=true:=by kernel_rfl
noncomputable def f84:AFunc:=by
 refine(fun(_:Cz zclJ zvlJ zklJ zrlJ Go.Proofs.Tryz.prog 0 [0,1,4,18,24] 84 ?a)=>?a) ?h
 case h=>
 intro zc zv zk zr hc hv hk hr
 conv=>lhs;cbv;try simp only[hc,hv,hk,hr,zclJ,zvlJ,zklJ,zrlJ]
theorem f84_ok:compF Go.Proofs.Tryz.prog 0 [0,1,4,18,24] 84=some f84:=by kernel_rfl
theorem f84_n:argsOK Go.Proofs.Tryz.prog 84 2=true:=by kernel_rfl
noncomputable def f85:AFunc:=by
 refine(fun(_:Cz zclJ zvlJ zklJ zrlJ Go.Proofs.Tryz.prog 0 [] 85 ?a)=>?a) ?h
 case h=>
 intro zc zv zk zr hc hv hk hr
 conv=>lhs;cbv;try simp only[hc,hv,hk,hr,zclJ,zvlJ,zklJ,zrlJ]
theorem f85_ok:compF Go.Proofs.Tryz.prog 0 [] 85=some f85:=by kernel_rfl
theorem f85_n:argsOK Go.Proofs.Tryz.prog 85 0=true:=by kernel_rfl
noncomputable def f86:AFunc:=by
 refine(fun(_:Cz zclJ zvlJ zklJ zrlJ Go.Proofs.Tryz.prog 0 [0,1,4,8,19] 86 ?a)=>?a) ?h
 case h=>
 intro zc zv zk zr hc hv hk hr
 conv=>lhs;cbv;try simp only[hc,hv,hk,hr,zclJ,zvlJ,zklJ,zrlJ]
theorem f86_ok:compF Go.Proofs.Tryz.prog 0 [0,1,4,8,19] 86=some f86:=by kernel_rfl
theorem f86_n:argsOK Go.Proofs.Tryz.prog 86 2=true:=by kernel_rfl
noncomputable def f87:AFunc:=by
 refine(fun(_:Cz zclJ zvlJ zklJ zrlJ Go.Proofs.Tryz.prog 0 [0,2,14,19] 87 ?a)=>?a) ?h
 case h=>
 intro zc zv zk zr hc hv hk hr
 conv=>lhs;cbv;try simp only[hc,hv,hk,hr,zclJ,zvlJ,zklJ,zrlJ]
theorem f87_ok:compF Go.Proofs.Tryz.prog 0 [0,2,14,19] 87=some f87:=by kernel_rfl
theorem f87_n:argsOK Go.Proofs.Tryz.prog 87 1=true:=by kernel_rfl
noncomputable def f89:AFunc:=by
 refine(fun(_:Cz zclJ zvlJ zklJ zrlJ Go.Proofs.Tryz.prog 0 [0,1,4,5,10,26,43] 89 ?a)=>?a) ?h
 case h=>
 intro zc zv zk zr hc hv hk hr
 conv=>lhs;cbv;try simp only[hc,hv,hk,hr,zclJ,zvlJ,zklJ,zrlJ]
theorem f89_ok:compF Go.Proofs.Tryz.prog 0 [0,1,4,5,10,26,43] 89=some f89:=by kernel_rfl
theorem f89_n:argsOK Go.Proofs.Tryz.prog 89 2=true:=by kernel_rfl
noncomputable def f90:AFunc:=by
 refine(fun(_:Cz zclJ zvlJ zklJ zrlJ Go.Proofs.Tryz.prog 0 [0,1,4,5,10,17,25,37] 90 ?a)=>?a) ?h
 case h=>
 intro zc zv zk zr hc hv hk hr
 conv=>lhs;cbv;try simp only[hc,hv,hk,hr,zclJ,zvlJ,zklJ,zrlJ]
theorem f90_ok:compF Go.Proofs.Tryz.prog 0 [0,1,4,5,10,17,25,37] 90=some f90:=by kernel_rfl
theorem f90_n:argsOK Go.Proofs.Tryz.prog 90 2=true:=by kernel_rfl
end Go.AM.F

set_option maxRecDepth 100000
set_option maxHeartbeats 0
namespace Go.AM.F
def Z257K:List Value:=[(.int .i64 0)]++List.replicate 256 (.int .u8 0)
def zclK:TypeId→List Value
 |210=>[(.slice none 0 0)]
 |114=>[(.int .i64 0),(.int .i64 0)]
 |124=>[(.int .i64 0),(.slice none 0 0)]
 |5=>[(.int .u8 0)]
 |141=>Z257K
 |_=>[]
def zvlK:TypeId→Value
 |114=>(.agg #[(.int .i64 0),(.int .i64 0)])
 |124=>(.agg #[(.int .i64 0),(.slice none 0 0)])
 |_=>undef
def zklK:TypeId→List Nat
 |_=>[]
def zrlK:Nat→TypeId→List Value
 |1,5=>[(.int .u8 0)]
 |3,38=>[(.slice none 0 0),(.slice none 0 0),(.slice none 0 0)]
 |_,_=>[]
noncomputable def f92:AFunc:=by
 refine(fun(_:Cz zclK zvlK zklK zrlK Go.Proofs.Tryz.prog 0 [0,1,4] 92 ?a)=>?a) ?h
 case h=>
 intro zc zv zk zr hc hv hk hr
 conv=>lhs;cbv;try simp only[hc,hv,hk,hr,zclK,zvlK,zklK,zrlK]
theorem f92_ok:compF Go.Proofs.Tryz.prog 0 [0,1,4] 92=some f92:=by kernel_rfl
theorem f92_n:argsOK Go.Proofs.Tryz.prog 92 2=true:=by kernel_rfl
noncomputable def f94:AFunc:=by
 refine(fun(_:Cz zclK zvlK zklK zrlK Go.Proofs.Tryz.prog 0 [0,1,4,13] 94 ?a)=>?a) ?h
 case h=>
 intro zc zv zk zr hc hv hk hr
 conv=>lhs;cbv;try simp only[hc,hv,hk,hr,zclK,zvlK,zklK,zrlK]
theorem f94_ok:compF Go.Proofs.Tryz.prog 0 [0,1,4,13] 94=some f94:=by kernel_rfl
theorem f94_n:argsOK Go.Proofs.Tryz.prog 94 2=true:=by kernel_rfl
noncomputable def f96:AFunc:=by
 refine(fun(_:Cz zclK zvlK zklK zrlK Go.Proofs.Tryz.prog 0 [0,2,3,6] 96 ?a)=>?a) ?h
 case h=>
 intro zc zv zk zr hc hv hk hr
 conv=>lhs;cbv;try simp only[hc,hv,hk,hr,zclK,zvlK,zklK,zrlK]
theorem f96_ok:compF Go.Proofs.Tryz.prog 0 [0,2,3,6] 96=some f96:=by kernel_rfl
theorem f96_n:argsOK Go.Proofs.Tryz.prog 96 1=true:=by kernel_rfl
noncomputable def f110:AFunc:=by
 refine(fun(_:Cz zclK zvlK zklK zrlK Go.Proofs.Tryz.prog 0 [0,1,2] 110 ?a)=>?a) ?h
 case h=>
 intro zc zv zk zr hc hv hk hr
 conv=>lhs;cbv;try simp only[hc,hv,hk,hr,zclK,zvlK,zklK,zrlK]
theorem f110_ok:compF Go.Proofs.Tryz.prog 0 [0,1,2] 110=some f110:=by kernel_rfl
theorem f110_n:argsOK Go.Proofs.Tryz.prog 110 1=true:=by kernel_rfl
noncomputable def f117:AFunc:=by
 refine(fun(_:Cz zclK zvlK zklK zrlK Go.Proofs.Tryz.prog 0 [0,2] 117 ?a)=>?a) ?h
 case h=>
 intro zc zv zk zr hc hv hk hr
 conv=>lhs;cbv;try simp only[hc,hv,hk,hr,zclK,zvlK,zklK,zrlK]
theorem f117_ok:compF Go.Proofs.Tryz.prog 0 [0,2] 117=some f117:=by kernel_rfl
theorem f117_n:argsOK Go.Proofs.Tryz.prog 117 1=true:=by kernel_rfl
noncomputable def f120:AFunc:=by
 refine(fun(_:Cz zclK zvlK zklK zrlK Go.Proofs.Tryz.prog 0 [0,1,4] 120 ?a)=>?a) ?h
 case h=>
 intro zc zv zk zr hc hv hk hr
 conv=>lhs;cbv;try simp only[hc,hv,hk,hr,zclK,zvlK,zklK,zrlK]
theorem f120_ok:compF Go.Proofs.Tryz.prog 0 [0,1,4] 120=some f120:=by kernel_rfl
theorem f120_n:argsOK Go.Proofs.Tryz.prog 120 2=true:=by kernel_rfl
noncomputable def f121:AFunc:=by
 refine(fun(_:Cz zclK zvlK zklK zrlK Go.Proofs.Tryz.prog 0 [0,2,3,4,5,6,7,8,14] 121 ?a)=>?a) ?h
 case h=>
 intro zc zv zk zr hc hv hk hr
 conv=>lhs;cbv;try simp only[hc,hv,hk,hr,zclK,zvlK,zklK,zrlK]
theorem f121_ok:compF Go.Proofs.Tryz.prog 0 [0,2,3,4,5,6,7,8,14] 121=some f121:=by kernel_rfl
theorem f121_n:argsOK Go.Proofs.Tryz.prog 121 1=true:=by kernel_rfl
noncomputable def f122:AFunc:=by
 refine(fun(_:Cz zclK zvlK zklK zrlK Go.Proofs.Tryz.prog 0 [0,1,4,5,18] 122 ?a)=>?a) ?h
 case h=>
 intro zc zv zk zr hc hv hk hr
 conv=>lhs;cbv;try simp only[hc,hv,hk,hr,zclK,zvlK,zklK,zrlK]
theorem f122_ok:compF Go.Proofs.Tryz.prog 0 [0,1,4,5,18] 122=some f122:=by kernel_rfl
theorem f122_n:argsOK Go.Proofs.Tryz.prog 122 2=true:=by kernel_rfl
noncomputable def f124:AFunc:=by
 refine(fun(_:Cz zclK zvlK zklK zrlK Go.Proofs.Tryz.prog 0 [0,1,2,6,7,16] 124 ?a)=>?a) ?h
 case h=>
 intro zc zv zk zr hc hv hk hr
 conv=>lhs;cbv;try simp only[hc,hv,hk,hr,zclK,zvlK,zklK,zrlK]
theorem f124_ok:compF Go.Proofs.Tryz.prog 0 [0,1,2,6,7,16] 124=some f124:=by kernel_rfl
theorem f124_n:argsOK Go.Proofs.Tryz.prog 124 3=true:=by kernel_rfl
noncomputable def f126:AFunc:=by
 refine(fun(_:Cz zclK zvlK zklK zrlK Go.Proofs.Tryz.prog 0 [0,3,7,8,9,10] 126 ?a)=>?a) ?h
 case h=>
 intro zc zv zk zr hc hv hk hr
 conv=>lhs;cbv;try simp only[hc,hv,hk,hr,zclK,zvlK,zklK,zrlK]
theorem f126_ok:compF Go.Proofs.Tryz.prog 0 [0,3,7,8,9,10] 126=some f126:=by kernel_rfl
theorem f126_n:argsOK Go.Proofs.Tryz.prog 126 1=true:=by kernel_rfl
noncomputable def f141:AFunc:=by
 refine(fun(_:Cz zclK zvlK zklK zrlK Go.Proofs.Tryz.prog 0 [0,1,3,8,18] 141 ?a)=>?a) ?h
 case h=>
 intro zc zv zk zr hc hv hk hr
 conv=>lhs;cbv;try simp only[hc,hv,hk,hr,zclK,zvlK,zklK,zrlK]
theorem f141_ok:compF Go.Proofs.Tryz.prog 0 [0,1,3,8,18] 141=some f141:=by kernel_rfl
theorem f141_n:argsOK Go.Proofs.Tryz.prog 141 2=true:=by kernel_rfl
noncomputable def f156:AFunc:=by
 refine(fun(_:Cz zclK zvlK zklK zrlK Go.Proofs.Tryz.prog 0 [0,2,3,5,6,8,9,10,11,12,20,25,26,27,28] 156 ?a)=>?a) ?h
 case h=>
 intro zc zv zk zr hc hv hk hr
 conv=>lhs;cbv;try simp only[hc,hv,hk,hr,zclK,zvlK,zklK,zrlK]
theorem f156_ok:compF Go.Proofs.Tryz.prog 0 [0,2,3,5,6,8,9,10,11,12,20,25,26,27,28] 156=some f156:=by kernel_rfl
theorem f156_n:argsOK Go.Proofs.Tryz.prog 156 1=true:=by kernel_rfl
noncomputable def f168:AFunc:=by
 refine(fun(_:Cz zclK zvlK zklK zrlK Go.Proofs.Tryz.prog 0 [0,1,4,6,16] 168 ?a)=>?a) ?h
 case h=>
 intro zc zv zk zr hc hv hk hr
 conv=>lhs;cbv;try simp only[hc,hv,hk,hr,zclK,zvlK,zklK,zrlK]
theorem f168_ok:compF Go.Proofs.Tryz.prog 0 [0,1,4,6,16] 168=some f168:=by kernel_rfl
theorem f168_n:argsOK Go.Proofs.Tryz.prog 168 2=true:=by kernel_rfl
end Go.AM.F

set_option linter.unusedSimpArgs false
set_option linter.unusedVariables false
namespace Go.AM.Fd
open Nat (reduceAdd reduceEqDiff reduceLT reduceLeDiff reduceMul reduceSub)
open Go.Proofs Go.AM.F
theorem z257_l:Z257K.length=257:=by kernel_rfl
theorem z257h_l:Z257H.length=257:=by kernel_rfl
theorem z257h_o:Z257H.all Value.oneCell'=true:=by kernel_rfl
theorem z257h_f(c:List Value)(h:c.length=257):fillA Z257H [(0,257,.agg c.toArray)]=some c:=by
 have hz:=z257h_l
 simp only[fillA,Value.cells,h,hz,Nat.zero_add,Nat.le_refl,and_self,if_true,List.take_zero,List.nil_append]
 rw[List.drop_of_length_le (by omega),List.append_nil]
theorem z257_o:Z257K.all Value.oneCell'=true:=by kernel_rfl
theorem z257_i(i:Int):fillA Z257H [(0,1,.int .i64 i)]=some (.int .i64 i::cellsOf (List.replicate 256 0)):=by kernel_rfl
section
variable {K:AHeap} {b sb:Nat} {v:Value} {ab:Option Nat} {D:Dk}
theorem t65(h:DkR K b sb v ab D):∃w K',ARun Go.Proofs.Tryz.prog 0 65 [ptr b 0] K w K'∧w=.int .i64 (D.bl.length:Nat)∧K'=K:=by
 refine walk2 f65_ok f65_n ?_
 intro Q hq1 hq2
 have g:=h.g
 simp(disch:=first|assumption|omega|(simp only[LN]<;>omega)|(simp(disch:=first|assumption|omega|(simp only[LN]<;>omega))only[row_alloc,row_set];assumption))only[f65,W_block,P3,↓reduceIte,reduceAdd,reduceEqDiff,reduceCtorEq,initFr,reduceLT,clsA,reduceLeDiff,reduceMul,reduceSub,reduceIte,g]
 exact hq2 _ _ ⟨_,rfl,rfl,rfl⟩
theorem t66(h:DkR K b sb v ab D):∃w K',ARun Go.Proofs.Tryz.prog 0 66 [ptr b 0] K w K'∧w=.bool D.off∧K'=K:=by
 refine walk2 f66_ok f66_n ?_
 intro Q hq1 hq2
 have g:=h.g
 simp(disch:=first|assumption|omega|(simp only[LN]<;>omega)|(simp(disch:=first|assumption|omega|(simp only[LN]<;>omega))only[row_alloc,row_set];assumption))only[f66,W_block,P3,↓reduceIte,reduceAdd,reduceEqDiff,reduceCtorEq,initFr,reduceLT,clsA,reduceLeDiff,reduceMul,reduceSub,reduceIte,g]
 exact hq2 _ _ ⟨_,rfl,rfl,rfl⟩
theorem t81(h:DkR K b sb v ab D):∃w K',ARun Go.Proofs.Tryz.prog 0 81 [ptr b 0] K w K'∧w=.int .i64 (D.st:Nat)∧K'=K:=by
 refine walk2 f81_ok f81_n ?_
 intro Q hq1 hq2
 have g:=h.g
 simp(disch:=first|assumption|omega|(simp only[LN]<;>omega)|(simp(disch:=first|assumption|omega|(simp only[LN]<;>omega))only[row_alloc,row_set];assumption))only[f81,W_block,P3,↓reduceIte,reduceAdd,reduceEqDiff,reduceCtorEq,initFr,reduceLT,clsA,reduceLeDiff,reduceMul,reduceSub,reduceIte,g]
 exact hq2 _ _ ⟨_,rfl,rfl,rfl⟩
theorem t82(h:DkR K b sb v ab D):∃w K',ARun Go.Proofs.Tryz.prog 0 82 [ptr b 0] K w K'∧w=.int .i64 (D.op.length:Nat)∧K'=K:=by
 refine walk2 f82_ok f82_n ?_
 intro Q hq1 hq2
 have g:=h.g
 have hi:=Sl.is h.so
 have hl:lenS v=D.op.length:=by have:=Sl.len h.so;simpa using this
 simp(disch:=first|assumption|omega|(simp only[LN]<;>omega)|(simp(disch:=first|assumption|omega|(simp only[LN]<;>omega))only[row_alloc,row_set];assumption))only[f82,W_block,P3,↓reduceIte,reduceAdd,reduceEqDiff,reduceCtorEq,initFr,reduceLT,clsA,reduceLeDiff,reduceMul,reduceSub,reduceIte,g,hl]
 exact hq2 _ _ ⟨_,rfl,rfl,rfl⟩
theorem t83(h:DkR K b sb v ab D)(i:Int):∃w K',ARun Go.Proofs.Tryz.prog 0 83 [ptr b 0,.int .i64 i] K w K'∧w=.int .i64 (askD D i)∧K'=K:=by
 refine walk2 f83_ok f83_n ?_
 intro Q hq1 hq2
 have g:=h.g
 cases ho:D.off with
 |true=>
  rw[ho]at g
  simp(disch:=first|assumption|omega|(simp only[LN]<;>omega)|(simp(disch:=first|assumption|omega|(simp only[LN]<;>omega))only[row_alloc,row_set];assumption))only[f83,W_block,P3,↓reduceIte,reduceAdd,reduceEqDiff,reduceCtorEq,initFr,reduceLT,clsA,reduceLeDiff,reduceMul,reduceSub,reduceIte,g]
  exact hq2 _ _ ⟨_,rfl,by simp[askD,ho,tupV],rfl⟩
 |false=>
  rw[ho]at g
  by_cases h0:i<0
  ·simp(disch:=first|assumption|omega|(simp only[LN]<;>omega)|(simp(disch:=first|assumption|omega|(simp only[LN]<;>omega))only[row_alloc,row_set];assumption))only[f83,W_block,P3,↓reduceIte,reduceAdd,reduceEqDiff,reduceCtorEq,initFr,reduceLT,clsA,reduceLeDiff,reduceMul,reduceSub,reduceIte,g]
   exact hq2 _ _ ⟨_,rfl,by simp[askD,ho,h0,tupV],rfl⟩
  ·by_cases h1:(D.bl.length:Int)≤i
   ·simp(disch:=first|assumption|omega|(simp only[LN]<;>omega)|(simp(disch:=first|assumption|omega|(simp only[LN]<;>omega))only[row_alloc,row_set];assumption))only[f83,W_block,P3,↓reduceIte,reduceAdd,reduceEqDiff,reduceCtorEq,initFr,reduceLT,clsA,reduceLeDiff,reduceMul,reduceSub,reduceIte,g]
    exact hq2 _ _ ⟨_,rfl,by simp[askD,ho,h1,tupV],rfl⟩
   ·simp(disch:=first|assumption|omega|(simp only[LN]<;>omega)|(simp(disch:=first|assumption|omega|(simp only[LN]<;>omega))only[row_alloc,row_set];assumption))only[f83,W_block,P3,↓reduceIte,reduceAdd,reduceEqDiff,reduceCtorEq,initFr,reduceLT,clsA,reduceLeDiff,reduceMul,reduceSub,reduceIte,g]
    exact hq2 _ _ ⟨_,rfl,by simp[askD,ho,h0,h1,tupV],rfl⟩
theorem t19(h:DkR K b sb v ab D):∃w K',ARun Go.Proofs.Tryz.prog 0 19 [ptr b 0] K w K'∧Upd (dkT b sb v ab D) (dkT b sb v none (crashD D)) K K':=by
 refine walk2 f19_ok f19_n ?_
 intro Q hq1 hq2
 have g:=h.g
 have lb:=h.lt
 simp(disch:=first|assumption|omega|(simp only[LN]<;>omega)|(simp(disch:=first|assumption|omega|(simp only[LN]<;>omega))only[row_alloc,row_set];assumption))only[f19,W_block,P3,↓reduceIte,reduceAdd,reduceEqDiff,reduceCtorEq,initFr,reduceLT,clsA,reduceLeDiff,reduceMul,reduceSub,reduceIte,g]
 refine hq1 _ _ ⟨_,rfl,?_⟩
 exact h.cell (D':=crashD D) (ab':=none) (Keeps.refl _) rfl rfl trivial (by simp)
theorem t17(h:DkR K b sb v ab D)(n:Int):∃w K',ARun Go.Proofs.Tryz.prog 0 17 [ptr b 0,.int .i64 n] K w K'∧∃ab',Upd (dkT b sb v ab D) (dkT b sb v ab' (failD D n)) K K':=by
 refine walk2 f17_ok f17_n ?_
 intro Q hq1 hq2
 have kk:Keeps K (K.alloc (.cells true false 1 [.int .i64 n] 3)):=(Keeps.refl K).alloc _
 have g:=h.g
 have lb:=h.lt
 by_cases h0:0≤n
 ·simp(disch:=first|assumption|omega|(simp only[LN]<;>omega)|(simp(disch:=first|assumption|omega|(simp only[LN]<;>omega))only[row_alloc,row_set];assumption))only[f17,W_block,P3,↓reduceIte,reduceAdd,reduceEqDiff,reduceCtorEq,initFr,reduceLT,clsA,reduceLeDiff,reduceMul,reduceSub,reduceIte,g]
  refine hq1 _ _ ⟨_,rfl,some K.n,?_⟩
  rw[←set_old _ _ lb]
  have e:(n.toNat:Int)=n:=by omega
  have hb:b<(K.alloc (.cells true false 1 [.int .i64 n] 3)).n:=by rw[alloc_n];omega
  exact h.cell (D':=failD D n) (ab':=some K.n) kk rfl rfl (by
   simp only[failD,if_pos h0,thP]
   rw[AHeap.get_set_other _ (by omega) hb,AHeap.get_alloc_new,e]) (by simp)
 ·simp(disch:=first|assumption|omega|(simp only[LN]<;>omega)|(simp(disch:=first|assumption|omega|(simp only[LN]<;>omega))only[row_alloc,row_set];assumption))only[f17,W_block,P3,↓reduceIte,reduceAdd,reduceEqDiff,reduceCtorEq,initFr,reduceLT,clsA,reduceLeDiff,reduceMul,reduceSub,reduceIte,g]
  refine hq1 _ _ ⟨_,rfl,none,?_⟩
  rw[←set_old _ _ lb]
  exact h.cell (D':=failD D n) (ab':=none) kk rfl rfl (by simp only[failD,if_neg h0];trivial) (by simp)
theorem t84(h:DkR K b sb v ab D)(hs:D.st<1000000){g:FuncId}{first:Array Value}{D2:Dk}
 (hdo:∀ab1 K1,(stepD D).2 =false→DkR K1 b sb v ab1 (stepD D).1 →∃w K2,ARun Go.Proofs.Tryz.prog 0 g first.toList K1 w K2∧∃v',Upd (dkT b sb v ab1 (stepD D).1) (dkT b sb v' ab1 D2) K1 K2):
 ∃w K',ARun Go.Proofs.Tryz.prog 0 84 [ptr b 0,.func (.func g) first #[]] K w K'∧w=.int .i64 (if(stepD D).2 =true then 140 else 0)∧∃v' ab',Upd (dkT b sb v ab D) (dkT b sb v' ab' (if(stepD D).2 =true then(stepD D).1 else D2)) K K':=by
 refine walk2 f84_ok f84_n ?_
 intro Q hq1 hq2
 have g:=h.g
 have lb:=h.lt
 have hw:IntKind.i64.wrap ((D.st:Int)+1)=((D.st+1:Nat):Int):=by rw[wrap_i64 (by omega) (by omega)];simp
 cases ha:D.ar with
 |none=>
  have hp:=h.p
  rw[ha]at hp
  have hab:ab=none:=by cases ab;rfl;exact hp.elim
  subst hab
  have e1:stepD D=(⟨D.bl,D.op,D.st+1,none,D.off⟩,false):=by unfold stepD;rw[ha]
  simp only[ptrO]at g
  simp(disch:=first|assumption|omega|(simp only[LN]<;>omega)|(simp(disch:=first|assumption|omega|(simp only[LN]<;>omega))only[row_alloc,row_set];assumption))only[f84,W_block,P3,↓reduceIte,reduceAdd,reduceEqDiff,reduceCtorEq,initFr,reduceLT,clsA,reduceLeDiff,reduceMul,reduceSub,reduceIte,g,hw]
  have u:=h.cell (D':=⟨D.bl,D.op,D.st+1,none,D.off⟩) (ab':=none) (Keeps.refl _) rfl rfl trivial (by simp)
  have ok:=h.ok.step hs
  rw[e1]at hdo ok hq2
  refine callK (hdo none _ rfl ⟨u.sep,ok⟩) ?_
  rintro _ K2 ⟨v',u2⟩
  simp(disch:=first|assumption|omega|(simp only[LN]<;>omega)|(simp(disch:=first|assumption|omega|(simp only[LN]<;>omega))only[row_alloc,row_set];assumption))only[W_block,P3,↓reduceIte,reduceAdd,reduceEqDiff,reduceCtorEq,initFr,reduceLT,clsA,reduceLeDiff,reduceMul,reduceSub,reduceIte]
  exact hq2 _ _ ⟨_,rfl,rfl,v',none,u.trans u2⟩
 |some n=>
  have hp:=h.p
  rw[ha]at hp
  obtain⟨a,rfl⟩:∃a,ab=some a:=by cases ab;exact hp.elim;exact⟨_,rfl⟩
  have hp:K.get a=some (.cells true false 1 [.int .i64 (n:Nat)] 3):=hp
  have la:=AHeap.get_lt hp
  have hab:=h.ap (y:=a) (by simp)
  simp only[ptrO]at g
  cases n with
  |zero=>
   have e1:stepD D=(⟨D.bl,D.op,D.st+1,none,true⟩,true):=by unfold stepD;rw[ha]
   simp(disch:=first|assumption|omega|(simp only[LN]<;>omega)|(simp(disch:=first|assumption|omega|(simp only[LN]<;>omega))only[row_alloc,row_set];assumption))only[f84,W_block,P3,↓reduceIte,reduceAdd,reduceEqDiff,reduceCtorEq,initFr,reduceLT,clsA,reduceLeDiff,reduceMul,reduceSub,reduceIte,g,hw,hp]
   rw[e1]at hq2
   exact hq2 _ _ ⟨_,rfl,rfl,v,none,h.cell (D':=⟨D.bl,D.op,D.st+1,none,true⟩) (ab':=none) (Keeps.refl _) rfl rfl trivial (by simp)⟩
  |succ n=>
   have e1:stepD D=(⟨D.bl,D.op,D.st+1,some n,D.off⟩,false):=by unfold stepD;rw[ha]
   have hn:(0:Int)<((n+1:Nat):Int):=by omega
   have hb:=h.ok.r _ ha
   have hw2:IntKind.i64.wrap (((n+1:Nat):Int)-1)=((n:Nat):Int):=by rw[wrap_i64 (by omega) (by omega)];omega
   simp(disch:=first|assumption|omega|(simp only[LN]<;>omega)|(simp(disch:=first|assumption|omega|(simp only[LN]<;>omega))only[row_alloc,row_set];assumption))only[f84,W_block,P3,↓reduceIte,reduceAdd,reduceEqDiff,reduceCtorEq,initFr,reduceLT,clsA,reduceLeDiff,reduceMul,reduceSub,reduceIte,g,hw,hp,hw2]
   have u:=h.cell (D':=⟨D.bl,D.op,D.st+1,some (n+1),D.off⟩) (ab':=some a) (Keeps.refl _) rfl rfl (by
    simp only[thP]
    rw[AHeap.get_set_other _ hab lb];exact hp) (by simp)
   have u1:=Upd.next (l:=[_,_,_]) (t':=thP (some a) (some n)) u (Chg.set _ (b:=a) (by rw[set_n];omega) (.cells true false 1 [.int .i64 (n:Nat)] 3)) (by
    simp only[thP]
    exact AHeap.get_set_same (by rw[AHeap.get_set_other _ hab lb];exact hp) _) (fun y hy=>.inl hy)
   have ok:=h.ok.step hs
   rw[e1]at hdo ok hq2
   refine callK (hdo (some a) _ rfl ⟨u1.sep,ok⟩) ?_
   rintro _ K2 ⟨v',u2⟩
   simp(disch:=first|assumption|omega|(simp only[LN]<;>omega)|(simp(disch:=first|assumption|omega|(simp only[LN]<;>omega))only[row_alloc,row_set];assumption))only[W_block,P3,↓reduceIte,reduceAdd,reduceEqDiff,reduceCtorEq,initFr,reduceLT,clsA,reduceLeDiff,reduceMul,reduceSub,reduceIte]
   exact hq2 _ _ ⟨_,rfl,rfl,v',some a,u1.trans u2⟩
theorem t85(K:AHeap):∃w K',ARun Go.Proofs.Tryz.prog 0 85 [] K w K'∧K'=K:=by
 refine walk2 f85_ok f85_n ?_
 intro Q hq1 hq2
 simp(disch:=first|assumption|omega|(simp only[LN]<;>omega)|(simp(disch:=first|assumption|omega|(simp only[LN]<;>omega))only[row_alloc,row_set];assumption))only[f85,W_block,P3,↓reduceIte,reduceAdd,reduceEqDiff,reduceCtorEq,initFr,reduceLT,clsA,reduceLeDiff,reduceMul,reduceSub,reduceIte]
 exact hq1 _ _ ⟨_,rfl,rfl⟩
theorem t126(h:DkR K b sb v ab D):∃w K',ARun Go.Proofs.Tryz.prog 0 126 [ptr b 0] K w K'∧Upd (dkT b sb v ab D) (dkT b sb (.slice none 0 0) ab (settD D)) K K':=by
 refine walk2 f126_ok f126_n ?_
 intro Q hq1 hq2
 have g:=h.g
 have lb:=h.lt
 have hi:=Sl.is h.so
 have hl:lenS v=D.op.length:=by have:=Sl.len h.so;simpa using this
 simp(disch:=first|assumption|omega|(simp only[LN]<;>omega)|(simp(disch:=first|assumption|omega|(simp only[LN]<;>omega))only[row_alloc,row_set];assumption))only[f126,P3,↓reduceIte,reduceAdd,reduceEqDiff,reduceCtorEq,initFr,reduceLT,clsA,reduceLeDiff,reduceMul,reduceSub,reduceIte,g,hl]
 rw[W_block]
 refine W_loop2 (fun k fr X=>∃i x1 x5,fr=[ptr b 0,x1,v,.int .i64 (D.op.length:Nat),.int .i64 (i:Nat),x5]∧Upd (dkT b sb v ab D) (dkT b sb v ab ⟨setl D.bl (D.op.take i),D.op,D.st,D.ar,D.off⟩) K X∧i≤D.op.length∧k=D.op.length-i) D.op.length
  ⟨0,_,_,rfl,Upd.refl h.s,by omega,rfl⟩ ?_
 rintro Q' k fr X ⟨i,x1,x5,rfl,u,hi2,rfl⟩ hn hx hret
 by_cases hlt:i<D.op.length
 ·have h0:(0:Int)≤(i:Int):=by omega
  have h1:(i:Int)<((lenS v:Nat):Int):=by omega
  have h3:(i:Int)<((D.op.length:Nat):Int):=by omega
  obtain⟨E,hE⟩:∃E:Dk,E=⟨setl D.bl (D.op.take i),D.op,D.st,D.ar,D.off⟩:=⟨_,rfl⟩
  rw[←hE]at u
  have okI:E.ok:=by
   subst hE
   exact⟨setl_all _ _ h.ok.b fun w hw=>(h.ok.o w (List.mem_of_mem_take hw)).2,by simp only[setl_len];exact h.ok.o,by simp only[setl_len];exact h.ok.n,h.ok.m,h.ok.s,h.ok.r⟩
  have eo:E.op=D.op:=by rw[hE]
  have en:E.bl.length=D.bl.length:=by rw[hE];exact setl_len _ _
  have hX:DkR X b sb v ab E:=⟨u.sep,okI⟩
  obtain⟨na,ra⟩:=Sl.at_ hX.so (by omega) (i:=i) (by simpa[eo]using hlt)
  have gX:=hX.g
  have gS:=hX.gs
  have ho:=h.ok.o _ (List.getElem_mem hlt)
  simp only[List.getElem_map,opR,eo]at ra
  generalize hw:D.op[i]=w at*
  have zl:=z257_l
  have zo:=z257_o
  have wl:(Value.int .i64 (w.1:Nat)::cellsOf w.2).length=257:=by simp[cellsOf_length,ho.2]
  have wo:(Value.int .i64 (w.1:Nat)::cellsOf w.2).all Value.oneCell'=true:=by
   simp only[List.all_cons,cellsOf_all];rfl
  have bX:=hX.lt
  have sX:=AHeap.get_lt gS
  have hwl:w.1<E.bl.length:=by rw[en];exact ho.1
  have hfl:(blR E.bl).flatten.length=E.bl.length*256:=by rw[flat_len (blR_len okI.b)];simp[blR]
  have ht:List.take 256 (cellsOf w.2)=cellsOf w.2:=List.take_of_length_le (by rw[cellsOf_length];omega)
  have hj:(0:Int)≤(w.1:Nat)∧((w.1:Nat):Int)<((E.bl.length:Nat):Int):=by omega
  simp(disch:=first|assumption|omega|(simp only[LN]<;>omega)|(simp(disch:=first|assumption|omega|(simp only[LN]<;>omega))only[row_alloc,row_set];assumption))only[W_block,P3,↓reduceIte,reduceAdd,reduceEqDiff,reduceCtorEq,initFr,reduceLT,clsA,reduceLeDiff,reduceMul,reduceSub,reduceIte,ra,na,zl,zo,wl,wo,gX,gS,ht]
  rw[stnO_c,if_pos ⟨by rw[hfl];omega,by rw[cellsOf_length];omega,cellsOf_all _⟩]
  obtain⟨e1,u1⟩:=hX.blk ((Keeps.refl X).alloc (.cells true false 257 (.int .i64 (w.1:Nat)::cellsOf w.2) 141)) (x:=w.2) hwl
  rw[e1]
  have hw1:IntKind.i64.wrap ((i:Int)+1)=((i+1:Nat):Int):=by have:=h.ok.m;rw[wrap_i64 (by omega) (by omega)];simp
  simp(disch:=first|assumption|omega|(simp only[LN]<;>omega)|(simp(disch:=first|assumption|omega|(simp only[LN]<;>omega))only[row_alloc,row_set];assumption))only[W_block,P3,↓reduceIte,reduceAdd,reduceEqDiff,reduceCtorEq,initFr,reduceLT,clsA,reduceLeDiff,reduceMul,reduceSub,reduceIte,hw1]
  rw[←set_old _ _ sX]
  refine hn _ _ _ ⟨i+1,_,_,rfl,?_,by omega,rfl⟩ (by omega)
  have e2:setl D.bl (D.op.take (i+1))=E.bl.set w.1 w.2:=by
   rw[hE]
   unfold setl
   rw[List.take_add_one,List.getElem?_eq_getElem hlt,hw,List.foldl_append]
   rfl
  have e3:(⟨setl D.bl (D.op.take (i+1)),D.op,D.st,D.ar,D.off⟩:Dk)=⟨E.bl.set w.1 w.2,E.op,E.st,E.ar,E.off⟩:=by rw[e2,hE]
  rw[e3]
  exact u.trans u1
 ·have h3:¬(i:Int)<((D.op.length:Nat):Int):=by omega
  simp(disch:=first|assumption|omega|(simp only[LN]<;>omega)|(simp(disch:=first|assumption|omega|(simp only[LN]<;>omega))only[row_alloc,row_set];assumption))only[W_block,P3,↓reduceIte,reduceAdd,reduceEqDiff,reduceCtorEq,initFr,reduceLT,clsA,reduceLeDiff,reduceMul,reduceSub,reduceIte]
  refine hx 0 _ _ ?_
  have et:D.op.take i=D.op:=List.take_of_length_le (by omega)
  rw[et]at u
  have okI:Dk.ok ⟨setl D.bl D.op,D.op,D.st,D.ar,D.off⟩:=⟨setl_all _ _ h.ok.b fun w hw=>(h.ok.o w hw).2,by simp only[setl_len];exact h.ok.o,by simp only[setl_len];exact h.ok.n,h.ok.m,h.ok.s,h.ok.r⟩
  have hX:DkR X b sb v ab _:=⟨u.sep,okI⟩
  have gX:=hX.g
  have bX:=hX.lt
  simp(disch:=first|assumption|omega|(simp only[LN]<;>omega)|(simp(disch:=first|assumption|omega|(simp only[LN]<;>omega))only[row_alloc,row_set];assumption))only[W_block,P3,↓reduceIte,reduceAdd,reduceEqDiff,reduceCtorEq,initFr,reduceLT,clsA,reduceLeDiff,reduceMul,reduceSub,reduceIte,gX]
  exact hq1 _ _ ⟨_,rfl,u.trans (hX.opn (D':=settD D) (Chg.refl _ _) rfl rfl (.inl ⟨rfl,rfl,rfl⟩) (by simp[blkL,blk]))⟩
theorem t96(h:DkR K b sb v ab D)(hs:D.st<1000000):∃w K',ARun Go.Proofs.Tryz.prog 0 96 [ptr b 0] K w K'∧w=.int .i64 (syD D).2 ∧∃v' ab',Upd (dkT b sb v ab D) (dkT b sb v' ab' (syD D).1) K K':=by
 refine walk2 f96_ok f96_n ?_
 intro Q hq1 hq2
 have g:=h.g
 cases ho:D.off with
 |true=>
  rw[ho]at g
  simp(disch:=first|assumption|omega|(simp only[LN]<;>omega)|(simp(disch:=first|assumption|omega|(simp only[LN]<;>omega))only[row_alloc,row_set];assumption))only[f96,W_block,P3,↓reduceIte,reduceAdd,reduceEqDiff,reduceCtorEq,initFr,reduceLT,clsA,reduceLeDiff,reduceMul,reduceSub,reduceIte,g]
  exact hq2 _ _ ⟨_,rfl,by simp[syD,ho,tupV],v,ab,by simp only[syD,ho,if_true];exact Upd.refl h.s⟩
 |false=>
  rw[ho]at g
  simp(disch:=first|assumption|omega|(simp only[LN]<;>omega)|(simp(disch:=first|assumption|omega|(simp only[LN]<;>omega))only[row_alloc,row_set];assumption))only[f96,W_block,P3,↓reduceIte,reduceAdd,reduceEqDiff,reduceCtorEq,initFr,reduceLT,clsA,reduceLeDiff,reduceMul,reduceSub,reduceIte,g]
  refine callK (t84 h hs (g:=126) (first:= #[ptr b 0]) (D2:=settD (stepD D).1) fun ab1 K1 he hk=>by
   obtain⟨w,K2,r,u⟩:=t126 hk
   exact⟨w,K2,r,_,u⟩) ?_
  rintro _ K2 ⟨rfl,v',ab',u⟩
  simp(disch:=first|assumption|omega|(simp only[LN]<;>omega)|(simp(disch:=first|assumption|omega|(simp only[LN]<;>omega))only[row_alloc,row_set];assumption))only[W_block,P3,↓reduceIte,reduceAdd,reduceEqDiff,reduceCtorEq,initFr,reduceLT,clsA,reduceLeDiff,reduceMul,reduceSub,reduceIte]
  refine hq2 _ _ ⟨_,rfl,?_,v',ab',?_⟩
  ·simp only[syD,ho,Bool.false_eq_true,if_false,tupV]
   split<;>rfl
  ·simp only[syD,ho,Bool.false_eq_true,if_false]
   split
   ·rename_i hh;rw[if_pos hh]at u;exact u
   ·rename_i hh;rw[if_neg hh]at u;exact u
theorem t23(h:DkR K b sb v ab D)(hs:D.st<1000000)(hm:D.op.length<1000000)(i:Int){x:Value}{l:List UInt8}(hx:BS K x l):∃w K',ARun Go.Proofs.Tryz.prog 0 23 [ptr b 0,.int .i64 i,x] K w K'∧w=.int .i64 (wrD D i l).2 ∧∃v' ab',Upd (dkT b sb v ab D) (dkT b sb v' ab' (wrD D i l).1) K K':=by
 refine walk2 f23_ok f23_n ?_
 intro Q hq1 hq2
 have g:=h.g
 have lb:=h.lt
 have hlx:lenS x=l.length:=hx.lenS
 have hix:=hx.isS
 simp(disch:=first|assumption|omega|(simp only[LN]<;>omega)|(simp(disch:=first|assumption|omega|(simp only[LN]<;>omega))only[row_alloc,row_set];assumption))only[f23,W_block,P3,↓reduceIte,reduceAdd,reduceEqDiff,reduceCtorEq,initFr,reduceLT,clsA,reduceLeDiff,reduceMul,reduceSub,reduceIte]
 refine callK (t83 h i) ?_
 rintro _ X ⟨rfl,rfl⟩
 by_cases ha:askD D i=0
 ·have ha1:=askD_ok ha
  have e0:((0:Int) != 0)=false:=rfl
  rw[ha]
  by_cases hl:(256:Int)<(l.length:Nat)
  ·simp(disch:=first|assumption|omega|(simp only[LN]<;>omega)|(simp(disch:=first|assumption|omega|(simp only[LN]<;>omega))only[row_alloc,row_set];assumption))only[W_block,P3,↓reduceIte,reduceAdd,reduceEqDiff,reduceCtorEq,initFr,reduceLT,clsA,reduceLeDiff,reduceMul,reduceSub,reduceIte,e0,hlx]
   exact hq2 _ _ ⟨_,rfl,by simp only[wrD,ha,ne_eq,not_true_eq_false,if_false];rw[if_pos (by omega)];rfl,v,ab,by simp only[wrD,ha,ne_eq,not_true_eq_false,if_false];rw[if_pos (by omega)];exact Upd.refl h.s⟩
  ·have hfb:=z257_i i
   have zl:=z257h_l
   have zo:=z257h_o
   have pc:=pad_cells (.int .i64 i) (l:=l) (by omega)
   have wl:(Value.int .i64 i::cellsOf (List.replicate 256 0)).length=257:=by kernel_rfl
   have wo:(Value.int .i64 i::cellsOf (List.replicate 256 0)).all Value.oneCell'=true:=by kernel_rfl
   generalize cellsOf (List.replicate 256 0)=z256 at*
   have kv:=(Keeps.refl X).alloc (.cells true false 257 (.int .i64 i::z256) 141)
   have hc:=a_copyB (hx.keeps kv) (AHeap.get_alloc_new X (.cells true false 257 (.int .i64 i::z256) 141)) (o:=1) (n:=256) (k:=256) (by omega) (by rw[wl];omega)
   rw[pc]at hc
   have pl:(Value.int .i64 i::cellsOf (padB l)).length=257:=by simp[cellsOf_length,padB_len (b:=l) (by omega)]
   have po:(Value.int .i64 i::cellsOf (padB l)).all Value.oneCell'=true:=by simp only[List.all_cons,cellsOf_all];rfl
   have pf:=z257h_f _ pl
   have kk:Keeps X (X.alloc (.cells true false 257 (.int .i64 i::cellsOf (padB l)) 141)):=(Keeps.refl X).alloc _
   simp(disch:=first|assumption|omega|(simp only[LN]<;>omega)|(simp(disch:=first|assumption|omega|(simp only[LN]<;>omega))only[row_alloc,row_set];assumption))only[W_block,P3,↓reduceIte,reduceAdd,reduceEqDiff,reduceCtorEq,initFr,reduceLT,clsA,reduceLeDiff,reduceMul,reduceSub,reduceIte,e0,hlx,hfb,zl,zo,wl,wo,a_slarrF,hc,g,pl,po,pf]
   have kk2:=kk.alloc (.cells true false 257 (.int .i64 i::cellsOf (padB l)) 141)
   refine appGD (h.a.keeps kk2) ⟨_,_,rfl⟩ (elems_new (n:=1) rfl (by rw[pl])) (by rw[pl]) (by omega) ?_
   rintro v' K3 hap hch hbl
   generalize((X.alloc (.cells true false 257 (.int .i64 i::cellsOf (padB l)) 141)).alloc (.cells true false 257 (.int .i64 i::cellsOf (padB l)) 141))=X2 at*
   have c3:Chg (blkL v) X K3:=(kk2.chg _).trans hch (fun x hx=>.inl hx)
   have g3:=c3.at_ g h.v_ne
   have b3:=AHeap.get_lt g3
   obtain⟨av,hav⟩:=hap.shape
   have o3:v'.oneCell'=true:=by rw[hav];rfl
   simp(disch:=first|assumption|omega|(simp only[LN]<;>omega)|(simp(disch:=first|assumption|omega|(simp only[LN]<;>omega))only[row_alloc,row_set];assumption))only[W_block,P3,↓reduceIte,reduceAdd,reduceEqDiff,reduceCtorEq,initFr,reduceLT,clsA,reduceLeDiff,reduceMul,reduceSub,reduceIte,g3,o3]
   obtain⟨D1,hD1⟩:∃E:Dk,E=⟨D.bl,D.op++[(i.toNat,padB l)],D.st,D.ar,D.off⟩:=⟨_,rfl⟩
   have ei:((i.toNat:Nat):Int)=i:=by omega
   have er:(D1.op.map opR).flatten=(D.op.map opR).flatten++(.int .i64 i::cellsOf (padB l)):=by rw[hD1];simp[opR,ei]
   have en:D1.op.length=D.op.length+1:=by rw[hD1];simp
   have u:=h.opn (D':=D1) c3 (by rw[hD1]) (by rw[hD1]) (by rw[er,en];exact hap) (fun y hy=>by
    rcases hbl with h1|h1
    ·exact .inl (by rw[mem_blkL]at hy ⊢;rw[←h1];exact hy)
    ·rw[mem_blkL,h1]at hy
     cases hy
     exact .inr kk2.n)
   have ok1:D1.ok:=by
    rw[hD1]
    refine⟨h.ok.b,fun w hw=>?_,h.ok.n,by simp;omega,h.ok.s,h.ok.r⟩
    rcases List.mem_append.1 hw with hw|hw
    ·exact h.ok.o w hw
    ·simp only[List.mem_singleton]at hw
     subst hw
     exact⟨ha1.2.1,padB_len (by omega)⟩
   have e5:dkC sb v' ab D1=[slc sb 0 D.bl.length D.bl.length,v',.int .i64 (D.st:Nat),ptrO ab,.bool D.off]:=by rw[hD1];rfl
   rw[e5]at u
   refine callK (t84 ⟨u.sep,ok1⟩ (by rw[hD1];exact hs) (g:=85) (first:= #[]) (D2:=(stepD D1).1) fun ab1 K1 he hk=>by
    obtain⟨w,K2,r,rfl⟩:=t85 K1
    exact⟨w,K2,r,_,Upd.refl hk.s⟩) ?_
   rintro _ K4 ⟨rfl,v4,ab4,u4⟩
   simp(disch:=first|assumption|omega|(simp only[LN]<;>omega)|(simp(disch:=first|assumption|omega|(simp only[LN]<;>omega))only[row_alloc,row_set];assumption))only[W_block,P3,↓reduceIte,reduceAdd,reduceEqDiff,reduceCtorEq,initFr,reduceLT,clsA,reduceLeDiff,reduceMul,reduceSub,reduceIte]
   have es:(stepD D1).2 =(stepD D).2 :=by rw[hD1];exact stepD_op D _
   have ew:wrD D i l=((stepD D1).1,if(stepD D).2 =true then 140 else 0):=by
    unfold wrD
    rw[if_neg (by simp[ha]),if_neg (by omega),hD1]
   rw[ew]at hq2
   refine hq2 _ _ ⟨_,rfl,by rw[es];rfl,v4,ab4,u.trans ?_⟩
   rw[ite_self]at u4
   exact u4
 ·have e0:(askD D i != 0)=true:=bnei_yes ha
  simp(disch:=first|assumption|omega|(simp only[LN]<;>omega)|(simp(disch:=first|assumption|omega|(simp only[LN]<;>omega))only[row_alloc,row_set];assumption))only[W_block,P3,↓reduceIte,reduceAdd,reduceEqDiff,reduceCtorEq,initFr,reduceLT,clsA,reduceLeDiff,reduceMul,reduceSub,reduceIte,e0]
  exact hq2 _ _ ⟨_,rfl,by simp only[wrD,if_pos ha];rfl,v,ab,by simp only[wrD,if_pos ha];exact Upd.refl h.s⟩
end
end Go.AM.Fd

set_option linter.unusedSimpArgs false
set_option linter.unusedVariables false
namespace Go.AM.Fd
open Nat (reduceAdd reduceEqDiff reduceLT reduceLeDiff reduceMul reduceSub)
open Go.Proofs Go.AM.F
section
variable {K:AHeap} {b sb:Nat} {v:Value} {ab:Option Nat} {D:Dk}
theorem z256_g:Z256G=cellsOf zB:=by kernel_rfl
theorem t11(K:AHeap)(n:Int):∃w K',ARun Go.Proofs.Tryz.prog 0 11 [.int .i64 n] K w K'∧Keeps K K'∧∃b sb,w=ptr b 0∧DkR K' b sb (.slice none 0 0) none (newD n)∧∀y∈fp (dkT b sb (.slice none 0 0) none (newD n)),K.n≤y:=by
 refine walk2 f11_ok f11_n ?_
 intro Q hq1 hq2
 obtain⟨m,hm⟩:∃m:Nat,max 0 (min 4096 n)=(m:Nat):=⟨(max 0 (min 4096 n)).toNat,by omega⟩
 have hm2:(min n 4096).toNat=m:=by omega
 have hc:(List.replicate m Z256G).flatten=(blR (newD n).bl).flatten:=by simp only[newD,blR,hm2,List.map_replicate,z256_g]
 have hk:asem (.mksl 139 256 256 Z256G (.int .i64 (m:Nat)) (.int .i64 (m:Nat))) K=some (slc K.n 0 m m,K.alloc (.cells true false 256 (blR (newD n).bl).flatten 139)):=by
  simp only[asem,Int.toNat_natCast,hc]
  rw[if_pos]
  refine⟨by omega,by omega,by omega,by omega,by rw[z256_g,cellsOf_length];exact zB_len,by rw[z256_g];exact cellsOf_all _⟩
 have hf:∀a b:Nat,fillA [.slice none 0 0,.slice none 0 0,.int .i64 0,.pointer none,.bool false] [(0,1,slc a 0 b b)]=some [slc a 0 b b,.slice none 0 0,.int .i64 0,.pointer none,.bool false]:=fun a b=>rfl
 simp(disch:=first|assumption|omega|(simp only[LN]<;>omega)|(simp(disch:=first|assumption|omega|(simp only[LN]<;>omega))only[row_alloc,row_set];assumption))only[f11,W_block,P3,↓reduceIte,reduceAdd,reduceEqDiff,reduceCtorEq,initFr,reduceLT,clsA,reduceLeDiff,reduceMul,reduceSub,reduceIte,a_mmn,a_mmx,hm,hk,hf]
 have hl:(newD n).bl.length=m:=by simp[newD,hm2]
 refine hq2 _ _ ⟨_,rfl,((Keeps.refl K).alloc _).alloc _,K.n+1,K.n,rfl,⟨⟨fun t ht=>?_,?_⟩,?_⟩,fun y hy=>?_⟩
 ·simp only[dkT,List.mem_cons,List.not_mem_nil,or_false]at ht
  rcases ht with rfl|rfl|rfl|rfl
  ·simp only[thB,dkC,hl]
   exact AHeap.get_alloc_new (K.alloc _) _
  ·simp only[thB]
   rw[AHeap.get_alloc_old _ _ (by rw[alloc_n];omega)]
   exact AHeap.get_alloc_new K _
  ·exact .inl ⟨rfl,rfl,rfl⟩
  ·trivial
 ·simp[dkT,thB,thA,thP,Apart,blkL,blk]
 ·refine⟨fun x hx=>?_,by simp[newD],by rw[hl];omega,by simp[newD],by simp[newD],by simp[newD]⟩
  rw[List.eq_of_mem_replicate hx];exact zB_len
 ·obtain⟨t,ht,h1⟩:=mem_fp.1 hy
  simp only[dkT,List.mem_cons,List.not_mem_nil,or_false]at ht
  rcases ht with rfl|rfl|rfl|rfl
  ·simp[thB]at h1;omega
  ·simp[thB]at h1;omega
  ·simp[thA,blkL,blk]at h1
  ·simp[thP]at h1
theorem t110(K:AHeap)(v:Value)(hv:isS v=true):∃w K',ARun Go.Proofs.Tryz.prog 0 110 [v] K w K'∧w=.func (.func 141) #[] #[ptr K.n 0]∧K'=K.alloc (.cells true false 1 [v] 104):=by
 refine walk2 f110_ok f110_n ?_
 intro Q hq1 hq2
 have o:=one_isS hv
 have c:=cells_isS hv
 have oo:[v].all Value.oneCell'=true:=by simp only[List.all_cons,o];rfl
 simp(disch:=first|assumption|omega|(simp only[LN]<;>omega)|(simp(disch:=first|assumption|omega|(simp only[LN]<;>omega))only[row_alloc,row_set];assumption))only[f110,W_block,P3,↓reduceIte,reduceAdd,reduceEqDiff,reduceCtorEq,initFr,reduceLT,clsA,reduceLeDiff,reduceMul,reduceSub,reduceIte,c,oo]
 exact hq2 _ _ ⟨.func (.func 141) #[] #[ptr K.n 0],rfl,rfl,rfl⟩
theorem t141(J:Nat→AHeap→Prop)(Jx:AHeap→Prop){yb cb:Nat}{v:Value}{op:List (Nat×List UInt8)}(hop:op.length≤1000000){X0:AHeap}
 (hg:∀k X,J k X→∃o r T,X.get cb=some (.cells o r 1 [v] T)∧Sl X 257 v (op.map opR))
 (hy:∀k X (hk:k<op.length),J (k+1) X→∃w X',AYield Go.Proofs.Tryz.prog 0 yb [.int .i64 (k:Nat),.agg (opR op[k]).toArray] X w X'∧((w=.bool true∧J k X')∨(w=.bool false∧Jx X')))
 (h0:J op.length X0):∃w X',ARun Go.Proofs.Tryz.prog 0 141 [.chan (some yb),ptr cb 0] X0 w X'∧(J 0 X'∨Jx X'):=by
 refine walk2 f141_ok f141_n ?_
 intro Q hq1 hq2
 obtain⟨o,r,T,g,hs⟩:=hg _ _ h0
 have hi:=Sl.is hs
 have hl:lenS v=op.length:=by have:=Sl.len hs;simpa using this
 have hw:IntKind.i64.wrap (((op.length:Nat):Int)-1)=((op.length:Nat):Int)-1:=wrap_i64 (by omega) (by omega)
 simp(disch:=first|assumption|omega|(simp only[LN]<;>omega)|(simp(disch:=first|assumption|omega|(simp only[LN]<;>omega))only[row_alloc,row_set];assumption))only[f141,P3,↓reduceIte,reduceAdd,reduceEqDiff,reduceCtorEq,initFr,reduceLT,clsA,reduceLeDiff,reduceMul,reduceSub,reduceIte,g,hl,hw]
 rw[W_block]
 refine W_loop2 (fun n fr X=>∃x3 x4,fr=[.chan (some yb),ptr cb 0,.int .i64 ((n:Nat)-1:Int),x3,x4]∧J n X∧n≤op.length) op.length ⟨_,_,rfl,h0,Nat.le_refl _⟩ ?_
 rintro Q' n fr X ⟨x3,x4,rfl,hJ,hn1⟩ hn hx hret
 cases n with
 |zero=>
  have e0:((0:Nat):Int)-1= -1:=rfl
  rw[e0]
  simp(disch:=first|assumption|omega|(simp only[LN]<;>omega)|(simp(disch:=first|assumption|omega|(simp only[LN]<;>omega))only[row_alloc,row_set];assumption))only[W_block,P3,↓reduceIte,reduceAdd,reduceEqDiff,reduceCtorEq,initFr,reduceLT,clsA,reduceLeDiff,reduceMul,reduceSub,reduceIte]
  refine hx 0 _ _ ?_
  exact hq1 _ _ ⟨_,rfl,.inl hJ⟩
 |succ n=>
  obtain⟨o,r,T,g,hs⟩:=hg _ _ hJ
  have hlt:n<op.length:=by omega
  obtain⟨na,ra⟩:=Sl.at_ hs (by omega) (i:=n) (by simpa using hlt)
  rw[List.getElem_map]at ra
  have e1:(((n+1:Nat):Nat):Int)-1=((n:Nat):Int):=by omega
  rw[e1]
  have h1:(0:Int)≤(n:Int):=by omega
  have h2:(n:Int)<((lenS v:Nat):Int):=by rw[hl];omega
  have hw2:IntKind.i64.wrap ((n:Int)-1)=(n:Int)-1:=wrap_i64 (by omega) (by omega)
  simp(disch:=first|assumption|omega|(simp only[LN]<;>omega)|(simp(disch:=first|assumption|omega|(simp only[LN]<;>omega))only[row_alloc,row_set];assumption))only[W_block,P3,↓reduceIte,reduceAdd,reduceEqDiff,reduceCtorEq,initFr,reduceLT,clsA,reduceLeDiff,reduceMul,reduceSub,reduceIte,g,ra,na]
  refine yieldK (hy n X hlt hJ) ?_
  rintro w X' (⟨rfl,h⟩|⟨rfl,h⟩)
  ·simp(disch:=first|assumption|omega|(simp only[LN]<;>omega)|(simp(disch:=first|assumption|omega|(simp only[LN]<;>omega))only[row_alloc,row_set];assumption))only[W_block,P3,↓reduceIte,reduceAdd,reduceEqDiff,reduceCtorEq,initFr,reduceLT,clsA,reduceLeDiff,reduceMul,reduceSub,reduceIte,hw2]
   exact hn n _ _ ⟨_,_,rfl,h,by omega⟩ (by omega)
  ·simp(disch:=first|assumption|omega|(simp only[LN]<;>omega)|(simp(disch:=first|assumption|omega|(simp only[LN]<;>omega))only[row_alloc,row_set];assumption))only[W_block,P3,↓reduceIte,reduceAdd,reduceEqDiff,reduceCtorEq,initFr,reduceLT,clsA,reduceLeDiff,reduceMul,reduceSub,reduceIte]
   exact hret _ _ (hq2 _ _ ⟨_,rfl,.inr h⟩)
structure RdJ (K:AHeap) (vb:Nat) (L:LRec) (pe:Option Code) (st:LoopState) (c:List UInt8) (X:AHeap):Prop where
 n:K.n<X.n
 keep:∀y,y<K.n→y≠vb→X.get y=K.get y
 rec_:X.get K.n=some (.loop true st pe L)
 var:X.get vb=some (.cells true false 256 (cellsOf c) 139)
set_option maxRecDepth 20000 in
theorem t67(h:DkR K b sb v ab D)(i:Int):∃w K',ARun Go.Proofs.Tryz.prog 0 67 [ptr b 0,.int .i64 i] K w K'∧Keeps K K'∧∃x,w=.tuple #[x,.int .i64 (askD D i)]∧(askD D i≠0→x=.slice none 0 0)∧(askD D i=0→BS K' x (rdB D i.toNat)∧∃vb,x=slc vb 0 256 256∧K.n≤vb):=by
 refine walk2 f67_ok f67_n ?_
 intro Q hq1 hq2
 have k1:Keeps K (K.alloc (.cells true false 1 [.int .i64 i] 3)):=(Keeps.refl K).alloc _
 have h1:DkR (K.alloc (.cells true false 1 [.int .i64 i] 3)) b sb v ab D:=⟨h.s.keeps k1,h.ok⟩
 have g:=h.g
 have lb:=h.lt
 simp(disch:=first|assumption|omega|(simp only[LN]<;>omega)|(simp(disch:=first|assumption|omega|(simp only[LN]<;>omega))only[row_alloc,row_set];assumption))only[f67,W_block,P3,↓reduceIte,reduceAdd,reduceEqDiff,reduceCtorEq,initFr,reduceLT,clsA,reduceLeDiff,reduceMul,reduceSub,reduceIte]
 refine callK (t83 h1 i) ?_
 rintro _ X ⟨rfl,rfl⟩
 by_cases ha:askD D i=0
 ·have ha1:=askD_ok ha
  have e0:((0:Int) != 0)=false:=rfl
  rw[ha]
  obtain⟨na,ra⟩:=Sl.at_ h.ss (by omega) (i:=i.toNat) (by simpa[blR]using ha1.2.1)
  have hx:=h.ok.b _ (List.getElem_mem ha1.2.1)
  simp only[blR,List.getElem_map]at ra
  generalize hB:D.bl[i.toNat]=B at*
  have zl:Z256I.length=256:=by kernel_rfl
  have zo:Z256I.all Value.oneCell'=true:=by kernel_rfl
  have hlt:(0:Int)≤i∧i<((D.bl.length:Nat):Int):=by omega
  have rs:rangeO (K.get sb) (i.toNat*256) 256=some (cellsOf B):=by
   have:=ra;simpa only[rowA,slc,rangeA_e,Nat.zero_add]using this
  have ls:=AHeap.get_lt h.gs
  have cl:(cellsOf B).length=256:=by rw[cellsOf_length,hx]
  have co:=cellsOf_all B
  simp(disch:=first|assumption|omega|(simp only[LN]<;>omega)|(simp(disch:=first|assumption|omega|(simp only[LN]<;>omega))only[row_alloc,row_set];assumption))only[W_block,P3,↓reduceIte,reduceAdd,reduceEqDiff,reduceCtorEq,initFr,reduceLT,clsA,reduceLeDiff,reduceMul,reduceSub,reduceIte,e0,g,zl,zo,rs,cl,co]
  refine callK (t110 _ v (Sl.is h.so)) ?_
  rintro _ X ⟨rfl,hX⟩
  rw[hX]
  have k2:=k1.alloc (.cells true false 256 (cellsOf B) 139)
  have k3:=k2.alloc (.cells true false 1 [v] 104)
  have gv:(((K.alloc (.cells true false 1 [.int .i64 i] 3)).alloc (.cells true false 256 (cellsOf B) 139)).alloc (.cells true false 1 [v] 104)).get (K.n+1)=some (.cells true false 256 (cellsOf B) 139):=by
   rw[AHeap.get_alloc_old _ _ (by rw[alloc_n,alloc_n];omega)]
   exact AHeap.get_alloc_new (K.alloc _) _
  have gi:(((K.alloc (.cells true false 1 [.int .i64 i] 3)).alloc (.cells true false 256 (cellsOf B) 139)).alloc (.cells true false 1 [v] 104)).get K.n=some (.cells true false 1 [.int .i64 i] 3):=by
   rw[AHeap.get_alloc_old _ _ (by rw[alloc_n,alloc_n];omega),AHeap.get_alloc_old _ _ (by rw[alloc_n];omega)]
   exact AHeap.get_alloc_new K _
  have gc:(((K.alloc (.cells true false 1 [.int .i64 i] 3)).alloc (.cells true false 256 (cellsOf B) 139)).alloc (.cells true false 1 [v] 104)).get (K.n+2)=some (.cells true false 1 [v] 104):=AHeap.get_alloc_new ((K.alloc _).alloc _) _
  have n3:(((K.alloc (.cells true false 1 [.int .i64 i] 3)).alloc (.cells true false 256 (cellsOf B) 139)).alloc (.cells true false 1 [v] 104)).n=K.n+3:=rfl
  have n2:((K.alloc (.cells true false 1 [.int .i64 i] 3)).alloc (.cells true false 256 (cellsOf B) 139)).n=K.n+2:=rfl
  rw[n2]
  generalize((K.alloc (.cells true false 1 [.int .i64 i] 3)).alloc (.cells true false 256 (cellsOf B) 139)).alloc (.cells true false 1 [v] 104)=K3 at*
  simp(disch:=first|assumption|omega|(simp only[LN]<;>omega)|(simp(disch:=first|assumption|omega|(simp only[LN]<;>omega))only[row_alloc,row_set];assumption))only[P3,↓reduceIte,reduceAdd,reduceEqDiff,reduceCtorEq,initFr,reduceLT,clsA,reduceLeDiff,reduceMul,reduceSub,reduceIte]
  rw[W_block]
  refine W_rangeF rfl (bodied_of (by kernel_rfl)) ?_
  obtain⟨L0,hL0⟩:∃L:LRec,L=⟨37,[0,1,3,4,5,6,7,9,14,27,28,29,33],[ptr b 0,.int .i64 i,ptr K.n 0,.slice none 0 0,.int .i64 0,.int .i64 0,ptr (K.n+1) 0,undef,.bool false,.func (.func 141) #[] #[ptr (K.n+2) 0],undef,undef,undef],#[28,29],rfA Go.Proofs.Tryz.prog 67 0,rfB Go.Proofs.Tryz.prog 67 0⟩:=⟨_,rfl⟩
  rw[←hL0]
  have kL:=(Keeps.refl K3).alloc (.loop true .ready none L0)
  have so3:=h.so.keeps k3
  have hv3:∀y,blk v=some y→y<K.n:=fun y hy=>h.a.lt hy
  have fin:∀X c pe st,RdJ K3 (K.n+1) L0 pe st c X→rdB D i.toNat=c→∀Y,Y=X.set K3.n .dead→Keeps K Y∧BS Y (slc (K.n+1) 0 256 256) (rdB D i.toNat):=by
   rintro X c pe st J rfl Y rfl
   have hrl:=AHeap.get_lt J.rec_
   refine⟨⟨by rw[set_n];have:=J.n;omega,fun y hy=>?_⟩,?_⟩
   ·rw[AHeap.get_set_other X (by omega) hrl,J.keep y (by omega) (by omega)]
    exact k3.get y hy
   ·have hl:=h.ok.rd ha1.2.1
    refine⟨⟨_,_,by rw[hl];rfl⟩,?_⟩
    have gy:(X.set K3.n .dead).get (K.n+1)=some (.cells true false 256 (cellsOf (rdB D i.toNat)) 139):=by
     rw[AHeap.get_set_other X (by omega) hrl];exact J.var
    simp only[elemsA,slc,gy]
    rw[if_pos (by rw[cellsOf_length,hl];omega),List.drop_zero,List.take_of_length_le (by rw[cellsOf_length,hl];omega)]
  have tB:=t141 (fun k X=>RdJ K3 (K.n+1) L0 none .ready B X∧lastW (D.op.drop k) i.toNat=none) (fun X=>∃c,RdJ K3 (K.n+1) L0 (some (.exit 0)) .done c X∧lastW D.op i.toNat=some c)
   (yb:=K3.n) (cb:=K.n+2) (v:=v) (op:=D.op) h.ok.m (X0:=K3.alloc (.loop true .ready none L0))
   (fun k X hJ=>⟨true,false,_,by rw[hJ.1.keep _ (by omega) (by omega)];exact gc,so3.get' fun y hy _=>hJ.1.keep y (by have:=hv3 y hy;omega) (by have:=hv3 y hy;omega)⟩)
   ?_ ⟨⟨by simp[alloc_n],fun y hy _=>kL.get y hy,AHeap.get_alloc_new K3 _,kL.at_ gv⟩,by simp[lastW]⟩
  ·obtain⟨w,X,r,hJ⟩:=tB
   refine⟨w,X,r,?_⟩
   rcases hJ with⟨hJ,hl⟩|⟨c,hJ,hl⟩
   ·refine afterR_ready hJ.rec_ ?_
    obtain⟨f1,f2⟩:=fin X B none .ready hJ (by simp only[List.drop_zero]at hl;simp only[rdB,hl,Option.getD_none,List.getD,List.getElem?_eq_getElem ha1.2.1,Option.getD_some];exact hB) _ rfl
    simp(disch:=first|assumption|omega|(simp only[LN]<;>omega)|(simp(disch:=first|assumption|omega|(simp only[LN]<;>omega))only[row_alloc,row_set];assumption))only[W_block,P3,↓reduceIte,reduceAdd,reduceEqDiff,reduceCtorEq,initFr,reduceLT,clsA,reduceLeDiff,reduceMul,reduceSub,reduceIte,a_slarrF]
    exact hq2 _ _ ⟨_,rfl,f1,_,by rw[ha];rfl,fun h=>absurd ha h,fun _=>⟨f2,_,rfl,by omega⟩⟩
   ·refine afterR_exit hJ.rec_ ?_
    obtain⟨f1,f2⟩:=fin X c _ _ hJ (by simp only[rdB,hl,Option.getD_some]) _ rfl
    simp(disch:=first|assumption|omega|(simp only[LN]<;>omega)|(simp(disch:=first|assumption|omega|(simp only[LN]<;>omega))only[row_alloc,row_set];assumption))only[W_block,P3,↓reduceIte,reduceAdd,reduceEqDiff,reduceCtorEq,initFr,reduceLT,clsA,reduceLeDiff,reduceMul,reduceSub,reduceIte,a_slarrF]
    exact hq2 _ _ ⟨_,rfl,f1,_,by rw[ha];rfl,fun h=>absurd ha h,fun _=>⟨f2,_,rfl,by omega⟩⟩
  ·intro k X hk hJ
   obtain⟨hJ,hl⟩:=hJ
   have ho:=h.ok.o _ (List.getElem_mem hk)
   have hlx:=@lastW_hit D.op i.toNat k hk hl
   have hly:=@lastW_miss D.op i.toNat k hk hl
   generalize hw:D.op[k]=w at*
   rw[hL0]at hJ ⊢
   refine yield_of (R:=fun w X'=>(w=.bool true∧RdJ K3 (K.n+1) _ none .ready B X'∧lastW (D.op.drop k) i.toNat=none)∨(w=.bool false∧∃c,RdJ K3 (K.n+1) _ (some (.exit 0)) .done c X'∧lastW D.op i.toNat=some c)) hJ.rec_ f67r0a_ok f67r0b_ok f67r0_n (by kernel_rfl) rfl ?_
   show W Go.Proofs.Tryz.prog 0 f67r0a _ [ptr b 0,.int .i64 i,ptr K.n 0,.slice none 0 0,.int .i64 0,.int .i64 0,ptr (K.n+1) 0,undef,.bool false,.func (.func 141) #[] #[ptr (K.n+2) 0],.int .i64 (k:Nat),.agg (opR w).toArray,undef] X
   rw[←hL0]at hJ ⊢
   have zl2:Z257I.length=257:=by kernel_rfl
   have zo2:Z257I.all Value.oneCell'=true:=by kernel_rfl
   have wl:(Value.int .i64 (w.1:Nat)::cellsOf w.2).length=257:=by simp[cellsOf_length,ho.2]
   have wo:(Value.int .i64 (w.1:Nat)::cellsOf w.2).all Value.oneCell'=true:=by
    simp only[List.all_cons,cellsOf_all];rfl
   unfold opR
   simp(disch:=first|assumption|omega|(simp only[LN]<;>omega)|(simp(disch:=first|assumption|omega|(simp only[LN]<;>omega))only[row_alloc,row_set];assumption))only[f67r0a,W_block,P3,↓reduceIte,reduceAdd,reduceEqDiff,reduceCtorEq,initFr,reduceLT,clsA,reduceLeDiff,reduceMul,reduceSub,reduceIte,zl2,zo2,wl,wo]
   have hXn:=hJ.n
   have hrl:=AHeap.get_lt hJ.rec_
   refine⟨none,L0,by rw[AHeap.get_alloc_old _ _ hrl];exact hJ.rec_,?_⟩
   obtain⟨X2,hX2⟩:∃Y,Y=(X.alloc (.cells true false 257 (.int .i64 (w.1:Nat)::cellsOf w.2) 141)).set K3.n (.loop true .busy none L0):=⟨_,rfl⟩
   have n2':X2.n=X.n+1:=by rw[hX2];rfl
   have hrl1:K3.n<(X.alloc (.cells true false 257 (.int .i64 (w.1:Nat)::cellsOf w.2) 141)).n:=by rw[alloc_n];omega
   have oth:∀y,y<X.n→y≠K3.n→X2.get y=X.get y:=fun y hy hy2=>by rw[hX2,AHeap.get_set_other _ hy2 hrl1,AHeap.get_alloc_old _ _ hy]
   have gw:X2.get X.n=some (.cells true false 257 (.int .i64 (w.1:Nat)::cellsOf w.2) 141):=by rw[hX2,AHeap.get_set_other _ (by omega) hrl1];exact AHeap.get_alloc_new X _
   have gr:X2.get K3.n=some (.loop true .busy none L0):=by rw[hX2];exact AHeap.get_set_same (by rw[AHeap.get_alloc_old _ _ hrl];exact hJ.rec_) _
   have gi2:X2.get K.n=some (.cells true false 1 [.int .i64 i] 3):=by rw[oth _ (by omega) (by omega),hJ.keep _ (by omega) (by omega)];exact gi
   have gv2:X2.get (K.n+1)=some (.cells true false 256 (cellsOf B) 139):=by rw[oth _ (by omega) (by omega)];exact hJ.var
   rw[←hX2]
   have ht:List.take 256 (cellsOf w.2)=cellsOf w.2:=List.take_of_length_le (by rw[cellsOf_length];omega)
   have wl2:(cellsOf w.2).length=256:=by rw[cellsOf_length];omega
   have wo2:=cellsOf_all w.2
   have l1:K.n<X2.n:=by omega
   have l2:K.n+1<X2.n:=by omega
   by_cases he:w.1=i.toNat
   ·have e1:(((w.1:Nat):Int)==i)=true:=by rw[he];simp;omega
    simp(disch:=first|assumption|omega|(simp only[LN]<;>omega)|(simp(disch:=first|assumption|omega|(simp only[LN]<;>omega))only[row_alloc,row_set];assumption))only[f67r0b,W_block,P3,↓reduceIte,reduceAdd,reduceEqDiff,reduceCtorEq,initFr,reduceLT,clsA,reduceLeDiff,reduceMul,reduceSub,reduceIte,gw,gi2,gv2,e1,ht,wl2,wo2,cl]
    obtain⟨X3,hX3⟩:∃Y,Y=X2.set (K.n+1) (.cells true false 256 (cellsOf w.2) 139):=⟨_,rfl⟩
    have n3':X3.n=X2.n:=by rw[hX3];rfl
    have gr3:X3.get K3.n=some (.loop true .busy none L0):=by rw[hX3,AHeap.get_set_other _ (by omega) l2];exact gr
    rw[←hX3]
    unfold roundQ
    rw[gr3]
    have hr3:=AHeap.get_lt gr3
    refine .inr ⟨rfl,w.2,⟨by rw[set_n];omega,fun y hy hy2=>?_,AHeap.get_set_same gr3 _,?_⟩,hlx he⟩
    ·rw[AHeap.get_set_other _ (by omega) hr3,hX3,AHeap.get_set_other _ hy2 l2,oth _ (by omega) (by omega)]
     exact hJ.keep y hy hy2
    ·rw[AHeap.get_set_other _ (by omega) hr3,hX3]
     exact AHeap.get_set_same gv2 _
   ·have e1:(((w.1:Nat):Int)==i)=false:=by simp;omega
    simp(disch:=first|assumption|omega|(simp only[LN]<;>omega)|(simp(disch:=first|assumption|omega|(simp only[LN]<;>omega))only[row_alloc,row_set];assumption))only[f67r0b,W_block,P3,↓reduceIte,reduceAdd,reduceEqDiff,reduceCtorEq,initFr,reduceLT,clsA,reduceLeDiff,reduceMul,reduceSub,reduceIte,gw,gi2,gv2,e1]
    unfold roundQ
    rw[gr]
    have hr3:=AHeap.get_lt gr
    refine .inl ⟨rfl,⟨by rw[set_n];omega,fun y hy hy2=>?_,AHeap.get_set_same gr _,?_⟩,hly he⟩
    ·rw[AHeap.get_set_other _ (by omega) hr3,oth _ (by omega) (by omega)]
     exact hJ.keep y hy hy2
    ·rw[AHeap.get_set_other _ (by omega) hr3]
     exact gv2
 ·have e0:(askD D i != 0)=true:=bnei_yes ha
  simp(disch:=first|assumption|omega|(simp only[LN]<;>omega)|(simp(disch:=first|assumption|omega|(simp only[LN]<;>omega))only[row_alloc,row_set];assumption))only[W_block,P3,↓reduceIte,reduceAdd,reduceEqDiff,reduceCtorEq,initFr,reduceLT,clsA,reduceLeDiff,reduceMul,reduceSub,reduceIte,e0]
  exact hq2 _ _ ⟨_,rfl,k1,_,rfl,fun _=>rfl,fun h=>absurd h ha⟩
theorem t21(h:DkR K b sb v ab D){x:Value}{fs:List UInt8}(hx:BS K x fs)(hd:∀y∈tb x,y∉fp (dkT b sb v ab D)):∃w K',ARun Go.Proofs.Tryz.prog 0 21 [ptr b 0,x] K w K'∧∃v',Upd (dkT b sb v ab D) (dkT b sb v' none (onD D fs)) K K':=by
 refine walk2 f21_ok f21_n ?_
 intro Q hq1 hq2
 have g:=h.g
 have lb:=h.lt
 cases ho:D.off with
 |false=>
  rw[ho]at g
  simp(disch:=first|assumption|omega|(simp only[LN]<;>omega)|(simp(disch:=first|assumption|omega|(simp only[LN]<;>omega))only[row_alloc,row_set];assumption))only[f21,W_block,P3,↓reduceIte,reduceAdd,reduceEqDiff,reduceCtorEq,initFr,reduceLT,clsA,reduceLeDiff,reduceMul,reduceSub,reduceIte,g]
  refine hq2 _ _ ⟨_,rfl,v,?_⟩
  have e:onD D fs=⟨D.bl,D.op,D.st,none,false⟩:=by unfold onD;rw[if_neg (by simp[ho])]
  rw[e]
  exact h.cell (D':=⟨D.bl,D.op,D.st,none,false⟩) (ab':=none) (Keeps.refl _) rfl rfl trivial (by simp)
 |true=>
  rw[ho]at g
  have hi:=Sl.is h.so
  have hl:lenS v=D.op.length:=by have:=Sl.len h.so;simpa using this
  simp(disch:=first|assumption|omega|(simp only[LN]<;>omega)|(simp(disch:=first|assumption|omega|(simp only[LN]<;>omega))only[row_alloc,row_set];assumption))only[f21,P3,↓reduceIte,reduceAdd,reduceEqDiff,reduceCtorEq,initFr,reduceLT,clsA,reduceLeDiff,reduceMul,reduceSub,reduceIte,g,hl]
  rw[W_block]
  have u0:=h.cell (D':=⟨D.bl,D.op,D.st,none,false⟩) (ab':=none) (Keeps.refl _) rfl rfl trivial (by simp)
  refine W_loop2 (fun k fr X=>∃i bl x2 x3 x4 x10 x11 x12,fr=[ptr b 0,x,x2,x3,x4,.bool false,.bool false,v,.int .i64 (D.op.length:Nat),.int .i64 (i:Nat),x10,x11,x12]∧Upd (dkT b sb v ab D) (dkT b sb v none ⟨bl,D.op,D.st,none,false⟩) K X∧i≤D.op.length∧k=D.op.length-i∧
   onB bl fs (D.op.drop i) i=onB D.bl fs D.op 0∧(∀x∈bl,x.length=256)∧bl.length=D.bl.length) D.op.length ⟨0,D.bl,_,_,_,_,_,_,rfl,?_,by omega,rfl,by simp,h.ok.b,rfl⟩ ?_
  ·exact u0
  rintro Q' k fr X ⟨i,bl,x2,x3,x4,x10,x11,x12,rfl,u,hi2,rfl,hon,hbl,hbn⟩ hn hx2 hret
  by_cases hlt:i<D.op.length
  ·obtain⟨E,hE⟩:∃E:Dk,E=⟨bl,D.op,D.st,none,false⟩:=⟨_,rfl⟩
   rw[←hE]at u
   have okE:E.ok:=by
    subst hE
    exact⟨hbl,by simp only[hbn];exact h.ok.o,by simp only[hbn];exact h.ok.n,h.ok.m,h.ok.s,fun m hm=>by cases hm⟩
   have eo:E.op=D.op:=by rw[hE]
   have eb:E.bl=bl:=by rw[hE]
   have hX:DkR X b sb v none E:=⟨u.sep,okE⟩
   obtain⟨na,ra⟩:=Sl.at_ hX.so (by omega) (i:=i) (by simpa[eo]using hlt)
   have gX:=hX.g
   have gS:=hX.gs
   have ow:=h.ok.o _ (List.getElem_mem hlt)
   simp only[List.getElem_map,opR,eo]at ra
   have hdr:=List.drop_eq_getElem_cons hlt
   generalize hw:D.op[i]=w at*
   have zl:Z257G.length=257:=by kernel_rfl
   have zo:Z257G.all Value.oneCell'=true:=by kernel_rfl
   have wl:(Value.int .i64 (w.1:Nat)::cellsOf w.2).length=257:=by simp[cellsOf_length,ow.2]
   have wo:(Value.int .i64 (w.1:Nat)::cellsOf w.2).all Value.oneCell'=true:=by
    simp only[List.all_cons,cellsOf_all];rfl
   have bX:=hX.lt
   have sX:=AHeap.get_lt gS
   have hxX:BS X x fs:=hx.chgT u.chg hd
   have hix:=hxX.isS
   have hlx:=hxX.lenS
   have h0:(0:Int)≤(i:Int):=by omega
   have h1:(i:Int)<((lenS v:Nat):Int):=by omega
   have h3:(i:Int)<((D.op.length:Nat):Int):=by omega
   simp(disch:=first|assumption|omega|(simp only[LN]<;>omega)|(simp(disch:=first|assumption|omega|(simp only[LN]<;>omega))only[row_alloc,row_set];assumption))only[W_block,P3,↓reduceIte,reduceAdd,reduceEqDiff,reduceCtorEq,initFr,reduceLT,clsA,reduceLeDiff,reduceMul,reduceSub,reduceIte,ra,na,zl,zo,wl,wo,gX,hlx]
   obtain⟨X1,hX1⟩:∃Y,Y=X.alloc (.cells true false 257 (.int .i64 (w.1:Nat)::cellsOf w.2) 141):=⟨_,rfl⟩
   have kX1:Keeps X X1:=by rw[hX1];exact(Keeps.refl X).alloc _
   have n1:X1.n=X.n+1:=by rw[hX1];rfl
   have gw:X1.get X.n=some (.cells true false 257 (.int .i64 (w.1:Nat)::cellsOf w.2) 141):=by rw[hX1];exact AHeap.get_alloc_new X _
   have gb1:=kX1.at_ gX
   have gs1:=kX1.at_ gS
   rw[←hX1]
   refine cond_mid (fun fr Y=>Y=X1∧∃y11 y12,fr=[ptr b 0,x,.int .i64 (i:Nat),ptr X.n 0,.int .i64 ((fs.getD i 0).toNat:Nat),.bool false,.bool false,v,.int .i64 (D.op.length:Nat),.int .i64 (i:Nat),.bool true,y11,y12]) ?_ ?_
   ·intro Q2 p1 p2 p3
    by_cases hif:i<fs.length
    ·obtain⟨nx,rx⟩:=Sl.at_ (hxX.keeps kX1).sl (by omega) (i:=i) (by simpa using hif)
     simp only[List.getElem_map]at rx
     have hg:fs.getD i 0=fs[i]:=by simp[List.getD,List.getElem?_eq_getElem hif]
     have hlt8:=fs[i].toNat_lt
     have hw:IntKind.i64.wrap ((fs[i].toNat:Nat):Int)=((fs[i].toNat:Nat):Int):=wrap_i64 (by omega) (by omega)
     have d1:(i:Int)<(fs.length:Nat):=by omega
     have d2:(i:Int)<((lenS x:Nat):Int):=by omega
     simp(disch:=first|assumption|omega|(simp only[LN]<;>omega)|(simp(disch:=first|assumption|omega|(simp only[LN]<;>omega))only[row_alloc,row_set];assumption))only[W_block,P3,↓reduceIte,reduceAdd,reduceEqDiff,reduceCtorEq,initFr,reduceLT,clsA,reduceLeDiff,reduceMul,reduceSub,reduceIte,rx,nx,hw]
     exact p1 _ _ ⟨rfl,_,_,by rw[hg]⟩
    ·have hg:fs.getD i 0=0:=by simp[List.getD,List.getElem?_eq_none (Nat.le_of_not_lt hif)]
     have d1:¬(i:Int)<(fs.length:Nat):=by omega
     simp(disch:=first|assumption|omega|(simp only[LN]<;>omega)|(simp(disch:=first|assumption|omega|(simp only[LN]<;>omega))only[row_alloc,row_set];assumption))only[W_block,P3,↓reduceIte,reduceAdd,reduceEqDiff,reduceCtorEq,initFr,reduceLT,clsA,reduceLeDiff,reduceMul,reduceSub,reduceIte]
     exact p1 _ _ ⟨rfl,_,_,by rw[hg];rfl⟩
   rintro _ Y ⟨hY,y11,y12,rfl⟩
   rw[hY]
   simp(disch:=first|assumption|omega|(simp only[LN]<;>omega)|(simp(disch:=first|assumption|omega|(simp only[LN]<;>omega))only[row_alloc,row_set];assumption))only[P3,↓reduceIte,reduceAdd,reduceEqDiff,reduceCtorEq,initFr,reduceLT,clsA,reduceLeDiff,reduceMul,reduceSub,reduceIte]
   have hfa:=fateN_le fs i
   refine cond_mid (fun fr Y=>Y=X1∧∃y11 y12,fr=[ptr b 0,x,.int .i64 (i:Nat),ptr X.n 0,.int .i64 (fateN fs i:Nat),.bool false,.bool false,v,.int .i64 (D.op.length:Nat),.int .i64 (i:Nat),.bool true,y11,y12]) ?_ ?_
   ·intro Q2 p1 p2 p3
    unfold fateN at*
    by_cases hif:(fs.getD i 0).toNat=255
    ·have d1:((((fs.getD i 0).toNat:Nat):Int)==255)=true:=by rw[hif];rfl
     rw[d1]
     rw[if_pos hif]at p1
     simp(disch:=first|assumption|omega|(simp only[LN]<;>omega)|(simp(disch:=first|assumption|omega|(simp only[LN]<;>omega))only[row_alloc,row_set];assumption))only[W_block,P3,↓reduceIte,reduceAdd,reduceEqDiff,reduceCtorEq,initFr,reduceLT,clsA,reduceLeDiff,reduceMul,reduceSub,reduceIte]
     exact p1 _ _ ⟨rfl,_,_,rfl⟩
    ·have d1:((((fs.getD i 0).toNat:Nat):Int)==255)=false:=beqi_no (by omega)
     rw[d1]
     rw[if_neg hif]at p1
     simp(disch:=first|assumption|omega|(simp only[LN]<;>omega)|(simp(disch:=first|assumption|omega|(simp only[LN]<;>omega))only[row_alloc,row_set];assumption))only[W_block,P3,↓reduceIte,reduceAdd,reduceEqDiff,reduceCtorEq,initFr,reduceLT,clsA,reduceLeDiff,reduceMul,reduceSub,reduceIte]
     exact p1 _ _ ⟨rfl,_,_,rfl⟩
   rintro _ Y ⟨hY,z11,z12,rfl⟩
   rw[hY]
   have hj:(0:Int)≤(w.1:Nat)∧((w.1:Nat):Int)<((E.bl.length:Nat):Int):=by rw[eb,hbn];omega
   have hfk:(0:Int)≤(fateN fs i:Nat)∧((fateN fs i:Nat):Int)≤((256:Nat):Int):=by omega
   have hbw:BS X1 (slc X.n 1 256 256) w.2:=by
    refine⟨⟨_,_,by rw[ow.2];rfl⟩,?_⟩
    simp only[elemsA,slc,gw]
    rw[if_pos (by rw[wl];omega),List.drop_succ_cons,List.drop_zero,List.take_of_length_le (by rw[cellsOf_length,ow.2];omega)]
   have hwb:w.1<E.bl.length:=by rw[eb,hbn];exact ow.1
   have hfl:(blR E.bl).flatten.length=E.bl.length*256:=by rw[flat_len (blR_len okE.b)];simp[blR]
   have hgd:E.bl.getD w.1 []=E.bl[w.1]:=by simp[List.getD,List.getElem?_eq_getElem hwb]
   obtain⟨x',hx'⟩:∃y,y=w.2.take (fateN fs i)++(E.bl.getD w.1 []).drop (fateN fs i):=⟨_,rfl⟩
   have hc:=a_copyN (o:=w.1*256) (n:=fateN fs i) (k:=256) hbw gs1 (by rw[ow.2];exact hfa) (by rw[hfl];omega)
   obtain⟨e1,u1⟩:=hX.blk kX1 (x:=x') hwb
   have e2:(blR E.bl).flatten.take (w.1*256)++cellsOf (w.2.take (fateN fs i))++(blR E.bl).flatten.drop (w.1*256+fateN fs i)=(blR (E.bl.set w.1 x')).flatten:=by
    rw[←e1,hx',cellsOf_append,flat_drop (blR_len okE.b) w.1 (by simpa[blR]using hwb) _ hfa,hgd]
    simp only[blR,List.getElem_map,List.append_assoc,cellsOf,List.map_drop]
   rw[e2]at hc
   have hw1:IntKind.i64.wrap ((i:Int)+1)=((i+1:Nat):Int):=by have:=h.ok.m;rw[wrap_i64 (by omega) (by omega)];simp
   simp(disch:=first|assumption|omega|(simp only[LN]<;>omega)|(simp(disch:=first|assumption|omega|(simp only[LN]<;>omega))only[row_alloc,row_set];assumption))only[W_block,P3,↓reduceIte,reduceAdd,reduceEqDiff,reduceCtorEq,initFr,reduceLT,clsA,reduceLeDiff,reduceMul,reduceSub,reduceIte,gb1,gw,a_slarrF,a_slarrK,hc,hw1]
   refine hn _ _ _ ⟨i+1,bl.set w.1 x',_,_,_,_,_,_,rfl,?_,by omega,rfl,?_,?_,by rw[List.length_set];exact hbn⟩ (by omega)
   ·have:=u.trans u1
    rw[hE]at this ⊢
    exact this
   ·rw[←hon,hdr,onB,hx',eb]
   ·intro y hy
    rcases mem_set hy with hy|rfl
    ·exact hbl y hy
    ·rw[hx',List.length_append,List.length_take,List.length_drop,ow.2,getD_len (by rw[eb];exact hbl) hwb];omega
  ·have h3:¬(i:Int)<((D.op.length:Nat):Int):=by omega
   simp(disch:=first|assumption|omega|(simp only[LN]<;>omega)|(simp(disch:=first|assumption|omega|(simp only[LN]<;>omega))only[row_alloc,row_set];assumption))only[W_block,P3,↓reduceIte,reduceAdd,reduceEqDiff,reduceCtorEq,initFr,reduceLT,clsA,reduceLeDiff,reduceMul,reduceSub,reduceIte]
   refine hx2 0 _ _ ?_
   rw[List.drop_of_length_le (by omega),onB]at hon
   have okE:Dk.ok ⟨bl,D.op,D.st,none,false⟩:=⟨hbl,by simp only[hbn];exact h.ok.o,by simp only[hbn];exact h.ok.n,h.ok.m,h.ok.s,fun m hm=>by cases hm⟩
   have hX:DkR X b sb v none _:=⟨u.sep,okE⟩
   have gX:=hX.g
   have bX:=hX.lt
   simp(disch:=first|assumption|omega|(simp only[LN]<;>omega)|(simp(disch:=first|assumption|omega|(simp only[LN]<;>omega))only[row_alloc,row_set];assumption))only[W_block,P3,↓reduceIte,reduceAdd,reduceEqDiff,reduceCtorEq,initFr,reduceLT,clsA,reduceLeDiff,reduceMul,reduceSub,reduceIte,gX]
   have e:onD D fs=⟨bl,[],D.st,none,false⟩:=by unfold onD;rw[if_pos ho,←hon]
   refine hq1 _ _ ⟨_,rfl,.slice none 0 0,?_⟩
   rw[e]
   exact u.trans (hX.opn (D':=⟨bl,[],D.st,none,false⟩) (Chg.refl _ _) rfl rfl (.inl ⟨rfl,rfl,rfl⟩) (by simp[blkL,blk]))
end
end Go.AM.Fd

set_option linter.unusedSimpArgs false
set_option linter.unusedVariables false
namespace Go.AM.Fd
open Nat (reduceAdd reduceEqDiff reduceLT reduceLeDiff reduceMul reduceSub)
open Go.Proofs Go.AM.F
def sV(s:List UInt8):Value:=.string ⟨s.toArray⟩
def eR(w:Nat×List UInt8):List Value:=[.int .i64 (w.1:Nat),sV w.2]
def ekC(vb vo:Value)(inn:Int)(D:Dk):List Value:=[vb,vo,.int .i64 (D.st:Nat),.bool D.ar.isSome,.int .i64 inn,.bool D.off]
def ekT(b:Nat)(vb vo:Value)(inn:Int)(D:Dk):List Th:=
 [thB b (.cells true false 6 (ekC vb vo inn D) 111),thA 9 1 vb D.bl.length (D.bl.map sV),thA 143 2 vo D.op.length (D.op.map eR).flatten]
structure EkR (K:AHeap) (b:Nat) (vb vo:Value) (inn:Int) (D:Dk):Prop where
 s:Sep K (ekT b vb vo inn D)
 ok:D.ok
 i:∀n,D.ar=some n→inn=(n:Nat)
section
variable {K:AHeap} {b:Nat} {vb vo:Value} {inn:Int} {D:Dk}
theorem EkR.g(h:EkR K b vb vo inn D):K.get b=some (.cells true false 6 [vb,vo,.int .i64 (D.st:Nat),.bool D.ar.isSome,.int .i64 inn,.bool D.off] 111):=h.s.get 0 rfl
theorem EkR.bb(h:EkR K b vb vo inn D):AP K 9 1 vb D.bl.length (D.bl.map sV):=h.s.get 1 rfl
theorem EkR.oo(h:EkR K b vb vo inn D):AP K 143 2 vo D.op.length (D.op.map eR).flatten:=h.s.get 2 rfl
theorem EkR.lt(h:EkR K b vb vo inn D):b<K.n:=AHeap.get_lt h.g
theorem map_sV(l:List (List UInt8)):(l.map fun s=>[sV s]).flatten=l.map sV:=by
 induction l with
 |nil=>rfl
 |cons a l ih=>simp only[List.map_cons,List.flatten_cons,ih,List.singleton_append]
theorem EkR.sb(h:EkR K b vb vo inn D):Sl K 1 vb (D.bl.map fun s=>[sV s]):=AP.sl (n:=D.bl.length) (by rw[map_sV];exact h.bb) (by simp) (by simp)
theorem EkR.so(h:EkR K b vb vo inn D):Sl K 2 vo (D.op.map eR):=AP.sl (by simpa using h.oo) (by intro r hr;obtain⟨w,_,rfl⟩:=List.mem_map.1 hr;rfl) (by simp)
theorem EkR.bn(h:EkR K b vb vo inn D):b∉blkL vb:=fun e=>h.s.apart 0 1 (by omega) rfl rfl b (by simp[thB]) e
theorem EkR.on(h:EkR K b vb vo inn D):b∉blkL vo:=fun e=>h.s.apart 0 2 (by omega) rfl rfl b (by simp[thB]) e
theorem EkR.cell{K1:AHeap}{inn':Int}{D':Dk}(h:EkR K b vb vo inn D)(k:Keeps K K1)(hb:D'.bl=D.bl)(ho:D'.op=D.op):
 Upd (ekT b vb vo inn D) (ekT b vb vo inn' D') K (K1.set b (.cells true false 6 (ekC vb vo inn' D') 111)):=by
 have hl:b<K1.n:=Nat.lt_of_lt_of_le h.lt k.n
 simp only[ekT,hb,ho]
 exact Upd.next (l:=[]) (t':=thB b (.cells true false 6 (ekC vb vo inn' D') 111)) (Upd.keeps h.s k) (Chg.set K1 hl _) (AHeap.get_set_same (k.at_ h.g) _) (by simp[thB])
theorem EkR.opn{K1:AHeap}{vo':Value}{inn':Int}{D':Dk}(h:EkR K b vb vo inn D)(c:Chg (blkL vo) K K1)(hb:D'.bl=D.bl)(hp:AP K1 143 2 vo' D'.op.length (D'.op.map eR).flatten)(hf:∀y∈blkL vo',y∈blkL vo∨K.n≤y):
 Upd (ekT b vb vo inn D) (ekT b vb vo' inn' D') K (K1.set b (.cells true false 6 (ekC vb vo' inn' D') 111)):=by
 have hl:b<K1.n:=Nat.lt_of_lt_of_le h.lt c.n
 have u1:=Upd.next (l:=[_,_]) (t':=thA 143 2 vo' D'.op.length (D'.op.map eR).flatten) (Upd.refl h.s) c hp (fun y hy=>by
  rcases hf y hy with h1|h1
  ·exact .inl h1
  ·exact .inr (.inl h1))
 have gb:K1.get b=some (.cells true false 6 (ekC vb vo inn D) 111):=u1.sep.get 0 rfl
 simp only[ekT,hb]
 exact Upd.next (l:=[]) (t':=thB b (.cells true false 6 (ekC vb vo' inn' D') 111)) u1 (Chg.set K1 hl _) (AHeap.get_set_same gb _) (by simp[thB])
theorem EkR.bls{K1:AHeap}{vb':Value}{inn':Int}{D':Dk}(h:EkR K b vb vo inn D)(c:Chg (blkL vb) K K1)(ho:D'.op=D.op)(hp:AP K1 9 1 vb' D'.bl.length (D'.bl.map sV))(hf:∀y∈blkL vb',y∈blkL vb∨K.n≤y):
 Upd (ekT b vb vo inn D) (ekT b vb' vo inn' D') K (K1.set b (.cells true false 6 (ekC vb' vo inn' D') 111)):=by
 have hl:b<K1.n:=Nat.lt_of_lt_of_le h.lt c.n
 have u1:=Upd.next (l:=[_]) (t':=thA 9 1 vb' D'.bl.length (D'.bl.map sV)) (Upd.refl h.s) c hp (fun y hy=>by
  rcases hf y hy with h1|h1
  ·exact .inl h1
  ·exact .inr (.inl h1))
 have gb:K1.get b=some (.cells true false 6 (ekC vb vo inn D) 111):=u1.sep.get 0 rfl
 simp only[ekT,ho]
 exact Upd.next (l:=[]) (t':=thB b (.cells true false 6 (ekC vb' vo inn' D') 111)) u1 (Chg.set K1 hl _) (AHeap.get_set_same gb _) (by simp[thB])
theorem t86(h:EkR K b vb vo inn D)(i:Int):∃w K',ARun Go.Proofs.Tryz.prog 0 86 [ptr b 0,.int .i64 i] K w K'∧w=.int .i64 (askD D i)∧K'=K:=by
 refine walk2 f86_ok f86_n ?_
 intro Q hq1 hq2
 have g:=h.g
 have hi:=Sl.is h.sb
 have hl:lenS vb=D.bl.length:=by have:=Sl.len h.sb;simpa using this
 cases ho:D.off with
 |true=>
  rw[ho]at g
  simp(disch:=first|assumption|omega|(simp only[LN]<;>omega)|(simp(disch:=first|assumption|omega|(simp only[LN]<;>omega))only[row_alloc,row_set];assumption))only[f86,W_block,P3,↓reduceIte,reduceAdd,reduceEqDiff,reduceCtorEq,initFr,reduceLT,clsA,reduceLeDiff,reduceMul,reduceSub,reduceIte,g]
  exact hq2 _ _ ⟨_,rfl,by simp[askD,ho,tupV],rfl⟩
 |false=>
  rw[ho]at g
  by_cases h0:i<0
  ·simp(disch:=first|assumption|omega|(simp only[LN]<;>omega)|(simp(disch:=first|assumption|omega|(simp only[LN]<;>omega))only[row_alloc,row_set];assumption))only[f86,W_block,P3,↓reduceIte,reduceAdd,reduceEqDiff,reduceCtorEq,initFr,reduceLT,clsA,reduceLeDiff,reduceMul,reduceSub,reduceIte,g]
   exact hq2 _ _ ⟨_,rfl,by simp[askD,ho,h0,tupV],rfl⟩
  ·by_cases h1:(D.bl.length:Int)≤i
   ·simp(disch:=first|assumption|omega|(simp only[LN]<;>omega)|(simp(disch:=first|assumption|omega|(simp only[LN]<;>omega))only[row_alloc,row_set];assumption))only[f86,W_block,P3,↓reduceIte,reduceAdd,reduceEqDiff,reduceCtorEq,initFr,reduceLT,clsA,reduceLeDiff,reduceMul,reduceSub,reduceIte,g,hl]
    exact hq2 _ _ ⟨_,rfl,by simp[askD,ho,h1,tupV],rfl⟩
   ·simp(disch:=first|assumption|omega|(simp only[LN]<;>omega)|(simp(disch:=first|assumption|omega|(simp only[LN]<;>omega))only[row_alloc,row_set];assumption))only[f86,W_block,P3,↓reduceIte,reduceAdd,reduceEqDiff,reduceCtorEq,initFr,reduceLT,clsA,reduceLeDiff,reduceMul,reduceSub,reduceIte,g,hl]
    exact hq2 _ _ ⟨_,rfl,by simp[askD,ho,h0,h1,tupV],rfl⟩
theorem t87(h:EkR K b vb vo inn D)(hs:D.st<1000000):∃w K',ARun Go.Proofs.Tryz.prog 0 87 [ptr b 0] K w K'∧w=.bool (stepD D).2 ∧∃inn',EkR K' b vb vo inn' (stepD D).1 ∧Upd (ekT b vb vo inn D) (ekT b vb vo inn' (stepD D).1) K K':=by
 refine walk2 f87_ok f87_n ?_
 intro Q hq1 hq2
 have g:=h.g
 have lb:=h.lt
 have hw:IntKind.i64.wrap ((D.st:Int)+1)=((D.st+1:Nat):Int):=by rw[wrap_i64 (by omega) (by omega)];simp
 have ok:=h.ok.step hs
 cases ha:D.ar with
 |none=>
  have e1:stepD D=(⟨D.bl,D.op,D.st+1,none,D.off⟩,false):=by unfold stepD;rw[ha]
  rw[ha]at g
  rw[e1]at hq2 ok
  simp(disch:=first|assumption|omega|(simp only[LN]<;>omega)|(simp(disch:=first|assumption|omega|(simp only[LN]<;>omega))only[row_alloc,row_set];assumption))only[f87,W_block,P3,↓reduceIte,reduceAdd,reduceEqDiff,reduceCtorEq,initFr,reduceLT,clsA,reduceLeDiff,reduceMul,reduceSub,reduceIte,g,hw,Option.isSome_none]
  have u:=h.cell (D':=⟨D.bl,D.op,D.st+1,none,D.off⟩) (inn':=inn) (Keeps.refl _) rfl rfl
  exact hq2 _ _ ⟨_,rfl,rfl,_,⟨u.sep,ok,fun n hn=>by cases hn⟩,u⟩
 |some n=>
  have hin:=h.i n ha
  subst hin
  rw[ha]at g
  cases n with
  |zero=>
   have e1:stepD D=(⟨D.bl,D.op,D.st+1,none,true⟩,true):=by unfold stepD;rw[ha]
   rw[e1]at hq2 ok
   simp(disch:=first|assumption|omega|(simp only[LN]<;>omega)|(simp(disch:=first|assumption|omega|(simp only[LN]<;>omega))only[row_alloc,row_set];assumption))only[f87,W_block,P3,↓reduceIte,reduceAdd,reduceEqDiff,reduceCtorEq,initFr,reduceLT,clsA,reduceLeDiff,reduceMul,reduceSub,reduceIte,g,hw,Option.isSome_some]
   have u:=h.cell (D':=⟨D.bl,D.op,D.st+1,none,true⟩) (inn':=((0:Nat):Int)) (Keeps.refl _) rfl rfl
   exact hq2 _ _ ⟨_,rfl,rfl,_,⟨u.sep,ok,fun n hn=>by cases hn⟩,u⟩
  |succ n=>
   have e1:stepD D=(⟨D.bl,D.op,D.st+1,some n,D.off⟩,false):=by unfold stepD;rw[ha]
   have hn:(0:Int)<((n+1:Nat):Int):=by omega
   have hb:=h.ok.r _ ha
   have hw2:IntKind.i64.wrap (((n+1:Nat):Int)-1)=((n:Nat):Int):=by rw[wrap_i64 (by omega) (by omega)];omega
   rw[e1]at hq2 ok
   simp(disch:=first|assumption|omega|(simp only[LN]<;>omega)|(simp(disch:=first|assumption|omega|(simp only[LN]<;>omega))only[row_alloc,row_set];assumption))only[f87,W_block,P3,↓reduceIte,reduceAdd,reduceEqDiff,reduceCtorEq,initFr,reduceLT,clsA,reduceLeDiff,reduceMul,reduceSub,reduceIte,g,hw,hw2,Option.isSome_some]
   have u:=h.cell (D':=⟨D.bl,D.op,D.st+1,some n,D.off⟩) (inn':=((n:Nat):Int)) (Keeps.refl _) rfl rfl
   exact hq2 _ _ ⟨_,rfl,rfl,_,⟨u.sep,ok,fun m hm=>by cases hm;rfl⟩,u⟩
theorem t18(h:EkR K b vb vo inn D)(n:Int)(hn:n≤9223372036854775807):∃w K',ARun Go.Proofs.Tryz.prog 0 18 [ptr b 0,.int .i64 n] K w K'∧∃inn',EkR K' b vb vo inn' (failD D n)∧Upd (ekT b vb vo inn D) (ekT b vb vo inn' (failD D n)) K K':=by
 refine walk2 f18_ok f18_n ?_
 intro Q hq1 hq2
 have g:=h.g
 have lb:=h.lt
 have hd:decide (0≤n)=(failD D n).ar.isSome:=by
  unfold failD
  by_cases h0:0≤n
  ·simp[h0]
  ·simp[h0]
 simp(disch:=first|assumption|omega|(simp only[LN]<;>omega)|(simp(disch:=first|assumption|omega|(simp only[LN]<;>omega))only[row_alloc,row_set];assumption))only[f18,W_block,P3,↓reduceIte,reduceAdd,reduceEqDiff,reduceCtorEq,initFr,reduceLT,clsA,reduceLeDiff,reduceMul,reduceSub,reduceIte,g,hd]
 have u:=h.cell (D':=failD D n) (inn':=n) (Keeps.refl _) rfl rfl
 refine hq1 _ _ ⟨_,rfl,_,⟨u.sep,h.ok.fail hn,fun m hm=>?_⟩,u⟩
 unfold failD at hm
 simp only at hm
 split at hm
 ·cases hm;omega
 ·cases hm
theorem t20(h:EkR K b vb vo inn D):∃w K',ARun Go.Proofs.Tryz.prog 0 20 [ptr b 0] K w K'∧EkR K' b vb vo inn (crashD D)∧Upd (ekT b vb vo inn D) (ekT b vb vo inn (crashD D)) K K':=by
 refine walk2 f20_ok f20_n ?_
 intro Q hq1 hq2
 have g:=h.g
 have lb:=h.lt
 simp(disch:=first|assumption|omega|(simp only[LN]<;>omega)|(simp(disch:=first|assumption|omega|(simp only[LN]<;>omega))only[row_alloc,row_set];assumption))only[f20,W_block,P3,↓reduceIte,reduceAdd,reduceEqDiff,reduceCtorEq,initFr,reduceLT,clsA,reduceLeDiff,reduceMul,reduceSub,reduceIte,g]
 have u:=h.cell (D':=crashD D) (inn':=inn) (Keeps.refl _) rfl rfl
 exact hq1 _ _ ⟨_,rfl,⟨u.sep,h.ok.crash,fun n hn=>by cases hn⟩,u⟩
end
end Go.AM.Fd

set_option linter.unusedSimpArgs false
set_option linter.unusedVariables false
namespace Go.AM.Fd
open Nat (reduceAdd reduceEqDiff reduceLT reduceLeDiff reduceMul reduceSub)
open Go.Proofs Go.AM.F
section
variable {K:AHeap} {b:Nat} {vb vo:Value} {inn:Int} {D:Dk}
theorem t64(K:AHeap)(l:List UInt8)(hl:l.length≤256):∃w K',ARun Go.Proofs.Tryz.prog 0 64 [.string ⟨l.toArray⟩] K w K'∧w=.string ⟨(padB l).toArray⟩∧K'=K:=by
 suffices h':∃w K',ARun Go.Proofs.Tryz.prog 0 64 [.string ⟨l.toArray⟩] K w K'∧w=.string ⟨(padB l).toArray⟩∧Keeps K K' by
  obtain⟨_,_,a,rfl,k⟩:=h'
  exact⟨_,_,a.gc0 k (.inr (.string _)),rfl,rfl⟩
 refine walk2 f64_ok f64_n ?_
 intro Q hq1 hq2
 simp(disch:=first|assumption|omega|(simp only[LN]<;>omega)|(simp(disch:=first|assumption|omega|(simp only[LN]<;>omega))only[row_alloc,row_set];assumption))only[f64,P3,↓reduceIte,reduceAdd,reduceEqDiff,reduceCtorEq,initFr,reduceLT,clsA,reduceLeDiff,reduceMul,reduceSub,reduceIte]
 refine OB.appsR (OB.nil _ K) (by simp;omega) ?_
 intro v1 K1 h1
 simp(disch:=first|assumption|omega|(simp only[LN]<;>omega)|(simp(disch:=first|assumption|omega|(simp only[LN]<;>omega))only[row_alloc,row_set];assumption))only[P3,↓reduceIte,reduceAdd,reduceEqDiff,reduceCtorEq,initFr,reduceLT,clsA,reduceLeDiff,reduceMul,reduceSub,reduceIte]
 rw[W_block]
 refine W_loop2 (fun k fr X=>∃v m x1 x3,fr=[.string ⟨l.toArray⟩,x1,v,x3]∧OB 5 K X v (l++List.replicate m 0)∧l.length+m≤256∧k=256-(l.length+m)) (256-l.length) ?_ ?_
 ·exact⟨_,0,_,_,rfl,by simpa using h1,by omega,by omega⟩
 rintro Q' k fr X ⟨v,m,x1,x3,rfl,hb,hm,rfl⟩ hn hx hret
 have hl1:lenS v=l.length+m:=by rw[hb.len];simp
 have hi:=hb.is
 by_cases hlt:l.length+m<256
 ·have h1:((l.length+m:Nat):Int)<256:=by omega
  simp(disch:=first|assumption|omega|(simp only[LN]<;>omega)|(simp(disch:=first|assumption|omega|(simp only[LN]<;>omega))only[row_alloc,row_set];assumption))only[W_block,P3,↓reduceIte,reduceAdd,reduceEqDiff,reduceCtorEq,initFr,reduceLT,clsA,reduceLeDiff,reduceMul,reduceSub,reduceIte,hl1]
  refine OB.appR (hb.keeps ((Keeps.refl X).alloc _)) (m:=[0]) ⟨⟨_,_,rfl⟩,elems_new (n:=1) rfl rfl⟩ (by simp;omega) ?_
  intro v' X' h'
  simp(disch:=first|assumption|omega|(simp only[LN]<;>omega)|(simp(disch:=first|assumption|omega|(simp only[LN]<;>omega))only[row_alloc,row_set];assumption))only[W_block,P3,↓reduceIte,reduceAdd,reduceEqDiff,reduceCtorEq,initFr,reduceLT,clsA,reduceLeDiff,reduceMul,reduceSub,reduceIte]
  refine hn _ _ _ ⟨_,m+1,_,_,rfl,?_,by omega,rfl⟩ (by omega)
  rw[List.replicate_succ',←List.append_assoc]
  exact h'
 ·have h1:¬((l.length+m:Nat):Int)<256:=by omega
  simp(disch:=first|assumption|omega|(simp only[LN]<;>omega)|(simp(disch:=first|assumption|omega|(simp only[LN]<;>omega))only[row_alloc,row_set];assumption))only[W_block,P3,↓reduceIte,reduceAdd,reduceEqDiff,reduceCtorEq,initFr,reduceLT,clsA,reduceLeDiff,reduceMul,reduceSub,reduceIte,hl1]
  refine hx 0 _ _ ?_
  have e:=a_b2sB hb.bs
  simp(disch:=first|assumption|omega|(simp only[LN]<;>omega)|(simp(disch:=first|assumption|omega|(simp only[LN]<;>omega))only[row_alloc,row_set];assumption))only[W_block,P3,↓reduceIte,reduceAdd,reduceEqDiff,reduceCtorEq,initFr,reduceLT,clsA,reduceLeDiff,reduceMul,reduceSub,reduceIte,e]
  refine hq2 _ _ ⟨_,rfl,?_,hb.k⟩
  have:m=256-l.length:=by omega
  rw[this];rfl
theorem t24(h:EkR K b vb vo inn D)(hs:D.st<1000000)(hm:D.op.length<1000000)(i:Int)(l:List UInt8):∃w K',ARun Go.Proofs.Tryz.prog 0 24 [ptr b 0,.int .i64 i,.string ⟨l.toArray⟩] K w K'∧w=.int .i64 (wrD D i l).2 ∧∃vo' inn',EkR K' b vb vo' inn' (wrD D i l).1 ∧Upd (ekT b vb vo inn D) (ekT b vb vo' inn' (wrD D i l).1) K K':=by
 refine walk2 f24_ok f24_n ?_
 intro Q hq1 hq2
 have g:=h.g
 have lb:=h.lt
 have okw:=h.ok.wr (i:=i) (b:=l) hs hm
 simp(disch:=first|assumption|omega|(simp only[LN]<;>omega)|(simp(disch:=first|assumption|omega|(simp only[LN]<;>omega))only[row_alloc,row_set];assumption))only[f24,W_block,P3,↓reduceIte,reduceAdd,reduceEqDiff,reduceCtorEq,initFr,reduceLT,clsA,reduceLeDiff,reduceMul,reduceSub,reduceIte]
 refine callK (t86 h i) ?_
 rintro _ X ⟨rfl,hX⟩
 rw[hX]
 by_cases ha:askD D i=0
 ·have ha1:=askD_ok ha
  have e0:((0:Int) != 0)=false:=rfl
  rw[ha]
  by_cases hl:(256:Int)<(l.length:Nat)
  ·have e1:wrD D i l=(D,3):=by unfold wrD;rw[if_neg (by simp[ha]),if_pos (by omega)]
   rw[e1]at hq2
   simp(disch:=first|assumption|omega|(simp only[LN]<;>omega)|(simp(disch:=first|assumption|omega|(simp only[LN]<;>omega))only[row_alloc,row_set];assumption))only[W_block,P3,↓reduceIte,reduceAdd,reduceEqDiff,reduceCtorEq,initFr,reduceLT,clsA,reduceLeDiff,reduceMul,reduceSub,reduceIte,e0,a_lens]
   exact hq2 _ _ ⟨_,rfl,rfl,_,_,h,Upd.refl h.s⟩
  ·simp(disch:=first|assumption|omega|(simp only[LN]<;>omega)|(simp(disch:=first|assumption|omega|(simp only[LN]<;>omega))only[row_alloc,row_set];assumption))only[W_block,P3,↓reduceIte,reduceAdd,reduceEqDiff,reduceCtorEq,initFr,reduceLT,clsA,reduceLeDiff,reduceMul,reduceSub,reduceIte,e0,a_lens,g]
   refine callK (t64 K l (by omega)) ?_
   rintro _ X ⟨rfl,hX⟩
   rw[hX]
   have hf1:∀s:ByteArray,fillA [.int .i64 0,.string ByteArray.empty] [(0,1,.int .i64 i),(1,1,.string s)]=some [.int .i64 i,.string s]:=fun s=>rfl
   have hf2:∀s:ByteArray,fillA [.int .i64 0,.string ByteArray.empty] [(0,2,.agg #[.int .i64 i,.string s])]=some [.int .i64 i,.string s]:=fun s=>rfl
   simp(disch:=first|assumption|omega|(simp only[LN]<;>omega)|(simp(disch:=first|assumption|omega|(simp only[LN]<;>omega))only[row_alloc,row_set];assumption))only[W_block,P3,↓reduceIte,reduceAdd,reduceEqDiff,reduceCtorEq,initFr,reduceLT,clsA,reduceLeDiff,reduceMul,reduceSub,reduceIte,g,hf1,hf2]
   refine⟨by simp,?_⟩
   have kk:=(Keeps.refl K).alloc (.cells true false 2 [.int .i64 i,.string ⟨(padB l).toArray⟩] 143)
   refine appGD (h.oo.keeps kk) ⟨_,_,rfl⟩ (elems_new (n:=1) rfl rfl) rfl (by omega) ?_
   rintro v' K3 hap hch hbl
   generalize K.alloc (.cells true false 2 [.int .i64 i,.string ⟨(padB l).toArray⟩] 143)=X2 at*
   have c3:Chg (blkL vo) K K3:=(kk.chg _).trans hch (fun x hx=>.inl hx)
   have g3:=c3.at_ g h.on
   have b3:=AHeap.get_lt g3
   obtain⟨av,hav⟩:=hap.shape
   have o3:v'.oneCell'=true:=by rw[hav];rfl
   simp(disch:=first|assumption|omega|(simp only[LN]<;>omega)|(simp(disch:=first|assumption|omega|(simp only[LN]<;>omega))only[row_alloc,row_set];assumption))only[W_block,P3,↓reduceIte,reduceAdd,reduceEqDiff,reduceCtorEq,initFr,reduceLT,clsA,reduceLeDiff,reduceMul,reduceSub,reduceIte,g3,o3]
   obtain⟨D1,hD1⟩:∃E:Dk,E=⟨D.bl,D.op++[(i.toNat,padB l)],D.st,D.ar,D.off⟩:=⟨_,rfl⟩
   have ei:((i.toNat:Nat):Int)=i:=by omega
   have er:(D1.op.map eR).flatten=(D.op.map eR).flatten++[.int .i64 i,.string ⟨(padB l).toArray⟩]:=by rw[hD1];simp[eR,sV,ei]
   have en:D1.op.length=D.op.length+1:=by rw[hD1];simp
   have u:=h.opn (D':=D1) (inn':=inn) c3 (by rw[hD1]) (by rw[er,en];exact hap) (fun y hy=>by
    rcases hbl with h1|h1
    ·exact .inl (by rw[mem_blkL]at hy ⊢;rw[←h1];exact hy)
    ·rw[mem_blkL,h1]at hy
     cases hy
     exact .inr kk.n)
   have ok1:D1.ok:=by
    rw[hD1]
    refine⟨h.ok.b,fun w hw=>?_,h.ok.n,by simp;omega,h.ok.s,h.ok.r⟩
    rcases List.mem_append.1 hw with hw|hw
    ·exact h.ok.o w hw
    ·simp only[List.mem_singleton]at hw
     subst hw
     exact⟨ha1.2.1,padB_len (by omega)⟩
   have e5:ekC vb v' inn D1=[vb,v',.int .i64 (D.st:Nat),.bool D.ar.isSome,.int .i64 inn,.bool D.off]:=by rw[hD1];rfl
   rw[e5]at u
   have hk1:EkR _ b vb v' inn D1:=⟨u.sep,ok1,by rw[hD1];exact h.i⟩
   have es:(stepD D1).2 =(stepD D).2 :=by rw[hD1];exact stepD_op D _
   have ew:wrD D i l=((stepD D1).1,if(stepD D).2 =true then 140 else 0):=by
    unfold wrD
    rw[if_neg (by simp[ha]),if_neg (by omega),hD1]
   rw[ew]at hq2
   refine callK (t87 hk1 (by rw[hD1];exact hs)) ?_
   rintro _ K4 ⟨rfl,inn4,hk4,u4⟩
   rw[es]
   cases hf:(stepD D).2 with
   |true=>
    rw[hf]at hq2
    simp(disch:=first|assumption|omega|(simp only[LN]<;>omega)|(simp(disch:=first|assumption|omega|(simp only[LN]<;>omega))only[row_alloc,row_set];assumption))only[W_block,P3,↓reduceIte,reduceAdd,reduceEqDiff,reduceCtorEq,initFr,reduceLT,clsA,reduceLeDiff,reduceMul,reduceSub,reduceIte]
    exact hq2 _ _ ⟨_,rfl,rfl,_,_,hk4,u.trans u4⟩
   |false=>
    rw[hf]at hq2
    simp(disch:=first|assumption|omega|(simp only[LN]<;>omega)|(simp(disch:=first|assumption|omega|(simp only[LN]<;>omega))only[row_alloc,row_set];assumption))only[W_block,P3,↓reduceIte,reduceAdd,reduceEqDiff,reduceCtorEq,initFr,reduceLT,clsA,reduceLeDiff,reduceMul,reduceSub,reduceIte]
    exact hq2 _ _ ⟨_,rfl,rfl,_,_,hk4,u.trans u4⟩
 ·have e0:(askD D i != 0)=true:=bnei_yes ha
  have e1:wrD D i l=(D,askD D i):=by unfold wrD;rw[if_pos ha]
  rw[e1]at hq2
  simp(disch:=first|assumption|omega|(simp only[LN]<;>omega)|(simp(disch:=first|assumption|omega|(simp only[LN]<;>omega))only[row_alloc,row_set];assumption))only[W_block,P3,↓reduceIte,reduceAdd,reduceEqDiff,reduceCtorEq,initFr,reduceLT,clsA,reduceLeDiff,reduceMul,reduceSub,reduceIte,e0]
  exact hq2 _ _ ⟨_,rfl,rfl,_,_,h,Upd.refl h.s⟩
theorem EkR.blk{i:Nat}{s:List UInt8}(h:EkR K b vb vo inn D)(hi:i<D.bl.length):∃q room,vb=slc q 0 D.bl.length D.bl.length∧K.get q=some (.cells true room 1 (D.bl.map sV) 9)∧
 (∀K1,Keeps K K1→Upd (ekT b vb vo inn D) (ekT b vb vo inn ⟨D.bl.set i s,D.op,D.st,D.ar,D.off⟩) K (K1.set q (.cells true room 1 ((D.bl.map sV).set i (sV s)) 9))):=by
 rcases h.bb with⟨_,h2,_⟩|⟨q,room,hv,h1,h2⟩
 ·omega
 refine⟨q,room,hv,h2,fun K1 k=>?_⟩
 have hq:K1.get q=_:=k.at_ h2
 have e:ekC vb vo inn ⟨D.bl.set i s,D.op,D.st,D.ar,D.off⟩=ekC vb vo inn D:=rfl
 simp only[ekT,e,List.length_set]
 refine Upd.next (l:=[_]) (t':=thA 9 1 vb D.bl.length ((D.bl.set i s).map sV)) (Upd.keeps h.s k) (Chg.mono (Chg.set K1 (AHeap.get_lt hq) _) (fun x hx=>?_)) ?_ (fun y hy=>.inl hy)
 ·simp only[List.mem_singleton]at hx
  subst hx
  show _∈blkL vb
  rw[hv];exact mem_blkL.2 rfl
 ·refine .inr ⟨q,room,hv,by simp,?_⟩
  rw[List.map_set]
  exact AHeap.get_set_same hq _
theorem t76(h:EkR K b vb vo inn D)(hs:D.st<1000000):∃w K',ARun Go.Proofs.Tryz.prog 0 76 [ptr b 0] K w K'∧w=.int .i64 (syD D).2 ∧∃vo' inn',EkR K' b vb vo' inn' (syD D).1 ∧Upd (ekT b vb vo inn D) (ekT b vb vo' inn' (syD D).1) K K':=by
 refine walk2 f76_ok f76_n ?_
 intro Q hq1 hq2
 have g:=h.g
 cases ho:D.off with
 |true=>
  have e1:syD D=(D,140):=by unfold syD;rw[if_pos ho]
  rw[ho]at g
  rw[e1]at hq2
  simp(disch:=first|assumption|omega|(simp only[LN]<;>omega)|(simp(disch:=first|assumption|omega|(simp only[LN]<;>omega))only[row_alloc,row_set];assumption))only[f76,W_block,P3,↓reduceIte,reduceAdd,reduceEqDiff,reduceCtorEq,initFr,reduceLT,clsA,reduceLeDiff,reduceMul,reduceSub,reduceIte,g]
  exact hq2 _ _ ⟨_,rfl,rfl,_,_,h,Upd.refl h.s⟩
 |false=>
  rw[ho]at g
  simp(disch:=first|assumption|omega|(simp only[LN]<;>omega)|(simp(disch:=first|assumption|omega|(simp only[LN]<;>omega))only[row_alloc,row_set];assumption))only[f76,W_block,P3,↓reduceIte,reduceAdd,reduceEqDiff,reduceCtorEq,initFr,reduceLT,clsA,reduceLeDiff,reduceMul,reduceSub,reduceIte,g]
  refine callK (t87 h hs) ?_
  rintro _ X ⟨rfl,inn1,h1,u1⟩
  have ok1:=h1.ok
  cases hf:(stepD D).2 with
  |true=>
   have e1:syD D=((stepD D).1,140):=by unfold syD;rw[if_neg (by simp[ho]),if_pos hf]
   rw[e1]at hq2
   simp(disch:=first|assumption|omega|(simp only[LN]<;>omega)|(simp(disch:=first|assumption|omega|(simp only[LN]<;>omega))only[row_alloc,row_set];assumption))only[W_block,P3,↓reduceIte,reduceAdd,reduceEqDiff,reduceCtorEq,initFr,reduceLT,clsA,reduceLeDiff,reduceMul,reduceSub,reduceIte]
   exact hq2 _ _ ⟨_,rfl,rfl,_,_,h1,u1⟩
  |false=>
   have e1:syD D=(settD (stepD D).1,0):=by unfold syD;rw[if_neg (by simp[ho]),if_neg (by simp[hf])]
   rw[e1]at hq2
   generalize(stepD D).1 =E at*
   simp(disch:=first|assumption|omega|(simp only[LN]<;>omega)|(simp(disch:=first|assumption|omega|(simp only[LN]<;>omega))only[row_alloc,row_set];assumption))only[P3,↓reduceIte,reduceAdd,reduceEqDiff,reduceCtorEq,initFr,reduceLT,clsA,reduceLeDiff,reduceMul,reduceSub,reduceIte]
   rw[W_block]
   refine W_loop2 (fun k fr Y=>∃i x4 bl,fr=[ptr b 0,.int .i64 0,.int .i64 (i:Nat),.bool false,x4]∧EkR Y b vb vo inn1 ⟨bl,E.op,E.st,E.ar,E.off⟩∧Upd (ekT b vb vo inn D) (ekT b vb vo inn1 ⟨bl,E.op,E.st,E.ar,E.off⟩) K Y∧setl bl (E.op.drop i)=setl E.bl E.op∧bl.length=E.bl.length∧i≤E.op.length∧k=E.op.length-i) E.op.length
    ⟨0,_,E.bl,rfl,h1,u1,by simp,rfl,by omega,by omega⟩ ?_
   rintro Q' k fr Y ⟨i,x4,bl,rfl,hY,uY,hst,hbn,hi2,rfl⟩ hn hx hret
   have gY:=hY.g
   have hio:=Sl.is hY.so
   have hlo:lenS vo=E.op.length:=by have:=Sl.len hY.so;simpa using this
   by_cases hlt:i<E.op.length
   ·obtain⟨na,ra⟩:=Sl.at_ hY.so (by omega) (i:=i) (by simpa using hlt)
    have ow:=hY.ok.o _ (List.getElem_mem (l:=E.op) hlt)
    simp only[List.getElem_map,eR]at ra
    have hdr:=List.drop_eq_getElem_cons hlt
    generalize hw:E.op[i]=w at*
    obtain⟨q,room,hvb,gq,uq⟩:=hY.blk (i:=w.1) (s:=w.2) ow.1
    have h0:(0:Int)≤(i:Int):=by omega
    have h1':(i:Int)<((lenS vo:Nat):Int):=by omega
    have h3:(i:Int)<((E.op.length:Nat):Int):=by omega
    have hj:(0:Int)≤(w.1:Nat)∧((w.1:Nat):Int)<((bl.length:Nat):Int):=by have:=ow.1;simp only at this;omega
    have hww:IntKind.i64.wrap ((i:Int)+1)=((i+1:Nat):Int):=by have:=hY.ok.m;simp only at this;rw[wrap_i64 (by omega) (by omega)];simp
    have lq:=AHeap.get_lt gq
    have hsl:w.1<(bl.map sV).length:=by simpa using ow.1
    have hso:(sV w.2).oneCell'=true:=rfl
    subst hvb
    simp only at gY gq uq ow
    simp(disch:=first|assumption|omega|(simp only[LN]<;>omega)|(simp(disch:=first|assumption|omega|(simp only[LN]<;>omega))only[row_alloc,row_set];assumption))only[W_block,P3,↓reduceIte,reduceAdd,reduceEqDiff,reduceCtorEq,initFr,reduceLT,clsA,reduceLeDiff,reduceMul,reduceSub,reduceIte,gY,hlo,ra,na,gq,hww,hso]
    have uq:=uq Y (Keeps.refl Y)
    refine hn _ _ _ ⟨i+1,_,bl.set w.1 w.2,rfl,⟨uq.sep,?_,hY.i⟩,uY.trans uq,?_,by rw[List.length_set];exact hbn,by omega,rfl⟩ (by omega)
    ·refine⟨fun y hy=>?_,by simpa using hY.ok.o,by simpa using hY.ok.n,hY.ok.m,hY.ok.s,hY.ok.r⟩
     rcases mem_set hy with hy|rfl
     ·exact hY.ok.b y hy
     ·exact ow.2
    ·rw[←hst,hdr];rfl
   ·have h3:¬(i:Int)<((E.op.length:Nat):Int):=by omega
    have bY:=hY.lt
    simp(disch:=first|assumption|omega|(simp only[LN]<;>omega)|(simp(disch:=first|assumption|omega|(simp only[LN]<;>omega))only[row_alloc,row_set];assumption))only[W_block,P3,↓reduceIte,reduceAdd,reduceEqDiff,reduceCtorEq,initFr,reduceLT,clsA,reduceLeDiff,reduceMul,reduceSub,reduceIte,gY,hlo]
    refine hx 0 _ _ ?_
    rw[List.drop_of_length_le (by omega)]at hst
    simp(disch:=first|assumption|omega|(simp only[LN]<;>omega)|(simp(disch:=first|assumption|omega|(simp only[LN]<;>omega))only[row_alloc,row_set];assumption))only[W_block,P3,↓reduceIte,reduceAdd,reduceEqDiff,reduceCtorEq,initFr,reduceLT,clsA,reduceLeDiff,reduceMul,reduceSub,reduceIte,gY]
    have e2:settD E=⟨bl,[],E.st,E.ar,E.off⟩:=by unfold settD;rw[←hst];rfl
    have u:=hY.opn (D':=settD E) (inn':=inn1) (Chg.refl _ _) (by rw[e2]) (.inl ⟨rfl,rfl,rfl⟩) (by simp[blkL,blk])
    exact hq2 _ _ ⟨_,rfl,rfl,_,_,⟨u.sep,ok1.sett,hY.i⟩,uY.trans u⟩
theorem t73(h:EkR K b vb vo inn D)(i:Int):∃w K',ARun Go.Proofs.Tryz.prog 0 73 [ptr b 0,.int .i64 i] K w K'∧w=.tuple #[.string ⟨(if askD D i=0 then rdB D i.toNat else[]).toArray⟩,.int .i64 (askD D i)]∧K'=K:=by
 refine walk2 f73_ok f73_n ?_
 intro Q hq1 hq2
 have g:=h.g
 simp(disch:=first|assumption|omega|(simp only[LN]<;>omega)|(simp(disch:=first|assumption|omega|(simp only[LN]<;>omega))only[row_alloc,row_set];assumption))only[f73,W_block,P3,↓reduceIte,reduceAdd,reduceEqDiff,reduceCtorEq,initFr,reduceLT,clsA,reduceLeDiff,reduceMul,reduceSub,reduceIte]
 refine callK (t86 h i) ?_
 rintro _ X ⟨rfl,hX⟩
 rw[hX]
 by_cases ha:askD D i=0
 ·have ha1:=askD_ok ha
  have e0:((0:Int) != 0)=false:=rfl
  rw[if_pos ha]at hq1 hq2
  rw[ha]at hq1 hq2 ⊢
  have hio:=Sl.is h.so
  have hlo:lenS vo=D.op.length:=by have:=Sl.len h.so;simpa using this
  have hm:=h.ok.m
  have hw:IntKind.i64.wrap (((D.op.length:Nat):Int)-1)=((D.op.length:Nat):Int)-1:=wrap_i64 (by omega) (by omega)
  simp(disch:=first|assumption|omega|(simp only[LN]<;>omega)|(simp(disch:=first|assumption|omega|(simp only[LN]<;>omega))only[row_alloc,row_set];assumption))only[P3,↓reduceIte,reduceAdd,reduceEqDiff,reduceCtorEq,initFr,reduceLT,clsA,reduceLeDiff,reduceMul,reduceSub,reduceIte,e0,g,hlo,hw]
  rw[W_block]
  refine W_loop2 (fun n fr X=>∃x7 x8,fr=[ptr b 0,.int .i64 i,.string ByteArray.empty,.int .i64 0,.int .i64 0,.int .i64 ((n:Nat)-1:Int),.bool false,x7,x8]∧X=K∧lastW (D.op.drop n) i.toNat=none∧n≤D.op.length) D.op.length ⟨_,_,rfl,rfl,by simp[lastW],Nat.le_refl _⟩ ?_
  rintro Q' n fr X ⟨x7,x8,rfl,hXK,hl,hn1⟩ hn hx hret
  subst hXK
  cases n with
  |zero=>
   have e1:((0:Nat):Int)-1= -1:=rfl
   rw[e1]
   simp(disch:=first|assumption|omega|(simp only[LN]<;>omega)|(simp(disch:=first|assumption|omega|(simp only[LN]<;>omega))only[row_alloc,row_set];assumption))only[W_block,P3,↓reduceIte,reduceAdd,reduceEqDiff,reduceCtorEq,initFr,reduceLT,clsA,reduceLeDiff,reduceMul,reduceSub,reduceIte]
   refine hx 0 _ _ ?_
   obtain⟨na,ra⟩:=Sl.at_ h.sb (by omega) (i:=i.toNat) (by simpa using ha1.2.1)
   simp only[List.getElem_map]at ra
   have hlb:lenS vb=D.bl.length:=by have:=Sl.len h.sb;simpa using this
   have hd:i<((lenS vb:Nat):Int):=by omega
   simp(disch:=first|assumption|omega|(simp only[LN]<;>omega)|(simp(disch:=first|assumption|omega|(simp only[LN]<;>omega))only[row_alloc,row_set];assumption))only[W_block,P3,↓reduceIte,reduceAdd,reduceEqDiff,reduceCtorEq,initFr,reduceLT,clsA,reduceLeDiff,reduceMul,reduceSub,reduceIte,g,ra,na]
   simp only[List.drop_zero]at hl
   have e2:rdB D i.toNat=D.bl[i.toNat]:=by unfold rdB;rw[hl];simp[List.getD,List.getElem?_eq_getElem ha1.2.1]
   rw[e2]at hq2
   exact hq2 _ _ ⟨_,rfl,rfl,rfl⟩
  |succ n=>
   have hlt:n<D.op.length:=by omega
   obtain⟨na,ra⟩:=Sl.at_ h.so (by omega) (i:=n) (by simpa using hlt)
   have hlx:=lastW_hit hlt hl
   have hly:=lastW_miss hlt hl
   simp only[List.getElem_map,eR]at ra
   generalize hw':D.op[n]=w at*
   have e1:(((n+1:Nat):Nat):Int)-1=((n:Nat):Int):=by omega
   rw[e1]
   have h1:(0:Int)≤(n:Int):=by omega
   have h2:(n:Int)<((lenS vo:Nat):Int):=by rw[hlo];omega
   have hw2:IntKind.i64.wrap ((n:Int)-1)=(n:Int)-1:=wrap_i64 (by omega) (by omega)
   by_cases he:w.1=i.toNat
   ·have e3:(((w.1:Nat):Int)==i)=true:=beqi_yes (by omega)
    simp(disch:=first|assumption|omega|(simp only[LN]<;>omega)|(simp(disch:=first|assumption|omega|(simp only[LN]<;>omega))only[row_alloc,row_set];assumption))only[W_block,P3,↓reduceIte,reduceAdd,reduceEqDiff,reduceCtorEq,initFr,reduceLT,clsA,reduceLeDiff,reduceMul,reduceSub,reduceIte,g,ra,na,e3]
    have e2:rdB D i.toNat=w.2:=by unfold rdB;rw[hlx he];rfl
    rw[e2]at hq2
    exact hret _ _ (hq2 _ _ ⟨_,rfl,rfl,rfl⟩)
   ·have e3:(((w.1:Nat):Int)==i)=false:=beqi_no (by omega)
    simp(disch:=first|assumption|omega|(simp only[LN]<;>omega)|(simp(disch:=first|assumption|omega|(simp only[LN]<;>omega))only[row_alloc,row_set];assumption))only[W_block,P3,↓reduceIte,reduceAdd,reduceEqDiff,reduceCtorEq,initFr,reduceLT,clsA,reduceLeDiff,reduceMul,reduceSub,reduceIte,g,ra,na,e3,hw2]
    exact hn n _ _ ⟨_,_,rfl,rfl,hly he,by omega⟩ (by omega)
 ·have e0:(askD D i != 0)=true:=bnei_yes ha
  rw[if_neg ha]at hq1 hq2
  simp(disch:=first|assumption|omega|(simp only[LN]<;>omega)|(simp(disch:=first|assumption|omega|(simp only[LN]<;>omega))only[row_alloc,row_set];assumption))only[W_block,P3,↓reduceIte,reduceAdd,reduceEqDiff,reduceCtorEq,initFr,reduceLT,clsA,reduceLeDiff,reduceMul,reduceSub,reduceIte,e0]
  exact hq2 _ _ ⟨_,rfl,rfl,rfl⟩
end
end Go.AM.Fd

set_option linter.unusedSimpArgs false
set_option linter.unusedVariables false
namespace Go.AM.Fd
open Nat (reduceAdd reduceEqDiff reduceLT reduceLeDiff reduceMul reduceSub)
open Go.Proofs Go.AM.F
section
variable {K:AHeap} {b:Nat} {vb vo:Value} {inn:Int} {D:Dk}
theorem t22(h:EkR K b vb vo inn D){x:Value}{fs:List UInt8}(hx:BS K x fs)(hd:∀y∈tb x,y∉fp (ekT b vb vo inn D)):∃w K',ARun Go.Proofs.Tryz.prog 0 22 [ptr b 0,x] K w K'∧∃vo',EkR K' b vb vo' inn (onD D fs)∧Upd (ekT b vb vo inn D) (ekT b vb vo' inn (onD D fs)) K K':=by
 refine walk2 f22_ok f22_n ?_
 intro Q hq1 hq2
 have g:=h.g
 have lb:=h.lt
 have okn:=h.ok.on fs
 cases ho:D.off with
 |false=>
  rw[ho]at g
  have e:onD D fs=⟨D.bl,D.op,D.st,none,false⟩:=by unfold onD;rw[if_neg (by simp[ho])]
  rw[e]at hq2 okn
  simp(disch:=first|assumption|omega|(simp only[LN]<;>omega)|(simp(disch:=first|assumption|omega|(simp only[LN]<;>omega))only[row_alloc,row_set];assumption))only[f22,W_block,P3,↓reduceIte,reduceAdd,reduceEqDiff,reduceCtorEq,initFr,reduceLT,clsA,reduceLeDiff,reduceMul,reduceSub,reduceIte,g]
  have u:=h.cell (D':=⟨D.bl,D.op,D.st,none,false⟩) (inn':=inn) (Keeps.refl _) rfl rfl
  exact hq2 _ _ ⟨_,rfl,_,⟨u.sep,okn,fun n hn=>by cases hn⟩,u⟩
 |true=>
  rw[ho]at g
  simp(disch:=first|assumption|omega|(simp only[LN]<;>omega)|(simp(disch:=first|assumption|omega|(simp only[LN]<;>omega))only[row_alloc,row_set];assumption))only[f22,P3,↓reduceIte,reduceAdd,reduceEqDiff,reduceCtorEq,initFr,reduceLT,clsA,reduceLeDiff,reduceMul,reduceSub,reduceIte,g]
  rw[W_block]
  have u0:=h.cell (D':=⟨D.bl,D.op,D.st,none,false⟩) (inn':=inn) (Keeps.refl _) rfl rfl
  refine W_loop2 (fun k fr X=>∃i bl x3 x4 x6 x7 x8,fr=[ptr b 0,x,.int .i64 (i:Nat),x3,x4,.bool false,x6,x7,x8]∧Upd (ekT b vb vo inn D) (ekT b vb vo inn ⟨bl,D.op,D.st,none,false⟩) K X∧i≤D.op.length∧k=D.op.length-i∧
   onB bl fs (D.op.drop i) i=onB D.bl fs D.op 0∧(∀x∈bl,x.length=256)∧bl.length=D.bl.length) D.op.length ⟨0,D.bl,_,_,_,_,_,rfl,?_,by omega,rfl,by simp,h.ok.b,rfl⟩ ?_
  ·exact u0
  rintro Q' k fr X ⟨i,bl,x3,x4,x6,x7,x8,rfl,u,hi2,rfl,hon,hbl,hbn⟩ hn hx2 hret
  have okE:Dk.ok ⟨bl,D.op,D.st,none,false⟩:=⟨hbl,by simp only[hbn];exact h.ok.o,by simp only[hbn];exact h.ok.n,h.ok.m,h.ok.s,fun m hm=>by cases hm⟩
  have hX:EkR X b vb vo inn ⟨bl,D.op,D.st,none,false⟩:=⟨u.sep,okE,fun n hn=>by cases hn⟩
  have gX:=hX.g
  have bX:=hX.lt
  simp only[Option.isSome_none]at gX
  have hio:=Sl.is hX.so
  have hlo:lenS vo=D.op.length:=by have:=Sl.len hX.so;simpa using this
  by_cases hlt:i<D.op.length
  ·obtain⟨na,ra⟩:=Sl.at_ hX.so (by omega) (i:=i) (by simpa using hlt)
   have ow:=h.ok.o _ (List.getElem_mem hlt)
   simp only[List.getElem_map,eR]at ra
   have hdr:=List.drop_eq_getElem_cons hlt
   generalize hw:D.op[i]=w at*
   have hso:(sV w.2).oneCell'=true:=rfl
   have hxX:BS X x fs:=hx.chgT u.chg hd
   have hix:=hxX.isS
   have hlx:=hxX.lenS
   have h0:(0:Int)≤(i:Int):=by omega
   have h1:(i:Int)<((lenS vo:Nat):Int):=by omega
   have h3:(i:Int)<((D.op.length:Nat):Int):=by omega
   have hfv:[Value.int .i64 (w.1:Nat),sV w.2].length=2:=rfl
   have hov:[Value.int .i64 (w.1:Nat),sV w.2].all Value.oneCell'=true:=rfl
   simp(disch:=first|assumption|omega|(simp only[LN]<;>omega)|(simp(disch:=first|assumption|omega|(simp only[LN]<;>omega))only[row_alloc,row_set];assumption))only[W_block,P3,↓reduceIte,reduceAdd,reduceEqDiff,reduceCtorEq,initFr,reduceLT,clsA,reduceLeDiff,reduceMul,reduceSub,reduceIte,ra,na,gX,hlx,hlo,hov]
   obtain⟨X1,hX1⟩:∃Y,Y=X.alloc (.cells true false 2 [.int .i64 (w.1:Nat),sV w.2] 143):=⟨_,rfl⟩
   have kX1:Keeps X X1:=by rw[hX1];exact(Keeps.refl X).alloc _
   have n1:X1.n=X.n+1:=by rw[hX1];rfl
   have gw:X1.get X.n=some (.cells true false 2 [.int .i64 (w.1:Nat),sV w.2] 143):=by rw[hX1];exact AHeap.get_alloc_new X _
   have gb1:=kX1.at_ gX
   rw[←hX1]
   refine cond_mid (fun fr Y=>Y=X1∧∃y6 y7 y8,fr=[ptr b 0,x,.int .i64 (i:Nat),ptr X.n 0,.int .i64 ((fs.getD i 0).toNat:Nat),.bool false,y6,y7,y8]) ?_ ?_
   ·intro Q2 p1 p2 p3
    by_cases hif:i<fs.length
    ·obtain⟨nx,rx⟩:=Sl.at_ (hxX.keeps kX1).sl (by omega) (i:=i) (by simpa using hif)
     simp only[List.getElem_map]at rx
     have hg:fs.getD i 0=fs[i]:=by simp[List.getD,List.getElem?_eq_getElem hif]
     have hlt8:=fs[i].toNat_lt
     have hw:IntKind.i64.wrap ((fs[i].toNat:Nat):Int)=((fs[i].toNat:Nat):Int):=wrap_i64 (by omega) (by omega)
     have d1:(i:Int)<(fs.length:Nat):=by omega
     have d2:(i:Int)<((lenS x:Nat):Int):=by omega
     simp(disch:=first|assumption|omega|(simp only[LN]<;>omega)|(simp(disch:=first|assumption|omega|(simp only[LN]<;>omega))only[row_alloc,row_set];assumption))only[W_block,P3,↓reduceIte,reduceAdd,reduceEqDiff,reduceCtorEq,initFr,reduceLT,clsA,reduceLeDiff,reduceMul,reduceSub,reduceIte,rx,nx,hw]
     exact p1 _ _ ⟨rfl,_,_,_,by rw[hg]⟩
    ·have hg:fs.getD i 0=0:=by simp[List.getD,List.getElem?_eq_none (Nat.le_of_not_lt hif)]
     have d1:¬(i:Int)<(fs.length:Nat):=by omega
     simp(disch:=first|assumption|omega|(simp only[LN]<;>omega)|(simp(disch:=first|assumption|omega|(simp only[LN]<;>omega))only[row_alloc,row_set];assumption))only[W_block,P3,↓reduceIte,reduceAdd,reduceEqDiff,reduceCtorEq,initFr,reduceLT,clsA,reduceLeDiff,reduceMul,reduceSub,reduceIte]
     exact p1 _ _ ⟨rfl,_,_,_,by rw[hg];rfl⟩
   rintro _ Y ⟨hY,y6,y7,y8,rfl⟩
   rw[hY]
   simp(disch:=first|assumption|omega|(simp only[LN]<;>omega)|(simp(disch:=first|assumption|omega|(simp only[LN]<;>omega))only[row_alloc,row_set];assumption))only[P3,↓reduceIte,reduceAdd,reduceEqDiff,reduceCtorEq,initFr,reduceLT,clsA,reduceLeDiff,reduceMul,reduceSub,reduceIte]
   have hfa:=fateN_le fs i
   refine cond_mid (fun fr Y=>Y=X1∧∃y6 y7 y8,fr=[ptr b 0,x,.int .i64 (i:Nat),ptr X.n 0,.int .i64 (fateN fs i:Nat),.bool false,y6,y7,y8]) ?_ ?_
   ·intro Q2 p1 p2 p3
    unfold fateN at*
    by_cases hif:(fs.getD i 0).toNat=255
    ·have d1:((((fs.getD i 0).toNat:Nat):Int)==255)=true:=by rw[hif];rfl
     rw[d1]
     rw[if_pos hif]at p1
     simp(disch:=first|assumption|omega|(simp only[LN]<;>omega)|(simp(disch:=first|assumption|omega|(simp only[LN]<;>omega))only[row_alloc,row_set];assumption))only[W_block,P3,↓reduceIte,reduceAdd,reduceEqDiff,reduceCtorEq,initFr,reduceLT,clsA,reduceLeDiff,reduceMul,reduceSub,reduceIte]
     exact p1 _ _ ⟨rfl,_,_,_,rfl⟩
    ·have d1:((((fs.getD i 0).toNat:Nat):Int)==255)=false:=beqi_no (by omega)
     rw[d1]
     rw[if_neg hif]at p1
     simp(disch:=first|assumption|omega|(simp only[LN]<;>omega)|(simp(disch:=first|assumption|omega|(simp only[LN]<;>omega))only[row_alloc,row_set];assumption))only[W_block,P3,↓reduceIte,reduceAdd,reduceEqDiff,reduceCtorEq,initFr,reduceLT,clsA,reduceLeDiff,reduceMul,reduceSub,reduceIte]
     exact p1 _ _ ⟨rfl,_,_,_,rfl⟩
   rintro _ Y ⟨hY,z6,z7,z8,rfl⟩
   rw[hY]
   have hwb:w.1<bl.length:=by rw[hbn];exact ow.1
   have hgd:bl.getD w.1 []=bl[w.1]:=by simp[List.getD,List.getElem?_eq_getElem hwb]
   have hbw:=hbl _ (List.getElem_mem hwb)
   obtain⟨x',hx'⟩:∃y,y=w.2.take (fateN fs i)++(bl.getD w.1 []).drop (fateN fs i):=⟨_,rfl⟩
   obtain⟨q,room,hvb,gq,uq⟩:=hX.blk (i:=w.1) (s:=x') hwb
   have uq:=uq X1 kX1
   have gq1:=kX1.at_ gq
   have lq:=AHeap.get_lt gq1
   subst hvb
   simp only at gq1 uq gb1
   have hj:(0:Int)≤(w.1:Nat)∧((w.1:Nat):Int)<((bl.length:Nat):Int):=by omega
   have gc:cellO (some (.cells true room 1 (bl.map sV) 9)) w.1=some (sV bl[w.1]):=by
    rw[cellO_c,List.getElem?_map,List.getElem?_eq_getElem hwb];rfl
   have hsl:w.1<(bl.map sV).length:=by simpa using hwb
   have s1:asem (.slstr (sV w.2) none (some (.int .i64 (fateN fs i:Nat)))) X1=some (.string ⟨(w.2.take (fateN fs i)).toArray⟩,X1):=a_slsP (by rw[ow.2];exact hfa)
   have s2:asem (.slstr (sV bl[w.1]) (some (.int .i64 (fateN fs i:Nat))) none) X1=some (.string ⟨(bl[w.1].drop (fateN fs i)).toArray⟩,X1):=a_slsT (by rw[hbw];exact hfa)
   have s3:binA .add (.string ⟨(w.2.take (fateN fs i)).toArray⟩) (.string ⟨(bl[w.1].drop (fateN fs i)).toArray⟩)=some (.string ⟨x'.toArray⟩):=by
    rw[hx',hgd]
    exact b_addS (by rw[List.length_take,List.length_drop,ow.2,hbw];omega)
   have hww:IntKind.i64.wrap ((i:Int)+1)=((i+1:Nat):Int):=by have:=h.ok.m;rw[wrap_i64 (by omega) (by omega)];simp
   simp(disch:=first|assumption|omega|(simp only[LN]<;>omega)|(simp(disch:=first|assumption|omega|(simp only[LN]<;>omega))only[row_alloc,row_set];assumption))only[W_block,P3,↓reduceIte,reduceAdd,reduceEqDiff,reduceCtorEq,initFr,reduceLT,clsA,reduceLeDiff,reduceMul,reduceSub,reduceIte,gb1,gw,gq1,gc,s1,s2,s3,hww]
   refine hn _ _ _ ⟨i+1,bl.set w.1 x',_,_,_,_,_,rfl,u.trans uq,by omega,rfl,?_,?_,by rw[List.length_set];exact hbn⟩ (by omega)
   ·rw[←hon,hdr,onB,hx']
   ·intro y hy
    rcases mem_set hy with hy|rfl
    ·exact hbl y hy
    ·rw[hx',List.length_append,List.length_take,List.length_drop,ow.2,hgd,hbw];omega
  ·have h3:¬(i:Int)<((D.op.length:Nat):Int):=by omega
   simp(disch:=first|assumption|omega|(simp only[LN]<;>omega)|(simp(disch:=first|assumption|omega|(simp only[LN]<;>omega))only[row_alloc,row_set];assumption))only[W_block,P3,↓reduceIte,reduceAdd,reduceEqDiff,reduceCtorEq,initFr,reduceLT,clsA,reduceLeDiff,reduceMul,reduceSub,reduceIte,gX,hlo]
   refine hx2 0 _ _ ?_
   rw[List.drop_of_length_le (by omega),onB]at hon
   simp(disch:=first|assumption|omega|(simp only[LN]<;>omega)|(simp(disch:=first|assumption|omega|(simp only[LN]<;>omega))only[row_alloc,row_set];assumption))only[W_block,P3,↓reduceIte,reduceAdd,reduceEqDiff,reduceCtorEq,initFr,reduceLT,clsA,reduceLeDiff,reduceMul,reduceSub,reduceIte,gX]
   have e:onD D fs=⟨bl,[],D.st,none,false⟩:=by unfold onD;rw[if_pos ho,←hon]
   rw[e]at hq1 okn
   have u2:=hX.opn (D':=⟨bl,[],D.st,none,false⟩) (inn':=inn) (Chg.refl _ _) rfl (.inl ⟨rfl,rfl,rfl⟩) (by simp[blkL,blk])
   exact hq1 _ _ ⟨_,rfl,_,⟨u2.sep,okn,fun n hn=>by cases hn⟩,u.trans u2⟩
theorem padB_nil:padB []=zB:=by unfold padB zB;rw[List.nil_append];rfl
theorem t12(K:AHeap)(n:Int):∃w K',ARun Go.Proofs.Tryz.prog 0 12 [.int .i64 n] K w K'∧Keeps K K'∧∃b vb,w=ptr b 0∧EkR K' b vb (.slice none 0 0) 0 (newD n)∧∀y∈fp (ekT b vb (.slice none 0 0) 0 (newD n)),K.n≤y:=by
 refine walk2 f12_ok f12_n ?_
 intro Q hq1 hq2
 obtain⟨m,hm⟩:∃m:Nat,m=(min n 4096).toNat:=⟨_,rfl⟩
 have hnew:newD n=⟨List.replicate m zB,[],0,none,false⟩:=by rw[newD,hm]
 simp(disch:=first|assumption|omega|(simp only[LN]<;>omega)|(simp(disch:=first|assumption|omega|(simp only[LN]<;>omega))only[row_alloc,row_set];assumption))only[f12,P3,↓reduceIte,reduceAdd,reduceEqDiff,reduceCtorEq,initFr,reduceLT,clsA,reduceLeDiff,reduceMul,reduceSub,reduceIte]
 rw[W_block]
 have okD:∀j,j≤m→Dk.ok ⟨List.replicate j zB,[],0,none,false⟩:=fun j hj=>⟨fun x hx=>by rw[List.eq_of_mem_replicate hx];exact zB_len,by simp,by simp only[List.length_replicate];omega,by simp,by simp,by simp⟩
 have k0:Keeps K (K.alloc (.cells true false 6 [.slice none 0 0,.slice none 0 0,.int .i64 0,.bool false,.int .i64 0,.bool false] 111)):=(Keeps.refl K).alloc _
 have s0:EkR (K.alloc (.cells true false 6 [.slice none 0 0,.slice none 0 0,.int .i64 0,.bool false,.int .i64 0,.bool false] 111)) K.n (.slice none 0 0) (.slice none 0 0) 0 ⟨List.replicate 0 zB,[],0,none,false⟩:=by
  refine⟨⟨fun t ht=>?_,?_⟩,okD 0 (by omega),fun n hn=>by cases hn⟩
  ·simp only[ekT,List.mem_cons,List.not_mem_nil,or_false]at ht
   rcases ht with rfl|rfl|rfl
   ·exact AHeap.get_alloc_new K _
   ·exact .inl ⟨rfl,rfl,rfl⟩
   ·exact .inl ⟨rfl,rfl,rfl⟩
  ·simp[ekT,thB,thA,Apart,blkL,blk]
 refine W_loop2 (fun k fr X=>∃j vb x1 x4,fr=[.int .i64 n,x1,ptr K.n 0,.int .i64 (j:Nat),x4]∧EkR X K.n vb (.slice none 0 0) 0 ⟨List.replicate j zB,[],0,none,false⟩∧Keeps K X∧(∀y∈blkL vb,K.n≤y)∧j≤m∧k=m-j) m
  ⟨0,_,_,_,rfl,s0,k0,by simp[blkL,blk],by omega,by omega⟩ ?_
 rintro Q' k fr X ⟨j,vb,x1,x4,rfl,hX,kX,hf,hj,rfl⟩ hn hx hret
 have gX:=hX.g
 have bX:=hX.lt
 simp only[Option.isSome_none]at gX
 by_cases hlt:j<m
 ·have d1:(j:Int)<n:=by omega
  have d2:(j:Int)<4096:=by omega
  simp(disch:=first|assumption|omega|(simp only[LN]<;>omega)|(simp(disch:=first|assumption|omega|(simp only[LN]<;>omega))only[row_alloc,row_set];assumption))only[W_block,P3,↓reduceIte,reduceAdd,reduceEqDiff,reduceCtorEq,initFr,reduceLT,clsA,reduceLeDiff,reduceMul,reduceSub,reduceIte,gX]
  refine callK (t64 X [] (by simp)) ?_
  rintro _ X2 ⟨rfl,hX2⟩
  rw[hX2,padB_nil]
  have hf1:∀s:ByteArray,fillA [.string ByteArray.empty] [(0,1,.string s)]=some [.string s]:=fun s=>rfl
  simp(disch:=first|assumption|omega|(simp only[LN]<;>omega)|(simp(disch:=first|assumption|omega|(simp only[LN]<;>omega))only[row_alloc,row_set];assumption))only[W_block,P3,↓reduceIte,reduceAdd,reduceEqDiff,reduceCtorEq,initFr,reduceLT,clsA,reduceLeDiff,reduceMul,reduceSub,reduceIte,gX,hf1]
  refine⟨by simp,?_⟩
  have kk:=(Keeps.refl X).alloc (.cells true false 1 [.string ⟨zB.toArray⟩] 9)
  have hbb:=hX.bb
  refine appGD (hbb.keeps kk) ⟨_,_,rfl⟩ (elems_new (n:=1) rfl rfl) rfl (by simp only[List.length_replicate];omega) ?_
  rintro v' K3 hap hch hbl
  generalize X.alloc (.cells true false 1 [.string ⟨zB.toArray⟩] 9)=X2 at*
  have c3:Chg (blkL vb) X K3:=(kk.chg _).trans hch (fun x hx=>.inl hx)
  have g3:=c3.at_ gX hX.bn
  have b3:=AHeap.get_lt g3
  obtain⟨av,hav⟩:=hap.shape
  have o3:v'.oneCell'=true:=by rw[hav];rfl
  have hww:IntKind.i64.wrap ((j:Int)+1)=((j+1:Nat):Int):=by rw[wrap_i64 (by omega) (by omega)];simp
  simp(disch:=first|assumption|omega|(simp only[LN]<;>omega)|(simp(disch:=first|assumption|omega|(simp only[LN]<;>omega))only[row_alloc,row_set];assumption))only[W_block,P3,↓reduceIte,reduceAdd,reduceEqDiff,reduceCtorEq,initFr,reduceLT,clsA,reduceLeDiff,reduceMul,reduceSub,reduceIte,g3,o3,hww]
  have hF:∀y∈blkL v',y∈blkL vb∨X.n≤y:=fun y hy=>by
   rcases hbl with h1|h1
   ·exact .inl (by rw[mem_blkL]at hy ⊢;rw[←h1];exact hy)
   ·rw[mem_blkL,h1]at hy
    cases hy
    exact .inr kk.n
  have u:=hX.bls (D':=⟨List.replicate (j+1) zB,[],0,none,false⟩) (inn':=0) c3 rfl (by
   simp only[List.length_replicate]at hap
   simp only[List.length_replicate]
   rw[List.replicate_succ',List.map_append]
   exact hap) hF
  refine hn _ _ _ ⟨j+1,v',_,_,rfl,⟨u.sep,okD _ (by omega),fun n hn=>by cases hn⟩,kX.chg_trans u.chg fun y hy=>?_,fun y hy=>?_,by omega,rfl⟩ (by omega)
  ·obtain⟨t,ht,h1⟩:=mem_fp.1 hy
   simp only[ekT,List.mem_cons,List.not_mem_nil,or_false]at ht
   rcases ht with rfl|rfl|rfl
   ·simp[thB]at h1;omega
   ·exact hf y h1
   ·simp[thA,blkL,blk]at h1
  ·rcases hF y hy with h1|h1
   ·exact hf y h1
   ·exact Nat.le_trans kX.n h1
 ·have hjm:j=m:=by omega
  subst hjm
  have fin:Q .ret [.int .i64 n,ptr K.n 0,ptr K.n 0,.int .i64 (j:Nat),.bool false] X:=by
   rw[hnew]at hq2
   refine hq2 _ _ ⟨_,rfl,kX,_,_,rfl,hX,fun y hy=>?_⟩
   obtain⟨t,ht,h1⟩:=mem_fp.1 hy
   simp only[ekT,List.mem_cons,List.not_mem_nil,or_false]at ht
   rcases ht with rfl|rfl|rfl
   ·simp[thB]at h1;omega
   ·exact hf y h1
   ·simp[thA,blkL,blk]at h1
  by_cases hn1:(j:Int)<n
  ·have d2:¬(j:Int)<4096:=by omega
   simp(disch:=first|assumption|omega|(simp only[LN]<;>omega)|(simp(disch:=first|assumption|omega|(simp only[LN]<;>omega))only[row_alloc,row_set];assumption))only[W_block,P3,↓reduceIte,reduceAdd,reduceEqDiff,reduceCtorEq,initFr,reduceLT,clsA,reduceLeDiff,reduceMul,reduceSub,reduceIte]
   refine hx 0 _ _ ?_
   simp(disch:=first|assumption|omega|(simp only[LN]<;>omega)|(simp(disch:=first|assumption|omega|(simp only[LN]<;>omega))only[row_alloc,row_set];assumption))only[W_block,P3,↓reduceIte,reduceAdd,reduceEqDiff,reduceCtorEq,initFr,reduceLT,clsA,reduceLeDiff,reduceMul,reduceSub,reduceIte]
   exact fin
  ·simp(disch:=first|assumption|omega|(simp only[LN]<;>omega)|(simp(disch:=first|assumption|omega|(simp only[LN]<;>omega))only[row_alloc,row_set];assumption))only[W_block,P3,↓reduceIte,reduceAdd,reduceEqDiff,reduceCtorEq,initFr,reduceLT,clsA,reduceLeDiff,reduceMul,reduceSub,reduceIte]
   refine hx 0 _ _ ?_
   simp(disch:=first|assumption|omega|(simp only[LN]<;>omega)|(simp(disch:=first|assumption|omega|(simp only[LN]<;>omega))only[row_alloc,row_set];assumption))only[W_block,P3,↓reduceIte,reduceAdd,reduceEqDiff,reduceCtorEq,initFr,reduceLT,clsA,reduceLeDiff,reduceMul,reduceSub,reduceIte]
   exact fin
end
end Go.AM.Fd

set_option linter.unusedSimpArgs false
set_option linter.unusedVariables false
namespace Go.AM
namespace Cn
variable {P:Program} {ng:Nat}
theorem arun_extH{H:AHeap}{f:FuncId}{fn:Func}{e:Array Value→Sem Value}(hf:P.funcs[f]? =some fn)(hname:(fn.name== "runtime.NumGoroutine")=false)(hb:fn.body.isNone=true)(hn:Extern.findNext fn=none)(he:Extern.find fn=some e)
 {args:List Value} {v:Value} (hv:∀σ,VR σ v v) (h:∀σ w args',HR ng σ H.get w→VL σ args args'→(e args'.toArray).run P w=.ok v w):ARun P ng f args H v H:=by
 refine⟨⟨fn,hf⟩,Nat.le_refl _,fun σ w args' hr ha=>?_⟩
 refine .ext v w ?_ ⟨v,σ,rfl,hr,Ext.refl _ _ _ _,hv σ⟩
 rw[run_callFunc_extern hf hname hb hn he,h σ w args' hr ha]
 rfl
theorem run_lbytes{w:World}:∀(zs:List Int) (a:Addr) (acc:ByteArray),(∀(j:Nat) (v:Value),(zs.map (Value.int .u8))[j]? =some v→w.cell? (a.add j)=some v)→
 (Extern.Bytes.loadBytes a zs.length acc).run P w=.ok (zs.foldl (fun r n=>r.push (UInt8.ofNat n.toNat)) acc) w
 |[],a,acc,_=>by simp[Extern.Bytes.loadBytes]
 |z::zs,a,acc,h=>by
  have h0:w.cell? a=some (.int .u8 z):=by
   have:=h 0 _ rfl
   simpa[Addr.add]using this
  have ih:=run_lbytes zs (a.add 1) (acc.push z.toNat.toUInt8) (fun j v hv=>by
   have:=h (j+1) v (by simpa using hv)
   have e:(a.add 1).add j=a.add (j+1):=by
    unfold Addr.add
    by_cases hj:j=0
    ·subst hj;simp
    ·simp[hj];omega
   rw[e];exact this)
  simp only[List.length_cons,Extern.Bytes.loadBytes,Sem.run_bind,run_load,h0,Result.andThen]
  exact ih
theorem run_count_slice{σ:Sg}{H:AHeap}{w:World}(hr:HR ng σ H.get w){a a':Value}(ha:VR σ a a'){c:List Value}{l:List UInt8}(hel:elemsA H 1 a=some c)(hb:bytesOf c=some l)(ch:Int):
 (Extern.BytealgCount.count #[a',.int .u8 ch]).run P w=.ok (.int .i64 ((cB ch.toNat.toUInt8 l:Nat):Int)) w:=by
 have key:(Extern.Bytes.bytesOf a').run P w=.ok ⟨l.toArray⟩ w:=by
  obtain⟨zs,rfl,rfl⟩:=bytesOf_some hb
  obtain⟨x',n,k',l',rfl,_,e3,e4,_,e6⟩:=elemsA_sound hr ha hel
  have:=VL.ints_inv e3
  subst this
  rw[Nat.mul_one]at e4
  rcases e6 with⟨rfl,rfl⟩|⟨ad,rfl,hc⟩
  ·have:zs=[]:=List.eq_nil_of_length_eq_zero (by simpa using e4)
   subst this
   rfl
  ·have h2:=run_lbytes (P:=P) zs ad .empty hc
   rw[foldl_push_bytes]at h2
   have e:n=zs.length:=by simpa using e4.symm
   subst e
   exact h2.trans (by simp)
 change Sem.run P (do
  let b ←Extern.Bytes.bytesOf a'
  let c' ←Extern.Bytes.asByte (.int .u8 ch)
  pure (goInt (b.foldl (fun n x=>if x==c' then n+1 else n) ((0:Nat):Int)))) w=_
 simp only[Extern.Bytes.asByte,Sem.run_bind,key,Sem.run_pure,Result.andThen_ok,bfold,cB_fold]
 simp[goInt]
end Cn
end Go.AM

set_option linter.unusedSimpArgs false
set_option linter.unusedVariables false
namespace Go.AM.Fd
open Nat (reduceAdd reduceEqDiff reduceLT reduceLeDiff reduceMul reduceSub)
open Go.Proofs Go.AM.F
def WRr(H:AHeap)(e esz:Nat)(v:Value)(rows:List (List Value)):Prop:=WR H e esz v rows.length rows.flatten∧∀r∈rows,r.length=esz
theorem WRr.sl{H:AHeap}{e esz:Nat}{v:Value}{rows:List (List Value)}(h:WRr H e esz v rows):Sl H esz v rows:=h.1.sl h.2 rfl
theorem t168(H:AHeap)(n:Nat)(hn:n≤1000000):∃w H',ARun Go.Proofs.Tryz.prog 0 168 [.slice none 0 0,.int .i64 (n:Nat)] H w H'∧WR H' 5 1 w 0 []∧Keeps H H'∧Fresh H.n w:=by
 refine walk2 f168_ok f168_n ?_
 intro Q hq1 hq2
 have h0:¬((n:Nat):Int)<0:=by omega
 have hw0:IntKind.i64.wrap (0-((0:Nat):Int))=0:=rfl
 have hw:IntKind.i64.wrap ((n:Int)-0)=(n:Nat):=by rw[wrap_i64 (by omega) (by omega)];omega
 have hs:=a_slsl_nil (H:=H) (esz:=1) (lo:=none) (hi:=some (.int .i64 0)) (mx:=none) ⟨0,0,0,bnd_none 0 0,bnd_some .i64 0 0 0 (Nat.le_refl _),bnd_none 0 0⟩
 by_cases hz:n=0
 ·subst hz
  have h1:¬(0:Int)<((0:Nat):Int):=by omega
  simp(disch:=first|assumption|omega|(simp only[LN]<;>omega)|(simp(disch:=first|assumption|omega|(simp only[LN]<;>omega))only[row_alloc,row_set];assumption))only[f168,W_block,P3,↓reduceIte,reduceAdd,reduceEqDiff,reduceCtorEq,initFr,reduceLT,clsA,reduceLeDiff,reduceMul,reduceSub,reduceIte,st_cap,st_appz,hw0,hw,a_cap0,lenS]
  exact hq2 _ _ ⟨.slice none 0 0,rfl,.inl ⟨rfl,rfl,rfl⟩,Keeps.refl _,fun b hb=>by cases hb⟩
 ·have h1:(0:Int)<((n:Nat):Int):=by omega
  have hlen:(List.replicate n [Value.int .u8 0]).flatten.length=n*1:=by simp
  have ha:asem (.appz 5 1 1 [Value.int .u8 0] (.slice none 0 0) (.int .i64 (n:Nat))) H=some (slc H.n 0 n n,H.alloc (.cells true true 1 (List.replicate n [Value.int .u8 0]).flatten 5)):=by
   simp only[asem,Int.toNat_natCast,appA,if_neg hz]
   rw[if_pos (by omega)]
   simp only[and_self,if_true]
   rw[if_pos (by omega)]
  have hs2:=a_slsl (AHeap.get_alloc_new H (.cells true true 1 (List.replicate n [Value.int .u8 0]).flatten 5)) (o:=0) (n:=n) (k:=n) (lo:=none) (hi:=some (.int .i64 (0:Nat))) (mx:=none) (bnd_none _ _) (bnd_some .i64 0 n n (by omega)) (bnd_none 0 0)
  simp only[slc]at ha hs2
  simp(disch:=first|assumption|omega|(simp only[LN]<;>omega)|(simp(disch:=first|assumption|omega|(simp only[LN]<;>omega))only[row_alloc,row_set];assumption))only[f168,W_block,P3,↓reduceIte,reduceAdd,reduceEqDiff,reduceCtorEq,initFr,reduceLT,clsA,reduceLeDiff,reduceMul,reduceSub,reduceIte,st_cap,st_appz,hw0,hw,a_cap0,lenS,hs,ha,hs2]
  exact hq2 _ _ ⟨slc H.n 0 0 n,rfl,.inr ⟨H.n,n,true,_,rfl,Nat.zero_le _,hlen,by simp,AHeap.get_alloc_new H _⟩,(Keeps.refl H).alloc _,fun b hb=>by cases hb;exact Nat.le_refl _⟩
theorem t156{H:AHeap}{V:Value}{vs:List (Value×List (List Value))}(hV:Sl H 1 V (vs.map fun x=>[x.1]))(hx:∀x∈vs,Sl H 1 x.1 x.2)(hl:vs.length≤1000)(hT:(vs.map (·.2.length)).sum≤1000000):
 ∃w H',ARun Go.Proofs.Tryz.prog 0 156 [V] H w H'∧WRr H' 5 1 w (vs.map (·.2)).flatten∧Keeps H H'∧Fresh H.n w:=by
 refine walk2 f156_ok f156_n ?_
 intro Q hq1 hq2
 have iV:=Sl.is hV
 have lV:lenS V=vs.length:=by have:=Sl.len hV;simpa using this
 have el:∀{i:Nat} (hi:i<vs.length) {K:AHeap},Keeps H K→nnS V=true∧rowA K 1 V i=some [vs[i].1]:=fun{i} hi {K} k=>by
  have:=Sl.at_ (hV.keeps k) (by omega) (i:=i) (by simpa using hi)
  simpa using this
 have tk:∀{i:Nat} (hi:i<vs.length),((vs.take (i+1)).map (·.2.length)).sum=((vs.take i).map (·.2.length)).sum+vs[i].2.length:=fun{i} hi=>by
  rw[List.take_succ_eq_append_getElem hi,List.map_append,List.sum_append];simp
 have tle:∀i,((vs.take i).map (·.2.length)).sum≤1000000:=fun i=>by
  have:vs=vs.take i++vs.drop i:=(List.take_append_drop i vs).symm
  rw[this,List.map_append,List.sum_append]at hT;omega
 simp(disch:=first|assumption|omega|(simp only[LN]<;>omega)|(simp(disch:=first|assumption|omega|(simp only[LN]<;>omega))only[row_alloc,row_set];assumption))only[f156,P3,↓reduceIte,reduceAdd,reduceEqDiff,reduceCtorEq,initFr,reduceLT,clsA,reduceLeDiff,reduceMul,reduceSub,reduceIte,lV]
 rw[W_block]
 refine W_loop2 (fun k fr K=>∃i x3 x9 x10,fr=[V,.slice none 0 0,.int .i64 (((vs.take i).map (·.2.length)).sum:Nat),x3,undef,undef,V,.int .i64 ((vs.length:Nat):Int),.int .i64 ((i:Nat):Int),x9,x10,undef,undef,undef,undef]∧K=H∧i≤vs.length∧k=vs.length-i) vs.length
  ⟨0,_,_,_,rfl,rfl,by omega,rfl⟩ ?_
 rintro Q' k fr K0 ⟨i,x3,x9,x10,rfl,rfl,hi,rfl⟩ hn hx1 hret
 by_cases hlt:i<vs.length
 ·obtain⟨na,ra⟩:=el hlt (Keeps.refl _)
  have h0:(0:Int)≤(i:Int):=by omega
  have h1:(i:Int)<((vs.length:Nat):Int):=by omega
  have hw:IntKind.i64.wrap ((i:Int)+1)=((i+1:Nat):Int):=by rw[wrap_i64 (by omega) (by omega)];simp
  have lx:lenS vs[i].1 =vs[i].2.length:=Sl.len (hx _ (List.getElem_mem _))
  have ix:=Sl.is (hx _ (List.getElem_mem hlt))
  have hs:IntKind.i64.wrap ((((vs.take i).map (·.2.length)).sum:Nat)+(vs[i].2.length:Nat):Int)=((((vs.take (i+1)).map (·.2.length)).sum:Nat):Int):=by
   have:=tle (i+1);have:=tk hlt
   rw[wrap_i64 (by omega) (by omega)];omega
  have hneg:¬((((vs.take (i+1)).map (·.2.length)).sum:Nat):Int)<0:=by omega
  simp(disch:=first|assumption|omega|(simp only[LN]<;>omega)|(simp(disch:=first|assumption|omega|(simp only[LN]<;>omega))only[row_alloc,row_set];assumption))only[W_block,P3,↓reduceIte,reduceAdd,reduceEqDiff,reduceCtorEq,initFr,reduceLT,clsA,reduceLeDiff,reduceMul,reduceSub,reduceIte,lV,ra,na,a_load1v,hw,lx,hs]
  exact hn _ _ _ ⟨i+1,_,_,_,rfl,rfl,by omega,rfl⟩ (by omega)
 ·have h1:¬(i:Int)<((vs.length:Nat):Int):=by omega
  have:i=vs.length:=by omega
  subst this
  simp(disch:=first|assumption|omega|(simp only[LN]<;>omega)|(simp(disch:=first|assumption|omega|(simp only[LN]<;>omega))only[row_alloc,row_set];assumption))only[W_block,P3,↓reduceIte,reduceAdd,reduceEqDiff,reduceCtorEq,initFr,reduceLT,clsA,reduceLeDiff,reduceMul,reduceSub,reduceIte,lV]
  refine hx1 0 _ _ ?_
  simp(disch:=first|assumption|omega|(simp only[LN]<;>omega)|(simp(disch:=first|assumption|omega|(simp only[LN]<;>omega))only[row_alloc,row_set];assumption))only[P3,↓reduceIte,reduceAdd,reduceEqDiff,reduceCtorEq,initFr,reduceLT,clsA,reduceLeDiff,reduceMul,reduceSub,reduceIte]
  refine callK (t168 _ _ (tle _)) ?_
  rintro w K ⟨wr,kk,fw⟩
  simp(disch:=first|assumption|omega|(simp only[LN]<;>omega)|(simp(disch:=first|assumption|omega|(simp only[LN]<;>omega))only[row_alloc,row_set];assumption))only[P3,↓reduceIte,reduceAdd,reduceEqDiff,reduceCtorEq,initFr,reduceLT,clsA,reduceLeDiff,reduceMul,reduceSub,reduceIte,lV]
  rw[W_block]
  refine W_loop2 (fun k fr M=>∃i w x3 x5 x9 x10 x14,fr=[V,.slice none 0 0,.int .i64 (((vs.take vs.length).map (·.2.length)).sum:Nat),x3,w,x5,V,.int .i64 ((vs.length:Nat):Int),.int .i64 ((vs.length:Nat):Int),x9,x10,V,.int .i64 ((vs.length:Nat):Int),.int .i64 ((i:Nat):Int),x14]∧
   WR M 5 1 w ((vs.take i).map (·.2.length)).sum ((vs.take i).map (·.2)).flatten.flatten∧Keeps K0 M∧Fresh K0.n w∧i≤vs.length∧k=vs.length-i) vs.length
   ⟨0,w,_,_,_,_,_,rfl,wr,kk,fw,by omega,rfl⟩ ?_
  clear wr kk fw w K
  rintro Q2 k fr M ⟨i,w,x3,x5,x9,x10,x14,rfl,wr,kk,fw,hi,rfl⟩ hn2 hx2 hret2
  by_cases hlt:i<vs.length
  ·obtain⟨na,ra⟩:=el hlt kk
   have h0:(0:Int)≤(i:Int):=by omega
   have h1:(i:Int)<((vs.length:Nat):Int):=by omega
   have hw:IntKind.i64.wrap ((i:Int)+1)=((i+1:Nat):Int):=by rw[wrap_i64 (by omega) (by omega)];simp
   have sx:=(hx _ (List.getElem_mem hlt)).keeps kk
   have iw:=wr.is
   have t1:=tk hlt
   have t2:=tle (i+1)
   simp(disch:=first|assumption|omega|(simp only[LN]<;>omega)|(simp(disch:=first|assumption|omega|(simp only[LN]<;>omega))only[row_alloc,row_set];assumption))only[W_block,P3,↓reduceIte,reduceAdd,reduceEqDiff,reduceCtorEq,initFr,reduceLT,clsA,reduceLeDiff,reduceMul,reduceSub,reduceIte,lV,ra,na,a_load1v]
   refine wr.appR (bytes:=1) sx.sh sx.el (flat_len sx.row) (by omega) ?_
   intro w' M' wr' c' hb'
   simp(disch:=first|assumption|omega|(simp only[LN]<;>omega)|(simp(disch:=first|assumption|omega|(simp only[LN]<;>omega))only[row_alloc,row_set];assumption))only[W_block,P3,↓reduceIte,reduceAdd,reduceEqDiff,reduceCtorEq,initFr,reduceLT,clsA,reduceLeDiff,reduceMul,reduceSub,reduceIte,hw]
   refine hn2 _ _ _ ⟨i+1,w',_,_,_,_,_,rfl,?_,kk.chg_trans c' (fun x hx=>fw x (mem_blkL.1 hx)),fun b hb=>?_,by omega,rfl⟩ (by omega)
   ·rw[t1]
    have e:((vs.take (i+1)).map (·.2)).flatten.flatten=((vs.take i).map (·.2)).flatten.flatten++vs[i].2.flatten:=by
     rw[List.take_succ_eq_append_getElem hlt,List.map_append,List.flatten_append,List.flatten_append];simp
    rw[e];exact wr'
   ·rcases hb' with e|e
    ·exact fw b (by rw[←e];exact hb)
    ·rw[e]at hb;cases hb;exact kk.n
  ·have h1:¬(i:Int)<((vs.length:Nat):Int):=by omega
   have:i=vs.length:=by omega
   subst this
   simp(disch:=first|assumption|omega|(simp only[LN]<;>omega)|(simp(disch:=first|assumption|omega|(simp only[LN]<;>omega))only[row_alloc,row_set];assumption))only[W_block,P3,↓reduceIte,reduceAdd,reduceEqDiff,reduceCtorEq,initFr,reduceLT,clsA,reduceLeDiff,reduceMul,reduceSub,reduceIte,lV]
   refine hx2 2 _ _ ?_
   simp(disch:=first|assumption|omega|(simp only[LN]<;>omega)|(simp(disch:=first|assumption|omega|(simp only[LN]<;>omega))only[row_alloc,row_set];assumption))only[W_block,P3,↓reduceIte,reduceAdd,reduceEqDiff,reduceCtorEq,initFr,reduceLT,clsA,reduceLeDiff,reduceMul,reduceSub,reduceIte]
   refine hq2 _ _ ⟨_,rfl,?_,kk,fw⟩
   rw[List.take_length]at wr
   refine⟨?_,fun r hr=>?_⟩
   ·have e:(vs.map (·.2)).flatten.length=(vs.map (·.2.length)).sum:=by simp[List.length_flatten,List.map_map,Function.comp_def]
    rw[e];exact wr
   ·obtain⟨l,hl,hm⟩:=List.mem_flatten.1 hr
    obtain⟨x,hxm,rfl⟩:=List.mem_map.1 hl
    exact(hx x hxm).row r hm
theorem t156'{H:AHeap}{V:Value}{vs:List (Value×List UInt8)}(hV:Sl H 1 V (vs.map fun x=>[x.1]))(hx:∀x∈vs,BS H x.1 x.2)(hl:vs.length≤1000)(hT:(vs.map (·.2)).flatten.length≤1000000):
 ∃w H',ARun Go.Proofs.Tryz.prog 0 156 [V] H w H'∧BS H' w (vs.map (·.2)).flatten∧Keeps H H'∧Fresh H.n w:=by
 have e:(vs.map fun x=>(x.1,x.2.map fun b=>[Value.int .u8 b.toNat])).map (·.2)=vs.map fun x=>x.2.map fun b=>[Value.int .u8 b.toNat]:=by rw[List.map_map];rfl
 obtain⟨w,H',r,h1,h2,h3⟩:=t156 (H:=H) (V:=V) (vs:=vs.map fun x=>(x.1,x.2.map fun b=>[Value.int .u8 b.toNat])) (by rw[List.map_map];exact hV) (fun x hm=>by
  obtain⟨y,hy,rfl⟩:=List.mem_map.1 hm
  exact(hx y hy).sl) (by simpa using hl) (by
  rw[List.map_map]
  have e2:(vs.map ((·.2.length)∘fun x=>(x.1,x.2.map fun b=>[Value.int .u8 b.toNat]))).sum=(vs.map (·.2)).flatten.length:=by
   rw[List.length_flatten,List.map_map]
   congr 1
   apply List.map_congr_left
   intro x _
   simp
  rw[e2];exact hT)
 refine⟨w,H',r,?_,h2,h3⟩
 have hs:=h1.sl
 rw[e]at hs
 have e3:(vs.map fun x=>x.2.map fun b=>[Value.int .u8 b.toNat]).flatten=(vs.map (·.2)).flatten.map fun b=>[Value.int .u8 b.toNat]:=by
  clear hV hx hl hT r h1 h2 h3 hs e
  induction vs with
  |nil=>rfl
  |cons a l ih=>simp only[List.map_cons,List.flatten_cons,ih,List.map_append]
 rw[e3]at hs
 obtain⟨a,k,hk⟩:=hs.sh
 refine⟨⟨a,k,by rw[hk,List.length_map]⟩,?_⟩
 rw[hs.el]
 congr 1
 generalize(vs.map (·.2)).flatten=l
 induction l with
 |nil=>rfl
 |cons a l ih=>simp only[List.map_cons,List.flatten_cons,ih];rfl
theorem t120{H:AHeap}{x y:Value}{l m:List UInt8}(hx:BS H x l)(hy:BS H y m):∃w H',ARun Go.Proofs.Tryz.prog 0 120 [x,y] H w H'∧w=.bool (decide (l=m))∧H'=H:=by
 refine walk2 f120_ok f120_n ?_
 intro Q hq1 hq2
 have e1:=a_b2sB hx
 have e2:=a_b2sB hy
 have e3:=b_eqS l m
 simp(disch:=first|assumption|omega|(simp only[LN]<;>omega)|(simp(disch:=first|assumption|omega|(simp only[LN]<;>omega))only[row_alloc,row_set];assumption))only[f120,W_block,P3,↓reduceIte,reduceAdd,reduceEqDiff,reduceCtorEq,initFr,reduceLT,clsA,reduceLeDiff,reduceMul,reduceSub,reduceIte,e1,e2,e3]
 exact hq2 _ _ ⟨_,rfl,rfl,rfl⟩
theorem t112{H:AHeap}{x:Value}{l:List UInt8}(hx:BS H x l)(c:UInt8):∃w H',ARun Go.Proofs.Tryz.prog 0 112 [x,.int .u8 c.toNat] H w H'∧w=.int .i64 (cB c l:Nat)∧H'=H:=by
 refine⟨_,_,Cn.arun_extH (v:=.int .i64 (cB c l:Nat)) (fn:=Go.Proofs.Tryz.f112) (e:=Extern.BytealgCount.count) (by kernel_rfl) (by kernel_rfl) (by kernel_rfl) (by kernel_rfl) (by kernel_rfl) (fun σ=>.int _ _) ?_,rfl,rfl⟩
 intro σ w args' hr hv
 cases hv with
 |cons a hv=>
  cases hv with
  |cons b hv=>
   cases hv
   cases b
   have:=Cn.run_count_slice (P:=Go.Proofs.Tryz.prog) hr a hx.el (bytesOf_cellsOf l) (c.toNat:Int)
   simpa using this
theorem t68{H:AHeap}{x y:Value}{l:List UInt8}{c:UInt8}(hx:BS H x l)(hy:BS H y [c]):∃w H',ARun Go.Proofs.Tryz.prog 0 68 [x,y] H w H'∧w=.int .i64 (cB c l:Nat)∧H'=H:=by
 refine walk2 f68_ok f68_n ?_
 intro Q hq1 hq2
 have hi:=hy.isS
 have hl:=hy.lenS
 obtain⟨na,ra⟩:=Sl.at_ hy.sl (by omega) (i:=0) (by simp)
 simp only[List.getElem_map,List.getElem_cons_zero]at ra
 have e1:(((1:Nat):Int)==0)=false:=rfl
 have e2:(((1:Nat):Int)==1)=true:=rfl
 have e3:(0:Int)<((lenS y:Nat):Int):=by rw[hl];simp
 simp only[List.length_cons,List.length_nil,Nat.zero_add]at hl
 simp(disch:=first|assumption|omega|(simp only[LN]<;>omega)|(simp(disch:=first|assumption|omega|(simp only[LN]<;>omega))only[row_alloc,row_set];assumption))only[f68,W_block,P3,↓reduceIte,reduceAdd,reduceEqDiff,reduceCtorEq,initFr,reduceLT,clsA,reduceLeDiff,reduceMul,reduceSub,reduceIte,hl,e1,e2,ra,na]
 refine callK (t112 hx c) ?_
 rintro _ X ⟨rfl,hX⟩
 rw[hX]
 simp(disch:=first|assumption|omega|(simp only[LN]<;>omega)|(simp(disch:=first|assumption|omega|(simp only[LN]<;>omega))only[row_alloc,row_set];assumption))only[W_block,P3,↓reduceIte,reduceAdd,reduceEqDiff,reduceCtorEq,initFr,reduceLT,clsA,reduceLeDiff,reduceMul,reduceSub,reduceIte]
 exact hq2 _ _ ⟨_,rfl,rfl,rfl⟩
end Go.AM.Fd
