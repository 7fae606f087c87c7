/- Part of the proof. -/
import Derived.Orders
import Derived.Laws.Cells
import Derived.Laws.Rows
import Derived.Below
import Derived.Laws.Append
import Derived.Laws.BytesString
import Derived.Laws.MakeOwn
import Derived.MapKept
import Derived.ChangeKeysEq
import Derived.RangeFuncRecord
set_option maxHeartbeats 0
set_option linter.unusedSimpArgs false
set_option linter.unusedVariables false
namespace Go.AM
structure BI where
 c:Nat
 off:Nat
 len:Nat
 top:Nat
 esz:Nat
 room:Bool
abbrev Sg:=Nat->Option BI
inductive VR (σ:Sg):Value->Value->Prop
 |bool (b:Bool):VR σ (.bool b) (.bool b)
 |int (k:IntKind) (n:Int):VR σ (.int k n) (.int k n)
 |string (s:ByteArray):VR σ (.string s) (.string s)
 |nilPtr:VR σ (.pointer none) (.pointer none)
 |ptr {b o:Nat} {i:BI} (h:σ b=some i):VR σ (.pointer (some ⟨b,o,none⟩)) (.pointer (some ⟨i.c,i.off+o,none⟩))
 |nilSl:VR σ (.slice none 0 0) (.slice none 0 0)
 |sl {b o n k k':Nat} {i:BI} (h:σ b=some i) (hn:n<=k)
  (hk:k'=k\/(i.room=true/\k<=k'/\o+k*i.esz=i.len/\o+k'*i.esz<=i.top)):
  VR σ (.slice (some ⟨b,o,none⟩) n k) (.slice (some ⟨i.c,i.off+o,none⟩) n k')
 |sl0 {b o o':Nat} {i:BI} (h:σ b=some i):VR σ (.slice (some ⟨b,o,none⟩) 0 0) (.slice (some ⟨i.c,o',none⟩) 0 0)
 |slz {x a:Addr} (hx:x.spot.isSome=true):VR σ (.slice (some x) 0 0) (.slice (some a) 0 0)
 |nilMap:VR σ (.map none) (.map none)
 |map {b:Nat} {i:BI} (h:σ b=some i):VR σ (.map (some b)) (.map (some i.c))
 |func (fn:Fn) (xs xs' ys ys':Array Value) (h1:xs.size=xs'.size) (h2:∀i (a:i<xs.size) (b:i<xs'.size),VR σ xs[i] xs'[i])
  (h3:ys.size=ys'.size) (h4:∀i (a:i<ys.size) (b:i<ys'.size),VR σ ys[i] ys'[i]):VR σ (.func fn xs ys) (.func fn xs' ys')
 |nilFunc:VR σ .nilFunc .nilFunc
 |iface (t:TypeId) {v v':Value} (h:VR σ v v'):VR σ (.iface t v) (.iface t v')
 |nilIface:VR σ .nilIface .nilIface
 |agg (xs xs':Array Value) (h1:xs.size=xs'.size) (h2:∀i (a:i<xs.size) (b:i<xs'.size),VR σ xs[i] xs'[i]):VR σ (.agg xs) (.agg xs')
 |tuple (xs xs':Array Value) (h1:xs.size=xs'.size) (h2:∀i (a:i<xs.size) (b:i<xs'.size),VR σ xs[i] xs'[i]):VR σ (.tuple xs) (.tuple xs')
 |yield {b:Nat} {i:BI} (h:σ b=some i):VR σ (.chan (some b)) (.func (.yield i.c) #[] #[])
inductive VL (σ:Sg):List Value->List Value->Prop
 |nil:VL σ [] []
 |cons {v v':Value} {l l':List Value} (h:VR σ v v') (t:VL σ l l'):VL σ (v::l) (v'::l')
def Sg.le(σ σ':Sg):Prop:=∀b i,σ b=some i->σ' b=some i
theorem Sg.le.refl(σ:Sg):σ.le σ:=fun _ _ h=>h
theorem Sg.le.trans{a b c:Sg}(h:a.le b)(k:b.le c):a.le c:=fun x i e=>k x i (h x i e)
theorem VR.mono{σ σ':Sg}(h:σ.le σ'){v v':Value}(r:VR σ v v'):VR σ' v v':=by
 induction r with
 |bool b=>exact .bool b
 |int k n=>exact .int k n
 |string s=>exact .string s
 |nilPtr=>exact .nilPtr
 |ptr e=>exact .ptr (h _ _ e)
 |nilSl=>exact .nilSl
 |sl e a c=>exact .sl (h _ _ e) a c
 |sl0 e=>exact .sl0 (h _ _ e)
 |slz hx=>exact .slz hx
 |nilMap=>exact .nilMap
 |map e=>exact .map (h _ _ e)
 |func fn xs xs' ys ys' h1 _ h3 _ i2 i4=>exact .func fn xs xs' ys ys' h1 i2 h3 i4
 |nilFunc=>exact .nilFunc
 |iface t _ ih=>exact .iface t ih
 |nilIface=>exact .nilIface
 |agg xs xs' h1 _ ih=>exact .agg xs xs' h1 ih
 |tuple xs xs' h1 _ ih=>exact .tuple xs xs' h1 ih
 |yield e=>exact .yield (h _ _ e)
theorem VL.mono{σ σ':Sg}(h:σ.le σ'){l l':List Value}(r:VL σ l l'):VL σ' l l':=by
 induction r with
 |nil=>exact .nil
 |cons a _ ih=>exact .cons (a.mono h) ih
theorem VL.length{σ:Sg}{l l':List Value}(r:VL σ l l'):l.length=l'.length:=by
 induction r with
 |nil=>rfl
 |cons _ _ ih=>simp[ih]
theorem VL.get{σ:Sg}{l l':List Value}(r:VL σ l l'):∀{i:Nat} {v:Value},l[i]? =some v->∃v',l'[i]? =some v'/\VR σ v v':=by
 induction r with
 |nil=>intro i v h;simp at h
 |cons a _ ih=>
  intro i v h
  cases i with
  |zero=>simp at h;subst h;exact⟨_,rfl,a⟩
  |succ i=>simp at h;simpa using ih h
theorem VL.append{σ:Sg}{l l' m m':List Value}(r:VL σ l l')(s:VL σ m m'):VL σ (l++m) (l'++m'):=by
 induction r with
 |nil=>exact s
 |cons a _ ih=>exact .cons a ih
theorem VL.of_get{σ:Sg}:∀{l l':List Value},l.length=l'.length->(∀i (a:i<l.length) (b:i<l'.length),VR σ l[i] l'[i])->VL σ l l'
 |[],[],_,_=>.nil
 |v::l,v'::l',h,g=>.cons (g 0 (by simp) (by simp)) (VL.of_get (by simpa using h) (fun i a b=>g (i+1) (by simpa using a) (by simpa using b)))
 |[],_::_,h,_=>by simp at h
 |_::_,[],h,_=>by simp at h
theorem VL.drop{σ:Sg}{l l':List Value}(r:VL σ l l')(n:Nat):VL σ (l.drop n) (l'.drop n):=by
 induction r generalizing n with
 |nil=>simp;exact .nil
 |cons a t ih=>
  cases n with
  |zero=>exact .cons a t
  |succ n=>simpa using ih n
theorem VL.take{σ:Sg}{l l':List Value}(r:VL σ l l')(n:Nat):VL σ (l.take n) (l'.take n):=by
 induction r generalizing n with
 |nil=>simp;exact .nil
 |cons a t ih=>
  cases n with
  |zero=>exact .nil
  |succ n=>simpa using VL.cons a (ih n)
theorem VR.agg_of{σ:Sg}{l l':List Value}(h:VL σ l l'):VR σ (.agg l.toArray) (.agg l'.toArray):=by
 refine .agg _ _ (by simpa using h.length) (fun i a b=>?_)
 obtain⟨v',h1,h2⟩:=h.get (i:=i) (v:=l.toArray[i]) (by simp at a ⊢)
 have:l'.toArray[i]=v':=by
  simp at b
  rw[List.getElem?_eq_getElem b]at h1
  simpa using h1
 rw[this];exact h2
theorem VR.tuple_of{σ:Sg}{l l':List Value}(h:VL σ l l'):VR σ (.tuple l.toArray) (.tuple l'.toArray):=by
 refine .tuple _ _ (by simpa using h.length) (fun i a b=>?_)
 obtain⟨v',h1,h2⟩:=h.get (i:=i) (v:=l.toArray[i]) (by simp at a ⊢)
 have:l'.toArray[i]=v':=by
  simp at b
  rw[List.getElem?_eq_getElem b]at h1
  simpa using h1
 rw[this];exact h2
theorem VL.of_arr{σ:Sg}{xs xs':Array Value}(h1:xs.size=xs'.size)(h2:∀i (a:i<xs.size) (b:i<xs'.size),VR σ xs[i] xs'[i]):VL σ xs.toList xs'.toList:=
 VL.of_get (by simpa using h1) (fun i a b=>by simpa using h2 i (by simpa using a) (by simpa using b))
theorem VL.iff_arr{σ:Sg}{l l':List Value}(h:VL σ l l'):l.toArray.size=l'.toArray.size/\∀i (a:i<l.toArray.size) (b:i<l'.toArray.size),VR σ l.toArray[i] l'.toArray[i]:=by
 refine⟨by simpa using h.length,fun i a b=>?_⟩
 obtain⟨v',e1,e2⟩:=h.get (i:=i) (v:=l.toArray[i]) (by simp at a ⊢)
 have:l'.toArray[i]=v':=by
  simp at b
  rw[List.getElem?_eq_getElem b]at e1
  simpa using e1
 rw[this];exact e2
theorem VR.cells{σ:Sg}{v v':Value}(h:VR σ v v'):VL σ v.cells.toList v'.cells.toList:=by
 cases h
 case bool b=>exact .cons (.bool b) .nil
 case int k n=>exact .cons (.int k n) .nil
 case string s=>exact .cons (.string s) .nil
 case nilPtr=>exact .cons .nilPtr .nil
 case nilSl=>exact .cons .nilSl .nil
 case nilMap=>exact .cons .nilMap .nil
 case nilFunc=>exact .cons .nilFunc .nil
 case nilIface=>exact .cons .nilIface .nil
 case ptr e=>exact .cons (.ptr e) .nil
 case sl e a c=>exact .cons (.sl e a c) .nil
 case sl0 e=>exact .cons (.sl0 e) .nil
 case slz hx=>exact .cons (.slz hx) .nil
 case map e=>exact .cons (.map e) .nil
 case func fn xs xs' ys ys' h1 h2 h3 h4=>exact .cons (.func fn xs xs' ys ys' h1 h2 h3 h4) .nil
 case iface t v v' h=>exact .cons (.iface t h) .nil
 case agg xs xs' h1 h2=>exact VL.of_arr h1 h2
 case tuple xs xs' h1 h2=>exact .cons (.tuple xs xs' h1 h2) .nil
 case yield e=>exact .cons (.yield e) .nil
structure Aj6 where
 N:Nat
 sl:List Nat
 fr:List Value
 ps:Array Tmp
 assign:Code
 body:Code
inductive AO
 |dead
 |cells (own room:Bool) (esz:Nat) (c:List Value) (e:TypeId)
 |obj (own:Bool) (o:Obj)
 |loop (own:Bool) (st:LoopState) (pe:Option Code) (L:Aj6)
def AO.own:AO->Bool
 | .dead=>false
 | .cells own .. =>own
 | .obj own _=>own
 | .loop own .. =>own
def AO.live:AO->Bool
 | .dead=>false
 |_=>true
theorem Bbh{fr:Nat×Nat}{n:Nat}(h:fr.1=fr.2\/n<=fr.1)(k:Nat)(hk:k<n):¬(fr.1<=k/\k<fr.2):=by omega
abbrev Gf:=Nat->Option AO
def FV(σ:Sg)(sl:List Nat)(fr:List Value)(tmps:Array Value):Prop:=
 fr.length=sl.length/\∀(i s:Nat) (v:Value),sl[i]? =some s->fr[i]? =some v->∃v',tmps[s]? =some v'/\VR σ v v'
theorem FV.mono{σ σ':Sg}(h:σ.le σ'){sl:List Nat}{fr:List Value}{tmps:Array Value}(r:FV σ sl fr tmps):FV σ' sl fr tmps:=
 ⟨r.1,fun i s v a b=>by obtain⟨v',h1,h2⟩:=r.2 i s v a b;exact⟨v',h1,h2.mono h⟩⟩
def gnd(v:Value):Prop:=VR (fun _=>none) v v/\v.oneCell'=true
inductive ML (σ:Sg):List MapEntry->List MapEntry->Prop
 |nil:ML σ [] []
 |cons {e e':MapEntry} {l l':List MapEntry} (hk:e'.key=e.key) (hb:e'.born=e.born) (h:VR σ e.val e'.val) (t:ML σ l l'):ML σ (e::l) (e'::l')
theorem ML.mono{σ σ':Sg}(hs:σ.le σ'){l l':List MapEntry}(r:ML σ l l'):ML σ' l l':=by
 induction r with
 |nil=>exact .nil
 |cons a b h _ ih=>exact .cons a b (h.mono hs) ih
def JR(σ:Sg)(o o':Obj):Prop:=match o with
 | .map es k=>∃es',o'=.map es' k/\ML σ es.toList es'.toList
 |o=>o'=o
theorem JR.mono{σ σ':Sg}(hs:σ.le σ'){o o':Obj}(r:JR σ o o'):JR σ' o o':=by
 cases o with
 |map es k=>obtain⟨es',h1,h2⟩:=r;exact⟨es',h1,h2.mono hs⟩
 |_=>exact r
def OR(σ:Sg)(w:World)(i:BI):AO->Prop
 | .dead=>True
 | .cells own room esz c e=>i.len=c.length/\i.room=room/\i.esz=esz/\c.length<=i.top/\(∀v∈c,v.oneCell'=true)∧
   ∃(c':Array Value) (fr:Nat×Nat),w.heap[i.c]? =some (.cells c' e fr)/\c'.size=i.off+i.top∧
    VL σ c ((c'.toList.drop i.off).take c.length)/\(own=true->(fr.1=fr.2\/c'.size<=fr.1)/\(room=true->∀v∈c'.toList.drop (i.off+c.length),gnd v))
 | .obj _ o=>∃o',w.heap[i.c]? =some o'/\JR σ o o'/\i.off=0/\∀c e f,o'≠.cells c e f
 | .loop _ st pe L=>∃(fn:FuncId) (tmps:Array Value) (ds:Nat),
   w.heap[i.c]? =some (.loop {state:=st,pending:=pe,fn:=fn,tmps:=tmps,params:=L.ps,assign:=L.assign,body:=L.body,defers:=ds})/\tmps.size=L.N/\FV σ L.sl L.fr tmps
structure HR (ng:Nat) (σ:Sg) (G:Gf) (w:World):Prop where
 obj:∀b i,σ b=some i->∃o,G b=some o/\OR σ w i o
 inj:∀b1 b2 i1 i2 o1 o2,b1≠b2->σ b1=some i1->σ b2=some i2->G b1=some o1->G b2=some o2->o1.own=true->o2.live=true->i1.c≠i2.c
 lt:∀b i,σ b=some i->i.c<w.heap.size
 glob:∀g,g<ng->∃i,σ g=some i/\i.c=g/\i.off=0
structure Ext (n:Nat) (σ:Sg) (G:Gf) (w:World) (n':Nat) (σ':Sg) (G':Gf) (w':World):Prop where
 sub:σ.le σ'
 new:∀b i,σ b=none->σ' b=some i->(n<=b/\b<n')/\(w.heap.size<=i.c\/∃b0 i0 o0,σ b0=some i0/\G b0=some o0/\o0.own=true/\i0.c=i.c)
 own:∀b i o',σ b=some i->G' b=some o'->o'.own=true->∃o,G b=some o/\o.own=true
 live:∀b i o',σ b=some i->G' b=some o'->o'.live=true->∃o,G b=some o/\o.live=true
 keep:∀k,k<w.heap.size->(∀b i o,σ b=some i->G b=some o->o.own=true->i.c≠k)->w'.heap[k]? =w.heap[k]?
 size:w.heap.size<=w'.heap.size
 num:n<=n'
 os:w'.os=w.os
 tape:w'.tape=w.tape
 output:w'.output=w.output
theorem Ext.refl(n:Nat)(σ:Sg)(G:Gf)(w:World):Ext n σ G w n σ G w:=
 ⟨Sg.le.refl σ,(fun b i h h'=>by rw[h]at h';cases h'),fun _ _ o' _ h h'=>⟨o',h,h'⟩,fun _ _ o' _ h h'=>⟨o',h,h'⟩,fun _ _ _=>rfl,Nat.le_refl _,Nat.le_refl _,rfl,rfl,rfl⟩
theorem Ext.trans{n n1 n2:Nat}{σ σ1 σ2:Sg}{G G1 G2:Gf}{w w1 w2:World}(h:Ext n σ G w n1 σ1 G1 w1)(k:Ext n1 σ1 G1 w1 n2 σ2 G2 w2):Ext n σ G w n2 σ2 G2 w2:=by
 refine⟨h.sub.trans k.sub,?_,?_,?_,?_,Nat.le_trans h.size k.size,Nat.le_trans h.num k.num,k.os.trans h.os,k.tape.trans h.tape,k.output.trans h.output⟩
 ·intro b i hb hb2
  cases h1:σ1 b with
  |some j=>
   have:=k.sub b j h1
   rw[hb2]at this
   cases this
   obtain⟨⟨a1,a2⟩,a3⟩:=h.new b i hb h1
   exact⟨⟨a1,Nat.lt_of_lt_of_le a2 k.num⟩,a3⟩
  |none=>
   obtain⟨⟨a1,a2⟩,a3⟩:=k.new b i h1 hb2
   refine⟨⟨Nat.le_trans h.num a1,a2⟩,?_⟩
   rcases a3 with a3|⟨b0,i0,o0,e1,e2,e3,e4⟩
   ·exact .inl (Nat.le_trans h.size a3)
   ·cases h0:σ b0 with
    |some j=>
     have:=h.sub b0 j h0
     rw[e1]at this
     cases this
     obtain⟨o,f1,f2⟩:=h.own b0 _ o0 h0 e2 e3
     exact .inr ⟨b0,i0,o,h0,f1,f2,e4⟩
    |none=>
     obtain⟨_,a4⟩:=h.new b0 i0 h0 e1
     rw[<-e4]
     exact a4
 ·intro b i o' hb h2 ho
  obtain⟨o,f1,f2⟩:=k.own b i o' (h.sub b i hb) h2 ho
  exact h.own b i o hb f1 f2
 ·intro b i o' hb h2 ho
  obtain⟨o,f1,f2⟩:=k.live b i o' (h.sub b i hb) h2 ho
  exact h.live b i o hb f1 f2
 ·intro x hx hn
  rw[k.keep x (Nat.lt_of_lt_of_le hx h.size) ?_,h.keep x hx hn]
  intro b i o hb ho hown
  cases h0:σ b with
  |some j=>
   have:=h.sub b j h0
   rw[hb]at this
   cases this
   obtain⟨o1,f1,f2⟩:=h.own b _ o h0 ho hown
   exact hn b i o1 h0 f1 f2
  |none=>
   obtain⟨_,a4⟩:=h.new b i h0 hb
   rcases a4 with a4|⟨b0,i0,o0,e1,e2,e3,e4⟩
   ·omega
   ·rw[<-e4];exact hn b0 i0 o0 e1 e2 e3
structure Aaa where
 n:Nat
 l:List AO
def Aaa.get(h:Aaa):Gf:=fun b=>if b<h.n then h.l[h.n-1-b]? else none
def Aaa.alloc(h:Aaa)(o:AO):Aaa:=⟨h.n+1,o::h.l⟩
def Aaa.set(h:Aaa)(b:Nat)(o:AO):Aaa:=⟨h.n,h.l.set (h.n-1-b) o⟩
theorem Aaa.Bfg{h:Aaa}{b:Nat}{o:AO}(e:h.get b=some o):b<h.n:=by
 unfold Aaa.get at e
 split at e
 ·assumption
 ·cases e
theorem Aaa.Bfd(h:Aaa)(o:AO):(h.alloc o).get h.n=some o:=by simp[Aaa.get,Aaa.alloc]
theorem Aaa.Bfi(h:Aaa)(o:AO){b:Nat}(hb:b<h.n):(h.alloc o).get b=h.get b:=by
 have e:h.n-b=(h.n-1-b)+1:=by omega
 simp only[Aaa.get,Aaa.alloc,Nat.add_sub_cancel,e,hb,show b<h.n+1 by omega,if_true,List.getElem?_cons_succ]
theorem Aaa.get_alloc_ne(h:Aaa)(o:AO){b:Nat}(hb:b≠h.n):(h.alloc o).get b=h.get b:=by
 rcases Nat.lt_or_ge b h.n with hlt|hge
 ·exact Aaa.Bfi h o hlt
 ·simp[Aaa.get,Aaa.alloc,show¬b<h.n+1 by omega,show¬b<h.n by omega]
theorem Aaa.Bfe{h:Aaa}{b:Nat}{o:AO}(e:h.get b=some o)(o':AO):(h.set b o').get b=some o':=by
 have hb:=Aaa.Bfg e
 simp only[Aaa.get,hb,if_true]at e
 have hl:h.n-1-b<h.l.length:=by
  rcases Nat.lt_or_ge (h.n-1-b) h.l.length with hh|hh
  ·exact hh
  ·rw[List.getElem?_eq_none hh]at e;cases e
 simp[Aaa.get,Aaa.set,hb,hl]
theorem Aaa.Bff(h:Aaa){b b':Nat}(hne:b'≠b)(hb:b<h.n)(o':AO):(h.set b o').get b'=h.get b':=by
 simp only[Aaa.get,Aaa.set]
 by_cases h1:b'<h.n
 ·simp only[h1,if_true]
  rw[List.getElem?_set_ne (by omega)]
 ·simp[h1]
theorem AO.live_of_own{o:AO}(h:o.own=true):o.live=true:=by cases o<;>simp_all[AO.own,AO.live]
theorem OR.congr{σ:Sg}{w w':World}{i:BI}{o:AO}(h:o.live=true->w'.heap[i.c]? =w.heap[i.c]?)(r:OR σ w i o):OR σ w' i o:=by
 cases o with
 |dead=>trivial
 |cells own room esz c e=>simp only[OR]at r ⊢;rw[h rfl];exact r
 |obj own o=>simp only[OR]at r ⊢;rw[h rfl];exact r
 |loop own st pe L=>simp only[OR]at r ⊢;rw[h rfl];exact r
theorem OR.mono{σ σ':Sg}(hs:σ.le σ'){w:World}{i:BI}{o:AO}(r:OR σ w i o):OR σ' w i o:=by
 cases o with
 |dead=>trivial
 |obj own o=>obtain⟨o',h1,h2,h3⟩:=r;exact⟨o',h1,h2.mono hs,h3⟩
 |loop own st pe L=>
  obtain⟨fn,tmps,ds,h1,h2,h3⟩:=r
  exact⟨fn,tmps,ds,h1,h2,h3.mono hs⟩
 |cells own room esz c e=>
  obtain⟨h1,h2,h3,h4,h9,c',fr,h5,h6,h7,h8⟩:=r
  exact⟨h1,h2,h3,h4,h9,c',fr,h5,h6,h7.mono hs,h8⟩
theorem HR.world{ng:Nat}{σ:Sg}{G:Gf}{w w':World}(h:HR ng σ G w)(e:w'.heap=w.heap):HR ng σ G w':=
 ⟨fun b i hb=>by obtain⟨o,h1,h2⟩:=h.obj b i hb;exact⟨o,h1,h2.congr (fun _=>by rw[e])⟩,h.inj,fun b i hb=>by rw[e];exact h.lt b i hb,h.glob⟩
theorem Ext.world{n n':Nat}{σ σ':Sg}{G G':Gf}{w w' w2:World}(h:Ext n σ G w n' σ' G' w')(e1:w2.heap=w'.heap)(e2:w2.os=w'.os)(e3:w2.tape=w'.tape)(e4:w2.output=w'.output):Ext n σ G w n' σ' G' w2:=
 ⟨h.sub,h.new,h.own,h.live,fun k a b=>by rw[e1];exact h.keep k a b,by rw[e1];exact h.size,h.num,e2.trans h.os,e3.trans h.tape,e4.trans h.output⟩
theorem HR.upd{ng:Nat}{σ:Sg}{G G':Gf}{w w':World}(hr:HR ng σ G w){b:Nat}{i:BI}{o o2:AO}(hb:σ b=some i)(hG:G b=some o)(ho:o.own=true)
 (hw:∀k,k≠i.c->w'.heap[k]? =w.heap[k]?) (hs:w'.heap.size=w.heap.size) (hG':∀x,x≠b->G' x=G x) (h2:G' b=some o2) (hor:OR σ w' i o2):HR ng σ G' w':=by
 refine⟨?_,?_,fun x j hx=>by rw[hs];exact hr.lt x j hx,hr.glob⟩
 ·intro x j hx
  by_cases hxb:x=b
  ·subst hxb;rw[hb]at hx;cases hx;exact⟨o2,h2,hor⟩
  ·obtain⟨ox,e1,e2⟩:=hr.obj x j hx
   refine⟨ox,by rw[hG' x hxb];exact e1,e2.congr (fun hl=>hw _ ?_)⟩
   exact fun he=>hr.inj b x i j o ox (Ne.symm hxb) hb hx hG e1 ho hl he.symm
 ·intro b1 b2 i1 i2 o1 o2' hne e1 e2 g1 g2 ow lv
  by_cases h1:b1=b
  ·subst h1
   rw[hb]at e1;cases e1
   rw[hG' b2 (Ne.symm hne)]at g2
   exact hr.inj b1 b2 i i2 o o2' hne hb e2 hG g2 ho lv
  ·by_cases h2':b2=b
   ·subst h2'
    rw[hb]at e2;cases e2
    rw[hG' b1 h1]at g1
    exact hr.inj b1 b2 i1 i o1 o hne e1 hb g1 hG ow (AO.live_of_own ho)
   ·rw[hG' b1 h1]at g1
    rw[hG' b2 h2']at g2
    exact hr.inj b1 b2 i1 i2 o1 o2' hne e1 e2 g1 g2 ow lv
def Sg.up(σ:Sg)(b:Nat)(i:BI):Sg:=fun x=>if x=b then some i else σ x
theorem Sg.Bfj(σ:Sg)(b:Nat)(i:BI):σ.up b i b=some i:=by simp[Sg.up]
theorem Sg.Bfk(σ:Sg){b x:Nat}(i:BI)(h:x≠b):σ.up b i x=σ x:=by simp[Sg.up,h]
theorem Sg.le_up{σ:Sg}{b:Nat}(i:BI)(h:σ b=none):σ.le (σ.up b i):=fun x j hx=>by
 by_cases e:x=b
 ·subst e;rw[h]at hx;cases hx
 ·rw[Sg.Bfk σ i e];exact hx
theorem HR.add{ng:Nat}{σ:Sg}{G G':Gf}{w:World}(hr:HR ng σ G w){b:Nat}{i:BI}{o2:AO}(hb:σ b=none)(hG':∀x,x≠b->G' x=G x)(h2:G' b=some o2)
 (hlt:i.c<w.heap.size) (hor:OR σ w i o2)
 (hin:∀x j ox,σ x=some j->G x=some ox->(ox.live=true/\o2.own=true\/ox.own=true/\o2.live=true)->j.c≠i.c):HR ng (σ.up b i) G' w:=by
 have hle:=Sg.le_up i hb
 refine⟨?_,?_,?_,?_⟩
 ·intro x j hx
  by_cases e:x=b
  ·subst e;rw[Sg.Bfj]at hx;cases hx;exact⟨o2,h2,hor.mono hle⟩
  ·rw[Sg.Bfk σ i e]at hx
   obtain⟨ox,e1,e2⟩:=hr.obj x j hx
   exact⟨ox,by rw[hG' x e];exact e1,e2.mono hle⟩
 ·intro b1 b2 i1 i2 o1 o2' hne e1 e2 g1 g2 ow lv
  by_cases h1:b1=b
  ·subst h1
   rw[Sg.Bfj]at e1;cases e1
   rw[Sg.Bfk σ _ (Ne.symm hne)]at e2
   rw[hG' b2 (Ne.symm hne)]at g2
   rw[h2]at g1;cases g1
   exact fun he=>hin b2 i2 o2' e2 g2 (.inl ⟨lv,ow⟩) he.symm
  ·by_cases h2':b2=b
   ·subst h2'
    rw[Sg.Bfj]at e2;cases e2
    rw[Sg.Bfk σ _ h1]at e1
    rw[hG' b1 h1]at g1
    rw[h2]at g2;cases g2
    exact hin b1 i1 o1 e1 g1 (.inr ⟨ow,lv⟩)
   ·rw[Sg.Bfk σ i h1]at e1
    rw[Sg.Bfk σ i h2']at e2
    rw[hG' b1 h1]at g1
    rw[hG' b2 h2']at g2
    exact hr.inj b1 b2 i1 i2 o1 o2' hne e1 e2 g1 g2 ow lv
 ·intro x j hx
  by_cases e:x=b
  ·subst e;rw[Sg.Bfj]at hx;cases hx;exact hlt
  ·rw[Sg.Bfk σ i e]at hx;exact hr.lt x j hx
 ·intro g hg
  obtain⟨j,h1,h3,h4⟩:=hr.glob g hg
  exact⟨j,hle g j h1,h3,h4⟩
theorem HR.none_of_ge{ng:Nat}{σ:Sg}{H:Aaa}{w:World}(hr:HR ng σ H.get w){b:Nat}(h:H.n<=b):σ b=none:=by
 cases e:σ b with
 |none=>rfl
 |some i=>
  obtain⟨o,h1,_⟩:=hr.obj b i e
  have:=Aaa.Bfg h1
  omega
theorem HR.alloc{ng:Nat}{σ:Sg}{H:Aaa}{w w':World}(hr:HR ng σ H.get w){o:AO}{i:BI}{o':Obj}(hi:i.c=w.heap.size)(hor:OR σ (w.alloc o') i o)
 (e1:w'.heap=(w.alloc o').heap) (e2:w'.os=w.os) (e3:w'.tape=w.tape) (e4:w'.output=w.output):
 HR ng (σ.up H.n i) (H.alloc o).get w'/\Ext H.n σ H.get w (H.alloc o).n (σ.up H.n i) (H.alloc o).get w':=by
 have hn:=hr.none_of_ge (Nat.le_refl H.n)
 have hold:HR ng σ H.get (w.alloc o'):=by
  refine⟨fun b j hb=>?_,hr.inj,fun b j hb=>?_,hr.glob⟩
  ·obtain⟨ob,h1,h2⟩:=hr.obj b j hb
   exact⟨ob,h1,h2.congr (fun _=>heap_alloc_old w o' j.c (hr.lt b j hb))⟩
  ·have:=hr.lt b j hb
   simp;omega
 have hold2:HR ng σ (H.alloc o).get (w.alloc o'):=by
  refine⟨fun b j hb=>?_,fun b1 b2 i1 i2 o1 o2 hne a1 a2 g1 g2=>?_,hold.lt,hold.glob⟩
  ·obtain⟨ob,h1,h2⟩:=hold.obj b j hb
   exact⟨ob,by rw[Aaa.Bfi H o (Aaa.Bfg h1)];exact h1,h2⟩
  ·obtain⟨x1,k1,_⟩:=hold.obj b1 i1 a1
   obtain⟨x2,k2,_⟩:=hold.obj b2 i2 a2
   rw[Aaa.Bfi H o (Aaa.Bfg k1)]at g1
   rw[Aaa.Bfi H o (Aaa.Bfg k2)]at g2
   exact hold.inj b1 b2 i1 i2 o1 o2 hne a1 a2 g1 g2
 refine⟨?_,⟨Sg.le_up i hn,?_,?_,?_,?_,?_,by simp[Aaa.alloc],e2,e3,e4⟩⟩
 ·refine HR.world (HR.add hold2 hn (fun _ _=>rfl) (Aaa.Bfd H o) (by rw[hi];simp) hor ?_) e1
  intro x j ox hx _ _ he
  have:=hr.lt x j hx
  omega
 ·intro b j hb hb'
  by_cases e:b=H.n
  ·subst e
   rw[Sg.Bfj]at hb';cases hb'
   exact⟨⟨Nat.le_refl _,by simp[Aaa.alloc]⟩,.inl (by omega)⟩
  ·rw[Sg.Bfk σ i e,hb]at hb';cases hb'
 ·intro b j ob hb g1 ow
  obtain⟨x1,k1,_⟩:=hr.obj b j hb
  rw[Aaa.Bfi H o (Aaa.Bfg k1)]at g1
  exact⟨ob,g1,ow⟩
 ·intro b j ob hb g1 ow
  obtain⟨x1,k1,_⟩:=hr.obj b j hb
  rw[Aaa.Bfi H o (Aaa.Bfg k1)]at g1
  exact⟨ob,g1,ow⟩
 ·intro k hk _
  rw[e1];exact heap_alloc_old w o' k hk
 ·rw[e1];simp
theorem HR.other{ng:Nat}{σ:Sg}{G:Gf}{w w':World}(hr:HR ng σ G w)(hs:w.heap.size<=w'.heap.size)(hw:∀b i,σ b=some i->w'.heap[i.c]? =w.heap[i.c]?):HR ng σ G w':=
 ⟨fun b j hb=>by obtain⟨ob,h1,h2⟩:=hr.obj b j hb;exact⟨ob,h1,h2.congr (fun _=>hw b j hb)⟩,hr.inj,fun b j hb=>Nat.lt_of_lt_of_le (hr.lt b j hb) hs,hr.glob⟩
theorem Ext.other{n n':Nat}{σ σ':Sg}{G G':Gf}{w w' w2:World}(h:Ext n σ G w n' σ' G' w')(hs:w'.heap.size<=w2.heap.size)(hk:∀k,k<w.heap.size->w2.heap[k]? =w'.heap[k]?)
 (e2:w2.os=w'.os) (e3:w2.tape=w'.tape) (e4:w2.output=w'.output):Ext n σ G w n' σ' G' w2:=
 ⟨h.sub,h.new,h.own,h.live,fun k a b=>(hk k a).trans (h.keep k a b),Nat.le_trans h.size hs,h.num,e2.trans h.os,e3.trans h.tape,e4.trans h.output⟩
theorem OR.cells_new{σ:Sg}{w:World}{c:List Value}{c':Array Value}{e:TypeId}{fr:Nat×Nat}(own room:Bool)(esz:Nat)(hl:c.length<=c'.size)(hone:∀v∈c,v.oneCell'=true)(hv:VL σ c (c'.toList.take c.length))
 (hf:own=true->fr.1=fr.2\/c'.size<=fr.1) (hg:room=true->∀v∈c'.toList.drop c.length,gnd v):OR σ (w.alloc (.cells c' e fr)) ⟨w.heap.size,0,c.length,c'.size,esz,room⟩ (.cells own room esz c e):=
 ⟨rfl,rfl,rfl,hl,hone,c',fr,heap_alloc_new w _,by simp,by simpa using hv,fun h=>⟨hf h,fun h2=>by simpa using hg h2⟩⟩
inductive AOp (X:Type)
 |mov (x:X)
 |pick (c a b:X)
 |new (e:TypeId) (esz:Nat) (z:List Value)
 |box (e:TypeId) (esz:Nat) (x:X)
 |build (z:List Value) (ps:List (Nat×Nat×X))
 |bslice (e:TypeId) (esz n:Nat) (z:List Value) (ps:List (Nat×Nat×X))
 |load1 (x:X)
 |loadn (n:Nat) (x:X)
 |store1 (a x:X)
 |storen (n:Nat) (a x:X)
 |nilck (x:X)
 |bin (op:BinOp) (x y:X)
 |eqv (k:Nat) (neg:Bool) (x y:X)
 |un (op:UnOp) (x:X)
 |i2i (k:IntKind) (x:X)
 |s2s (x:X)
 |s2b (e:TypeId) (x:X)
 |b2s (x:X)
 |iface (t:TypeId) (x:X)
 |mkfn (fn:Fn) (xs ys:List X)
 |mksl (e:TypeId) (esz bytes:Nat) (z:List Value) (l c:X)
 |slstr (x:X) (lo hi:Option X)
 |slsl (esz:Nat) (x:X) (lo hi mx:Option X)
 |faddr (off:Nat) (x:X)
 |fld1 (off:Nat) (x:X)
 |fldn (off n:Nat) (x:X)
 |iaddr (esz:Nat) (x i:X)
 |idxs (x i:X)
 |assert (t:TypeId) (z:Value) (ok:Bool) (x:X)
 |extract (x:X) (i:Nat)
 |len (str:Bool) (x:X)
 |app (e:TypeId) (esz bytes:Nat) (s x:X)
 |mark (x:X)
 |iaddrp (esz n:Nat) (x i:X)
 |idxa (agg:Bool) (esz n:Nat) (x i:X)
 |slarr (esz n:Nat) (x:X) (lo hi mx:Option X)
 |eqs (cs:List Nat) (neg:Bool) (x y:X)
 |mm (mx:Bool) (x y:X)
 |mm4 (mx:Bool) (x y z w:X)
 |i2str (x:X)
 |rng (x:X)
 |next (x:X)
 |copy (esz:Nat) (d s:X)
 |clr (esz:Nat) (z:List Value) (x:X)
 |apps (e:TypeId) (bytes:Nat) (s x:X)
 |mkmap
 |mget (kk:TypeDesc) (z:Value) (ok:Bool) (m k:X)
 |mset (kk:TypeDesc) (m k x:X)
 |cap (x:X)
 |inv (name:String) (r:X) (xs:List X)
 |callf (f:FuncId) (xs:List X)
 |callv (f:X) (xs:List X)
 |appz (e:TypeId) (esz bytes:Nat) (z:List Value) (s x:X)
 |bad
def AOp.map{X Y:Type}(f:X->Y):AOp X->AOp Y
 | .mov x=>.mov (f x)
 | .pick c a b=>.pick (f c) (f a) (f b)
 | .new e s z=>.new e s z
 | .box e s x=>.box e s (f x)
 | .build z ps=>.build z (ps.map fun p=>(p.1,p.2.1,f p.2.2))
 | .bslice e s n z ps=>.bslice e s n z (ps.map fun p=>(p.1,p.2.1,f p.2.2))
 | .load1 x=>.load1 (f x)
 | .loadn n x=>.loadn n (f x)
 | .store1 a x=>.store1 (f a) (f x)
 | .storen n a x=>.storen n (f a) (f x)
 | .nilck x=>.nilck (f x)
 | .bin op x y=>.bin op (f x) (f y)
 | .eqv k n x y=>.eqv k n (f x) (f y)
 | .un op x=>.un op (f x)
 | .i2i k x=>.i2i k (f x)
 | .s2s x=>.s2s (f x)
 | .s2b e x=>.s2b e (f x)
 | .b2s x=>.b2s (f x)
 | .iface t x=>.iface t (f x)
 | .mkfn fn xs ys=>.mkfn fn (xs.map f) (ys.map f)
 | .mksl e s b z l c=>.mksl e s b z (f l) (f c)
 | .slstr x lo hi=>.slstr (f x) (lo.map f) (hi.map f)
 | .slsl s x lo hi mx=>.slsl s (f x) (lo.map f) (hi.map f) (mx.map f)
 | .faddr o x=>.faddr o (f x)
 | .fld1 o x=>.fld1 o (f x)
 | .fldn o n x=>.fldn o n (f x)
 | .iaddr s x i=>.iaddr s (f x) (f i)
 | .idxs x i=>.idxs (f x) (f i)
 | .assert t z ok x=>.assert t z ok (f x)
 | .extract x i=>.extract (f x) i
 | .len s x=>.len s (f x)
 | .app e s b x y=>.app e s b (f x) (f y)
 | .mark x=>.mark (f x)
 | .iaddrp s n x i=>.iaddrp s n (f x) (f i)
 | .idxa a s n x i=>.idxa a s n (f x) (f i)
 | .slarr s n x lo hi mx=>.slarr s n (f x) (lo.map f) (hi.map f) (mx.map f)
 | .eqs cs n x y=>.eqs cs n (f x) (f y)
 | .mm m x y=>.mm m (f x) (f y)
 | .mm4 m x y z w=>.mm4 m (f x) (f y) (f z) (f w)
 | .i2str x=>.i2str (f x)
 | .rng x=>.rng (f x)
 | .next x=>.next (f x)
 | .copy s d x=>.copy s (f d) (f x)
 | .clr s z x=>.clr s z (f x)
 | .apps e b s x=>.apps e b (f s) (f x)
 | .mkmap=>.mkmap
 | .mget kk z ok m k=>.mget kk z ok (f m) (f k)
 | .mset kk m k x=>.mset kk (f m) (f k) (f x)
 | .cap x=>.cap (f x)
 | .inv nm r xs=>.inv nm (f r) (xs.map f)
 | .callf g xs=>.callf g (xs.map f)
 | .callv g xs=>.callv (f g) (xs.map f)
 | .appz e s b z x y=>.appz e s b z (f x) (f y)
 | .bad=>.bad
def Aau(c:List Value):List (Nat×Nat×Value)->Option (List Value)
 |[]=>some c
 |(o,n,v)::r=>
  if v.cells.toList.length=n/\o+n<=c.length then Aau (c.take o++v.cells.toList++c.drop (o+n)) r else none
def Ag2(H:Aaa)(b o:Nat):Option Value:=
 match H.get b with
 |some (.cells _ _ _ c _)=>c[o]?
 |_=>none
def Adf(H:Aaa)(b o n:Nat):Option (List Value):=
 match H.get b with
 |some (.cells _ _ _ c _)=>if o+n<=c.length then some ((c.drop o).take n)else none
 |_=>none
def Aj7(op:BinOp)(k:IntKind)(a b:Int):Option Value:=
 match op with
 | .add=>some (.int k (k.wrap (a+b)))
 | .sub=>some (.int k (k.wrap (a-b)))
 | .mul=>some (.int k (k.wrap (a*b)))
 | .quo=>if b=0 then none else some (.int k (k.wrap (a.tdiv b)))
 | .rem=>if b=0 then none else some (.int k (a.tmod b))
 | .and=>some (.int k (k.wrap (BitVec.ofInt k.bits a&&& BitVec.ofInt k.bits b).toNat))
 | .or=>some (.int k (k.wrap (BitVec.ofInt k.bits a|||BitVec.ofInt k.bits b).toNat))
 | .xor=>some (.int k (k.wrap (BitVec.ofInt k.bits a ^^^ BitVec.ofInt k.bits b).toNat))
 | .andNot=>some (.int k (k.wrap (BitVec.ofInt k.bits a&&& ~~~ BitVec.ofInt k.bits b).toNat))
 | .eql=>some (.bool (a==b))
 | .neq=>some (.bool (a != b))
 | .lss=>some (.bool (decide (a<b)))
 | .leq=>some (.bool (decide (a<=b)))
 | .gtr=>some (.bool (decide (b<a)))
 | .geq=>some (.bool (decide (b<=a)))
 |_=>none
def A2g(op:BinOp)(a b:ByteArray):Option Value:=
 match op with
 | .add=>if a.size+b.size<=140737488355328 then some (.string (a++b))else none
 | .eql=>some (.bool (decide (a=b)))
 | .neq=>some (.bool (!decide (a=b)))
 | .lss=>some (.bool (Op.bytesLess a.data.toList b.data.toList))
 | .leq=>some (.bool (Op.bytesLess a.data.toList b.data.toList||decide (a=b)))
 | .gtr=>some (.bool (!(Op.bytesLess a.data.toList b.data.toList||decide (a=b))))
 | .geq=>some (.bool (!Op.bytesLess a.data.toList b.data.toList))
 |_=>none
def Abz(op:BinOp)(x y:Value):Option Value:=
 match x,y with
 | .int k a,.int k' b=>
  match op with
  | .shl=>if 0<=b then some (.int k (k.wrap (a*2 ^ (min b.toNat k.bits))))else none
  | .shr=>if 0<=b then some (.int k (a.fdiv (2 ^ (min b.toNat k.bits))))else none
  |_=>if k=k' then Aj7 op k a b else none
 | .string a,.string b=>A2g op a b
 |_,_=>none
def eqA(k:Nat)(x y:Value):Option Bool:=
 match k,x,y with
 |0,.bool a,.bool b=>some (a==b)
 |1,.pointer none,.pointer b=>some b.isNone
 |1,.pointer (some _),.pointer none=>some false
 |2,.slice none _ _,.slice b _ _=>some b.isNone
 |2,.slice (some _) _ _,.slice none _ _=>some false
 |3,.map none,.map b=>some b.isNone
 |3,.map (some _),.map none=>some false
 |4,.nilFunc,.nilFunc=>some true
 |4,.nilFunc,.func _ _ _=>some false
 |4,.func _ _ _,.nilFunc=>some false
 |5,.nilIface,.iface _ _=>some false
 |5,.iface _ _,.nilIface=>some false
 |6,.nilIface,.iface _ _=>some false
 |6,.iface _ _,.nilIface=>some false
 |6,.nilIface,.nilIface=>some true
 |_,_,_=>none
def bytesOf:List Value->Option (List UInt8)
 |[]=>some []
 | .int .u8 n::r=>(bytesOf r).map (UInt8.ofNat n.toNat:: ·)
 |_::_=>none
def A2h:Bool->Value->Option Nat
 |false,.slice _ n _=>some n
 |true,.string s=>some s.size
 |_,_=>none
def Aj8(x:Option Value)(dflt top:Nat):Option Nat:=
 match x with
 |none=>some dflt
 |some (.int _ i)=>if 0<=i/\i<=(top:Int)then some i.toNat else none
 |_=>none
def ptr(b o:Nat):Value:=.pointer (some ⟨b,o,none⟩)
def slc(b o n k:Nat):Value:=.slice (some ⟨b,o,none⟩) n k
def Abf(H:Aaa)(esz:Nat):Value->Option (List Value)
 | .slice none _ _=>some []
 | .slice (some ⟨b,o,none⟩) n _=>
  match H.get b with
  |some (.cells _ _ _ c _)=>if o+n*esz<=c.length then some ((c.drop o).take (n*esz))else none
  |_=>none
 | .slice (some ⟨_,_,some _⟩) n _=>if n=0 then some []else none
 |_=>none
def eqC(k:Nat)(x y:Value):Option Bool:=
 match k,x,y with
 |0,.bool a,.bool b=>some (a==b)
 |1,.int k a,.int k' b=>if k=k' then some (a==b)else none
 |2,.string a,.string b=>some (decide (a=b))
 |_,_,_=>none
def Ae6:List Nat->List Value->List Value->Option Bool
 |[],[],[]=>some true
 |c::cs,x::xs,y::ys=>match eqC c x y,Ae6 cs xs ys with
  |some a,some b=>some (a&&b)
  |_,_=>none
 |_,_,_=>none
def A2i:Value->Bool
 | .bool _| .int _ _| .string _| .pointer none| .map none| .nilFunc| .nilIface=>true
 | .slice none 0 0=>true
 | .iface _ (.bool _)| .iface _ (.int _ _)| .iface _ (.string _)=>true
 |_=>false
def Ayz:TypeDesc->Value->Bool
 | .bool,.bool _=>true
 | .int k,.int k' _=>decide (k'=k)
 | .string,.string _=>true
 |_,_=>false
def Ap2(z:Value)(ok:Bool)(r:Option (Option (Nat×Value))):Option Value:=match r with
 |some (some (_,v))=>some (if ok then .tuple #[v,.bool true]else v)
 |some none=>some (if ok then .tuple #[z,.bool false]else z)
 |none=>none
def Ajd(H:Aaa)(e:TypeId)(esz bytes:Nat)(s:Value)(m:Nat)(news:List Value):Option (Value×Aaa):=
 match s with
 | .slice none n k=>if n=0/\k=0 then(if m=0 then some (.slice none 0 0,H)else if m*bytes<=140737488355328/\m<=140737488355328 then some (slc H.n 0 m m,H.alloc (.cells true true esz news e))else none)else none
 | .slice (some ⟨b,o,none⟩) n k=>
  if m=0 then some (s,H)
  else if(n+m)*bytes<=140737488355328/\n+m<=140737488355328 then
   match H.get b with
   |some (.cells own room esz' c e')=>
    if esz'=esz/\e'=e/\o+k*esz<=c.length then
     let r:=slc H.n 0 (n+m) (n+m)
     let new:=AO.cells true true esz ((c.drop o).take (n*esz)++news) e
     if n+m<=k then(if own then some (slc b o (n+m) k,H.set b (.cells true room esz (c.take (o+n*esz)++news++c.drop (o+n*esz+news.length)) e))else none)
     else if room=false\/o+k*esz<c.length then some (r,H.alloc new)
     else if own then some (r,(H.set b .dead).alloc new)
     else none
    else none
   |_=>none
  else none
 | .slice (some ⟨_,_,some _⟩) n k=>if n=0/\k=0 then(if m=0 then some (s,H)else if m*bytes<=140737488355328/\m<=140737488355328 then some (slc H.n 0 m m,H.alloc (.cells true true esz news e))else none)else none
 |_=>none
def mmI(mx:Bool)(a b:Int):Int:=if mx then(if b>a then b else a)else(if b<a then b else a)
def Aak:AOp Value->Aaa->Option (Value×Aaa)
 | .mov x,H=>some (x,H)
 | .pick c a b,H=>match c with
  | .bool t=>some (if t then a else b,H)
  |_=>none
 | .new e esz z,H=>if z.all Value.oneCell' then some (ptr H.n 0,H.alloc (.cells true false esz z e))else none
 | .box e esz x,H=>if x.cells.toList.all Value.oneCell' then some (ptr H.n 0,H.alloc (.cells true false esz x.cells.toList e))else none
 | .build z ps,H=>(Aau z ps).map fun c=>(.agg c.toArray,H)
 | .bslice e esz n z ps,H=>match Aau z ps with
  |some c=>if c.all Value.oneCell'/\c.length=n*esz then some (slc H.n 0 n n,H.alloc (.cells true false esz c e))else none
  |none=>none
 | .load1 x,H=>match x with
  | .pointer (some ⟨b,o,none⟩)=>(Ag2 H b o).map fun v=>(v,H)
  |_=>none
 | .loadn n x,H=>match x with
  | .pointer (some ⟨b,o,none⟩)=>(Adf H b o n).map fun c=>(.agg c.toArray,H)
  |_=>none
 | .store1 a x,H=>match a with
  | .pointer (some ⟨b,o,none⟩)=>match H.get b with
   |some (.cells true room esz c e)=>if o<c.length/\x.oneCell' then some (undef,H.set b (.cells true room esz (c.set o x) e))else none
   |_=>none
  |_=>none
 | .storen n a x,H=>match a with
  | .pointer (some ⟨b,o,none⟩)=>match H.get b with
   |some (.cells true room esz c e)=>
    if o+n<=c.length/\x.cells.toList.length=n/\x.cells.toList.all Value.oneCell' then some (undef,H.set b (.cells true room esz (c.take o++x.cells.toList++c.drop (o+n)) e))else none
   |_=>none
  |_=>none
 | .nilck x,H=>match x with
  | .pointer (some _)=>some (x,H)
  | .iface _ _=>some (x,H)
  | .func (.func _) _ _=>some (x,H)
  |_=>none
 | .bin op x y,H=>(Abz op x y).map fun v=>(v,H)
 | .eqv k neg x y,H=>(eqA k x y).map fun b=>(.bool (if neg then !b else b),H)
 | .un op x,H=>match op,x with
  | .not,.bool b=>some (.bool (!b),H)
  | .neg,.int k n=>some (.int k (k.wrap (0-n)),H)
  | .xor,.int k n=>some (.int k (k.wrap (BitVec.ofInt k.bits (if k.signed then-1 else k.max) ^^^ BitVec.ofInt k.bits n).toNat),H)
  |_,_=>none
 | .i2i k x,H=>match x with
  | .int _ n=>some (.int k (k.wrap n),H)
  |_=>none
 | .s2s x,H=>match x with
  | .string s=>some (.string s,H)
  |_=>none
 | .s2b e x,H=>match x with
  | .string s=>some (slc H.n 0 s.size s.size,H.alloc (.cells true true 1 (s.data.toList.map fun b=>.int .u8 b.toNat) e))
  |_=>none
 | .b2s x,H=>match Abf H 1 x with
  |some c=>match bytesOf c with
   |some l=>some (.string ⟨l.toArray⟩,H)
   |none=>none
  |none=>none
 | .iface t x,H=>some (.iface t x,H)
 | .mkfn fn xs ys,H=>some (.func fn xs.toArray ys.toArray,H)
 | .mksl e esz bytes z l c,H=>match l,c with
  | .int .i64 l,.int .i64 c=>if 0<=l/\l<=c/\bytes*c<=140737488355328/\c<=140737488355328/\z.length=esz/\z.all Value.oneCell' then
    some (slc H.n 0 l.toNat c.toNat,H.alloc (.cells true false esz (List.replicate c.toNat z).flatten e))else none
  |_,_=>none
 | .slstr x lo hi,H=>match x with
  | .string s=>match Aj8 hi s.size s.size with
   |some h=>match Aj8 lo 0 h with
    |some l=>some (.string (s.extract l h),H)
    |none=>none
   |none=>none
  |_=>none
 | .slsl esz x lo hi mx,H=>match x with
  | .slice a n k=>match Aj8 mx k k with
   |some m=>match Aj8 hi n m with
    |some h=>match Aj8 lo 0 h with
     |some l=>match a with
      |none=>some (.slice none 0 0,H)
      |some ⟨b,o,none⟩=>match H.get b with
       |some (.cells _ room esz' _ _)=>if esz'=esz\/room=false then some (slc b (o+l*esz) (h-l) (m-l),H)else none
       |_=>none
      |some ⟨b,o,some q⟩=>if n=0/\k=0 then some (.slice (some ⟨b,o,some q⟩) 0 0,H)else none
     |none=>none
    |none=>none
   |none=>none
  |_=>none
 | .faddr off x,H=>match x with
  | .pointer (some ⟨b,o,none⟩)=>some (ptr b (o+off),H)
  |_=>none
 | .fld1 off x,H=>match x with
  | .agg cs=>cs.toList[off]?.map fun v=>(v,H)
  |_=>none
 | .fldn off n x,H=>match x with
  | .agg cs=>if off+n<=cs.size then some (.agg ((cs.toList.drop off).take n).toArray,H)else none
  |_=>none
 | .iaddr esz x i,H=>match x,i with
  | .slice (some ⟨b,o,none⟩) n _,.int _ i=>if 0<=i/\i<(n:Int)then some (ptr b (o+i.toNat*esz),H)else none
  |_,_=>none
 | .idxs x i,H=>match x,i with
  | .string s,.int _ i=>if 0<=i/\i<(s.size:Int)then(s.data.toList[i.toNat]?).map fun b=>(.int .u8 b.toNat,H)else none
  |_,_=>none
 | .assert t z ok x,H=>match x with
  | .iface u v=>if u=t then some (if ok then .tuple #[v,.bool true]else v,H)else if ok then some (.tuple #[z,.bool false],H)else none
  | .nilIface=>if ok then some (.tuple #[z,.bool false],H)else none
  |_=>none
 | .extract x i,H=>match x with
  | .tuple vs=>vs.toList[i]?.map fun v=>(v,H)
  |_=>none
 | .len str x,H=>(A2h str x).map fun n=>(.int .i64 n,H)
 | .app e esz bytes s x,H=>match x with
  | .slice _ m _=>match Abf H esz x with
   |some news=>Ajd H e esz bytes s m news
   |none=>none
  |_=>none
 | .iaddrp esz n x i,H=>match x,i with
  | .pointer (some ⟨b,o,none⟩),.int _ i=>if 0<=i/\i<(n:Int)then some (ptr b (o+i.toNat*esz),H)else none
  |_,_=>none
 | .idxa agg esz n x i,H=>match x,i with
  | .agg cs,.int _ i=>if 0<=i/\i<(n:Int)then
    (if agg then(if i.toNat*esz+esz<=cs.size then some (.agg ((cs.toList.drop (i.toNat*esz)).take esz).toArray,H)else none)
    else cs.toList[i.toNat*esz]?.map fun v=>(v,H))else none
  |_,_=>none
 | .slarr esz n x lo hi mx,H=>match x with
  | .pointer (some ⟨b,o,none⟩)=>match Aj8 mx n n with
   |some m=>match Aj8 hi n m with
    |some h=>match Aj8 lo 0 h with
     |some l=>some (slc b (o+l*esz) (h-l) (m-l),H)
     |none=>none
    |none=>none
   |none=>none
  |_=>none
 | .eqs cs neg x y,H=>match x,y with
  | .agg xs,.agg ys=>(Ae6 cs xs.toList ys.toList).map fun b=>(.bool (if neg then !b else b),H)
  |_,_=>none
 | .mm mx x y,H=>match x,y with
  | .int k a,.int k' b=>if k=k' then some (.int k (if mx then(if b>a then b else a)else(if b<a then b else a)),H)else none
  |_,_=>none
 | .mm4 mx x y z w,H=>match x,y,z,w with
  | .int k a,.int k1 b,.int k2 c,.int k3 d=>if k=k1/\k=k2/\k=k3 then some (.int k (mmI mx (mmI mx (mmI mx a b) c) d),H)else none
  |_,_,_,_=>none
 | .i2str x,H=>match x with
  | .int _ n=>some (.string (Utf8.encode n),H)
  |_=>none
 | .rng x,H=>match x with
  | .string s=>some (ptr H.n 0,H.alloc (.obj true (.stringIter s 0)))
  |_=>none
 | .next x,H=>match x with
  | .pointer (some ⟨b,0,none⟩)=>match H.get b with
   |some (.obj true (.stringIter s pos))=>
    if pos<s.size then some (.tuple #[.bool true,.int .i64 pos,.int .i32 (Utf8.decode s pos).1],H.set b (.obj true (.stringIter s (pos+(Utf8.decode s pos).2))))
    else some (.tuple #[.bool false],H)
   |_=>none
  |_=>none
 | .copy esz d x,H=>match d,x with
  | .slice none n k,.slice _ _ _=>if n=0/\k=0 then some (.int .i64 0,H)else none
  | .slice (some ⟨b,o,none⟩) n _,.slice _ m _=>match Abf H esz x,H.get b with
   |some l,some (.cells own room esz' c e)=>
    if min m n=0 then some (.int .i64 0,H)
    else if own=true/\o+min m n*esz<=c.length then some (.int .i64 (min m n:Nat),H.set b (.cells own room esz' (c.take o++l.take (min m n*esz)++c.drop (o+min m n*esz)) e))else none
   |_,_=>none
  |_,_=>none
 | .clr esz z x,H=>match x with
  | .slice none n k=>if n=0/\k=0 then some (.tuple #[],H)else none
  | .slice (some ⟨b,o,none⟩) n _=>if n=0 then some (.tuple #[],H)else match H.get b with
   |some (.cells own room esz' c e)=>
    if own=true/\o+n*esz<=c.length/\z.length=esz/\z.all Value.oneCell' then some (.tuple #[],H.set b (.cells own room esz' (c.take o++(List.replicate n z).flatten++c.drop (o+n*esz)) e))else none
   |_=>none
  |_=>none
 | .apps e bytes s x,H=>match x with
  | .string t=>Ajd H e 1 bytes s t.size (t.data.toList.map fun b=>.int .u8 b.toNat)
  |_=>none
 | .appz e esz bytes z s x,H=>match x with
  | .int .i64 n=>if 0<=n/\n*(bytes:Int)<=140737488355328/\n<=140737488355328 then Ajd H e esz bytes s n.toNat (List.replicate n.toNat z).flatten else none
  |_=>none
 | .mark x,H=>match x with
  | .slice (some ⟨b,_,none⟩) _ _=>match H.get b with
   |some (.cells true _ _ _ _)=>some (x,H)
   |_=>none
  |_=>none
 | .mkmap,H=>some (.map (some H.n),H.alloc (.obj true (.map #[] 0)))
 | .mget kk z ok m k,H=>if Ayz kk k then match m with
   | .map none=>(Ap2 z ok (some none)).map fun v=>(v,H)
   | .map (some b)=>match H.get b with
    |some (.obj _ (.map es _))=>(Ap2 z ok (Instr.findNow kk k es.toList 0)).map fun v=>(v,H)
    |_=>none
   |_=>none
  else none
 | .mset kk m k x,H=>if Ayz kk k=true then match m with
   | .map (some b)=>match H.get b with
    |some (.obj true (.map es clock))=>match Instr.findNow kk k es.toList 0 with
     |some (some (i,_))=>some (undef,H.set b (.obj true (.map (es.modify i fun e=>{e with key:=k,val:=x}) clock)))
     |some none=>some (undef,H.set b (.obj true (.map (es.push {key:=k,val:=x,born:=clock}) (clock+1))))
     |none=>none
    |_=>none
   |_=>none
  else none
 | .cap x,H=>match x with
  | .slice none 0 0=>some (.int .i64 0,H)
  | .slice (some ⟨b,_,none⟩) _ k=>match H.get b with
   |some (.cells _ false _ _ _)=>some (.int .i64 k,H)
   |_=>none
  |_=>none
 |_,_=>none
def Abg(P:Program)(t:TypeId):Option Bool:=(P.underlying t).map fun d=>match d with
 | .struct _=>true
 | .array _ _=>true
 |_=>false
def Aca:Value->Bool
 | .bool _| .int _ _| .string _| .pointer none| .map none| .nilFunc| .nilIface=>true
 | .slice none 0 0=>true
 |_=>false
def Alc:Value->Bool
 | .agg cs=>cs.toList.all Aca
 | .tuple cs=>cs.toList.all Aca
 |v=>Aca v
def Acy(P:Program)(t:TypeId):Option Value:=(P.info? t).bind fun i=>match i.zero with
 |some z=>if Alc z then some z else none
 |none=>none
def Aba(P:Program)(t:TypeId):Option Nat:=(P.info? t).map (·.size)
def Adp(P:Program)(t:TypeId):Option Nat:=(P.info? t).map (·.bytes)
def Af5(P:Program)(fs:Array Field):List (Nat×Operand)->Option (List (Nat×Nat×Operand))
 |[]=>some []
 |(i,x)::r=>match fs[i]? with
  |some f=>match Aba P f.type,Af5 P fs r with
   |some n,some l=>some ((f.offset,n,x)::l)
   |_,_=>none
  |none=>none
def Adk(P:Program)(t:TypeId):Option TypeId:=match P.underlying t with
 |some (.slice e)=>some e
 |_=>none
def At3(P:Program)(e:TypeId):Bool:=match P.underlying e with
 |some (.int .u8)=>true
 |_=>false
def Adx:Operand->Bool
 | .const _=>true
 |_=>false
def Ald(f:TypeId->Option (List Nat)):List Field->Nat->Option (List Nat)
 |[],_=>some []
 |fd::r,off=>if fd.offset=off/\fd.name≠ "_" then match f fd.type with
  |some l=>(Ald f r (off+l.length)).map (l++ ·)
  |none=>none
  else none
def Aj9(P:Program):Nat->TypeId->Option (List Nat)
 |0,_=>none
 |d+1,t=>match P.underlying t with
  |some .bool=>some [0]
  |some (.int _)=>some [1]
  |some .string=>some [2]
  |some (.struct fs)=>if P.stoodInHeld t then none else Ald (fun u=>match Aj9 P d u with
   |some l=>if Aba P u=some l.length then some l else none
   |none=>none) fs.toList 0
  |some (.array n e)=>match Aj9 P d e with
   |some l=>if Aba P e=some l.length then some (List.replicate n l).flatten else none
   |none=>none
  |_=>none
def A2j(P:Program)(t:TypeId):Option (List Nat):=if P.eqGuardType P.depth t then none else Aj9 P 20 t
def Ay0(P:Program)(t:TypeId):Option TypeDesc:=match P.underlying t with
 |some .bool=>some .bool
 |some (.int k)=>some (.int k)
 |some .string=>some .string
 |_=>none
def Ale(P:Program)(t:TypeId)(name:String):Option FuncId:=(P.info? t).bind fun i=>match i.methods.find? (·.name==name)with
 |some m=>if m.path.isEmpty then match m.func,P.underlying t with
  |some (f,true),some (.pointer _)=>some f
  |some (_,false),some (.pointer _)=>none
  |some (f,false),some _=>some f
  |_,_=>none
  else none
 |none=>none
def Aaw(P:Program)(o:Oper):AOp Operand:=
 match o.op with
 | .move x=>.mov x
 | .assign x=>.mov x
 | .pick c a b=>.pick c a b
 | .alloc e=>match Acy P e,Aba P e with
  |some z,some n=>.new e n z.cells.toList
  |_,_=>.bad
 | .box e x=>match Aba P e with
  |some n=>.box e n x
  |none=>.bad
 | .build t ps=>match Acy P t,P.underlying t with
  |some z,some (.struct fs)=>match fs.toList.mapM (fun f=>Aba P f.type),Af5 P fs ps.toList with
   |some _,some qs=>.build z.cells.toList qs
   |_,_=>.bad
  |some z,some (.array _ e)=>match Aba P e with
   |some n=>.build z.cells.toList (ps.toList.map fun p=>(p.1*n,n,p.2))
   |none=>.bad
  |_,_=>.bad
 | .buildSlice t len ps=>match Adk P t with
  |some e=>match Acy P e,Aba P e with
   |some z,some n=>if z.cells.size=n/\0<n/\len*n<=16777216 then .bslice e n len (List.replicate len z.cells.toList).flatten (ps.toList.map fun p=>(p.1*n,n,p.2))else .bad
   |_,_=>.bad
  |none=>.bad
 | .load t x=>match Abg P t,Aba P t with
  |some true,some n=>.loadn n x
  |some false,_=>.load1 x
  |_,_=>.bad
 | .store t a x=>match Aba P t with
  |some n=>if n=1/\Abg P t=some false then .store1 a x else .storen n a x
  |none=>.bad
 | .nilCheck x=>.nilck x
 | .binOp op t x y _=>match op with
  | .eql=>match P.underlying t with
   |some (.int _)=>.bin op x y
   |some .string=>.bin op x y
   |some .bool=>.eqv 0 false x y
   |some (.pointer _)=>.eqv 1 false x y
   |some (.slice _)=>.eqv 2 false x y
   |some (.map _ _)=>.eqv 3 false x y
   |some (.func _ _ _)=>.eqv 4 false x y
   |some (.interface _)=>.eqv (if Adx x||Adx y then 6 else 5) false x y
   |some (.struct _)=>match A2j P t with
    |some cs=>.eqs cs false x y
    |none=>.bad
   |some (.array _ _)=>match A2j P t with
    |some cs=>.eqs cs false x y
    |none=>.bad
   |_=>.bad
  | .neq=>match P.underlying t with
   |some (.int _)=>.bin op x y
   |some .string=>.bin op x y
   |some .bool=>.eqv 0 true x y
   |some (.pointer _)=>.eqv 1 true x y
   |some (.slice _)=>.eqv 2 true x y
   |some (.map _ _)=>.eqv 3 true x y
   |some (.func _ _ _)=>.eqv 4 true x y
   |some (.interface _)=>.eqv (if Adx x||Adx y then 6 else 5) true x y
   |some (.struct _)=>match A2j P t with
    |some cs=>.eqs cs true x y
    |none=>.bad
   |some (.array _ _)=>match A2j P t with
    |some cs=>.eqs cs true x y
    |none=>.bad
   |_=>.bad
  |_=>.bin op x y
 | .unOp op _ x=>.un op x
 | .convert src dst x=>match P.underlying src,P.underlying dst with
  |some (.int _),some (.int k)=>.i2i k x
  |some (.int _),some .string=>.i2str x
  |some .string,some .string=>.s2s x
  |some .string,some (.slice e)=>if At3 P e then .s2b e x else .bad
  |some (.slice e),some .string=>if At3 P e then .b2s x else .bad
  |some (.slice _),some (.slice e)=>if At3 P e&&src==dst then .mark x else .bad
  |_,_=>.bad
 | .makeInterface t x=>match P.underlying t with
  |some (.interface _)=>.bad
  |some _=>.iface t x
  |none=>.bad
 | .makeFunc fn xs ys=>.mkfn fn xs.toList ys.toList
 | .makeSlice t l c=>match Adk P t with
  |some e=>match Acy P e,Aba P e,Adp P e with
   |some z,some n,some b=>if z.cells.size=n/\0<n then .mksl e n b z.cells.toList l c else .bad
   |_,_,_=>.bad
  |none=>.bad
 | .slice t x lo hi mx=>match P.underlying t with
  |some .string=>if mx.isNone then .slstr x lo hi else .bad
  |some (.slice e)=>match Aba P e with
   |some n=>if mx.isSome&&hi.isNone then .bad else .slsl n x lo hi mx
   |none=>.bad
  |some (.array len e)=>match Aba P e with
   |some n=>if mx.isSome&&hi.isNone then .bad else .slarr n len x lo hi mx
   |none=>.bad
  |_=>.bad
 | .fieldAddr t x f=>match P.underlying t with
  |some (.struct fs)=>match fs[f]? with
   |some fd=>if(Aba P fd.type).getD 0=0 then .bad else .faddr fd.offset x
   |none=>.bad
  |_=>.bad
 | .field t x f=>match P.underlying t with
  |some (.struct fs)=>match fs[f]? with
   |some fd=>match Abg P fd.type,Aba P fd.type with
    |some true,some n=>.fldn fd.offset n x
    |some false,_=>.fld1 fd.offset x
    |_,_=>.bad
   |none=>.bad
  |_=>.bad
 | .indexAddr t x i=>match Adk P t with
  |some e=>match Aba P e with
   |some n=>.iaddr n x i
   |none=>.bad
  |none=>match P.underlying t with
   |some (.array len e)=>match Aba P e with
    |some n=>.iaddrp n len x i
    |none=>.bad
   |_=>.bad
 | .index t x i=>match P.underlying t with
  |some .string=>.idxs x i
  |some (.array len e)=>match Abg P e,Aba P e with
   |some a,some n=>.idxa a n len x i
   |_,_=>.bad
  |_=>.bad
 | .typeAssert x _ u ok=>match P.underlying u with
  |some (.interface _)=>.bad
  |some _=>match Acy P u with
   |some z=>.assert u z ok x
   |none=>.bad
  |none=>.bad
 | .extract x i=>.extract x i
 | .range t x=>match P.underlying t with
  |some .string=>.rng x
  |_=>.bad
 | .next x str=>if str then .next x else .bad
 | .makeMap _ r=>if r.isNone then .mkmap else .bad
 | .lookup t m k ok=>match P.underlying t with
  |some (.map kt et)=>match Ay0 P kt,Acy P et with
   |some kk,some z=>.mget kk z ok m k
   |_,_=>.bad
  |_=>.bad
 | .mapUpdate t m k x=>match P.underlying t with
  |some (.map kt _)=>match Ay0 P kt with
   |some kk=>.mset kk m k x
   |_=>.bad
  |_=>.bad
 | .insert t m k x=>match P.underlying t with
  |some (.map kt _)=>match Ay0 P kt with
   |some kk=>.mset kk m k x
   |_=>.bad
  |_=>.bad
 | .call c=>match c.callee with
  | .value (.func f)=>.callf f c.args.toList
  | .value f=>.callv f c.args.toList
  | .invoke r name=>.inv name r c.args.toList
  | .builtin .cap=>match c.args.toList,c.argTypes.toList with
   |[x],[t]=>match P.underlying t with
    |some (.slice _)=>.cap x
    |_=>.bad
   |_,_=>.bad
  | .builtin .len=>match c.args.toList,c.argTypes.toList with
   |[x],[t]=>match P.underlying t with
    |some .string=>.len true x
    |some (.slice _)=>.len false x
    |_=>.bad
   |_,_=>.bad
  | .builtin .append=>match c.args.toList,c.argTypes.toList with
   |[s,x],[t,u]=>match Adk P t,P.underlying u with
    |some e,some (.slice _)=>match Acy P e,Aba P e,Adp P e with
     |some z,some n,some b=>if z.cells.size=n/\0<n/\z.cells.toList.all Aca=true then .app e n b s x else .bad
     |_,_,_=>.bad
    |some e,some .string=>match Acy P e,Aba P e,Adp P e with
     |some z,some 1,some b=>if z.cells.size=1&&At3 P e&&z.cells.toList.all Aca then .apps e b s x else .bad
     |_,_,_=>.bad
    |some e,some (.int .i64)=>match Acy P e,Aba P e,Adp P e with
     |some z,some n,some b=>if z.cells.size=n/\0<n/\z.cells.toList.all Aca=true then .appz e n b z.cells.toList s x else .bad
     |_,_,_=>.bad
    |_,_=>.bad
   |_,_=>.bad
  | .builtin .max=>match c.args.toList with
   |[x,y]=>.mm true x y
   |[x,y,z,w]=>.mm4 true x y z w
   |_=>.bad
  | .builtin .min=>match c.args.toList with
   |[x,y]=>.mm false x y
   |[x,y,z,w]=>.mm4 false x y z w
   |_=>.bad
  | .builtin .copy=>match c.args.toList,c.argTypes.toList with
   |[d,s],[t,u]=>match Adk P t,P.underlying u with
    |some e,some (.slice _)=>match Aba P e with
     |some n=>.copy n d s
     |none=>.bad
    |_,_=>.bad
   |_,_=>.bad
  | .builtin .clear=>match c.args.toList,c.argTypes.toList with
   |[x],[t]=>match Adk P t with
    |some e=>match Acy P e,Aba P e with
     |some z,some n=>if z.cells.size=n/\0<n then .clr n z.cells.toList x else .bad
     |_,_=>.bad
    |none=>.bad
   |_,_=>.bad
  |_=>.bad
 |_=>.bad
def Res(ng:Nat)(σ:Sg)(H:Aaa)(w:World)(r:Result Next)(v:Value)(H':Aaa):Prop:=
 ∃nx v' w' σ',r=.ok nx w'/\(nx=.value v'\/(nx=.skip/\v'=undef))/\HR ng σ' H'.get w'/\Ext H.n σ H.get w H'.n σ' H'.get w'/\VR σ' v v'
section
variable {P:Program} {ng:Nat} {σ:Sg} {H H':Aaa} {w:World} {v:Value}
theorem Res.pure(hr:HR ng σ H.get w){r:Result Next}{v':Value}(h:r=.ok (.value v') w)(hv:VR σ v v'):Res ng σ H w r v H:=
 ⟨_,v',w,σ,h,.inl rfl,hr,Ext.refl _ _ _ _,hv⟩
theorem OR.cell{i:BI}{own room:Bool}{esz:Nat}{c:List Value}{e:TypeId}(h:OR σ w i (.cells own room esz c e)){k:Nat}{v:Value}(hk:c[k]? =some v):
 ∃v',w.cell? ⟨i.c,i.off+k,none⟩=some v'/\VR σ v v':=by
 obtain⟨_,_,_,_,_,c',fr,h5,_,h7,_⟩:=h
 obtain⟨v',e1,e2⟩:=h7.get hk
 refine⟨v',?_,e2⟩
 rw[cell_of_row w i.c _ c' e fr h5]
 rw[List.getElem?_take]at e1
 split at e1
 ·rw[List.getElem?_drop]at e1
  simpa using e1
 ·cases e1
theorem Acb(b o n:Nat):(⟨b,o,none⟩:Addr).add n=⟨b,o+n,none⟩:=by
 unfold Addr.add
 split
 ·rename_i h;subst h;rfl
 ·rfl
theorem OR.range{i:BI}{own room:Bool}{esz:Nat}{c:List Value}{e:TypeId}(h:OR σ w i (.cells own room esz c e))(o n:Nat)(hn:o+n<=c.length):
 ∃l',VL σ ((c.drop o).take n) l'/\l'.length=n/\∀j v,l'[j]? =some v->w.cell? ((⟨i.c,i.off+o,none⟩:Addr).add j)=some v:=by
 obtain⟨_,_,_,_,_,c',fr,h5,_,h7,_⟩:=h
 refine⟨((((c'.toList.drop i.off).take c.length).drop o).take n),(h7.drop o).take n,?_,?_⟩
 ·have:=((h7.drop o).take n).length
  rw[<-this];simp;omega
 ·intro j v hj
  rw[Acb,cell_of_row w i.c _ c' e fr h5]
  rw[List.getElem?_take]at hj
  split at hj
  ·rw[List.getElem?_drop,List.getElem?_take]at hj
   split at hj
   ·rw[List.getElem?_drop]at hj
    rw[<-hj];simp[Nat.add_assoc]
   ·cases hj
  ·cases hj
theorem Aia(hr:HR ng σ H.get w){b o:Nat}{i:BI}(hb:σ b=some i){v:Value}(h:Ag2 H b o=some v):∃v',w.cell? ⟨i.c,i.off+o,none⟩=some v'/\VR σ v v':=by
 obtain⟨ob,h1,h2⟩:=hr.obj b i hb
 unfold Ag2 at h
 rw[h1]at h
 cases ob with
 |cells own room esz c e=>exact h2.cell h
 |dead=>cases h
 |obj own o=>cases h
 |loop own st pe L=>cases h
theorem Ahk(hr:HR ng σ H.get w){b o n:Nat}{i:BI}(hb:σ b=some i){l:List Value}(h:Adf H b o n=some l):
 l.length=n/\∃l',VL σ l l'/\l'.length=n/\∀j v,l'[j]? =some v->w.cell? ((⟨i.c,i.off+o,none⟩:Addr).add j)=some v:=by
 obtain⟨ob,h1,h2⟩:=hr.obj b i hb
 unfold Adf at h
 rw[h1]at h
 cases ob with
 |cells own room esz c e=>
  simp only at h
  split at h
  ·rename_i hn
   cases h
   exact⟨by simp;omega,h2.range o n hn⟩
  ·cases h
 |dead=>cases h
 |obj own o=>cases h
 |loop own st pe L=>cases h
theorem Adg{t:TypeId}{b:Bool}(h:Abg P t=some b)(w:World):(isAgg t).run P w=.ok b w:=by
 unfold Abg at h
 cases hu:P.underlying t with
 |none=>rw[hu]at h;cases h
 |some d=>
  rw[hu]at h
  simp only[Option.map_some,Option.some.injEq]at h
  subst h
  cases d<;>simp[isAgg,run_underlying hu]
theorem Aa2{t n:Nat}(h:Aba P t=some n)(w:World):(sizeOf t).run P w=.ok n w:=by
 unfold Aba at h
 cases hi:P.info? t with
 |none=>rw[hi]at h;cases h
 |some i=>rw[hi]at h;cases h;simp[sizeOf,typeInfo,hi]
theorem Ac1{t:TypeId}{z:Value}(h:Acy P t=some z)(w:World):(zeroValue t).run P w=.ok z w:=by
 unfold Acy at h
 cases hi:P.info? t with
 |none=>rw[hi]at h;cases h
 |some i=>
  rw[hi]at h
  simp only[Option.bind_some]at h
  split at h
  ·rename_i z' hz
   split at h
   ·cases h;simp[zeroValue,typeInfo,hi,hz]
   ·cases h
  ·cases h
theorem Aib{v:Value}(h:Aca v=true):VR σ v v:=by
 unfold Aca at h
 split at h<;>first|constructor|cases h
theorem Aic:∀{l:List Value},l.all Aca=true->VL σ l l
 |[],_=>.nil
 |v::l,h=>by
  simp only[List.all_cons,Bool.and_eq_true]at h
  exact .cons (Aib h.1) (Aic h.2)
theorem Afb{v:Value}(h:Alc v=true):VR σ v v:=by
 unfold Alc at h
 split at h
 ·have:=VR.agg_of (Aic (σ:=σ) h);simpa using this
 ·have:=VR.tuple_of (Aic (σ:=σ) h);simpa using this
 ·exact Aib h
theorem Af6{t:TypeId}{z:Value}(h:Acy P t=some z):Alc z=true:=by
 unfold Acy at h
 cases hi:P.info? t with
 |none=>rw[hi]at h;cases h
 |some i=>
  rw[hi]at h
  simp only[Option.bind_some]at h
  split at h
  ·split at h
   ·rename_i hp;cases h;exact hp
   ·cases h
  ·cases h
theorem Adc{t:TypeId}{z:Value}(h:Acy P t=some z):VL σ z.cells.toList z.cells.toList:=(Afb (Af6 h)).cells
theorem Ap3(hr:HR ng σ H.get w){t:TypeId}{a a':Value}(ha:VR σ a a')(ht:Abg P t=some false)(hs:Aak (.load1 a) H=some (v,H')):
 Res ng σ H w ((do pure (Next.value (<-Instr.loadAt t a')):Sem Next).run P w) v H':=by
 cases ha with
 | @ptr b o i hb=>
  simp only[Aak,Option.map_eq_some_iff,Prod.mk.injEq]at hs
  obtain⟨u,hu,rfl,rfl⟩:=hs
  obtain⟨v',h1,h2⟩:=Aia hr hb hu
  exact Res.pure hr (by simp[Instr.loadAt,Instr.sureAddr,loadVar,Adg ht,h1]) h2
 |_=>simp[Aak]at hs
theorem Ap4(hr:HR ng σ H.get w){t n:Nat}{a a':Value}(ha:VR σ a a')(ht:Abg P t=some true)(hn:Aba P t=some n)(hs:Aak (.loadn n a) H=some (v,H')):
 Res ng σ H w ((do pure (Next.value (<-Instr.loadAt t a')):Sem Next).run P w) v H':=by
 cases ha with
 | @ptr b o i hb=>
  simp only[Aak,Option.map_eq_some_iff,Prod.mk.injEq]at hs
  obtain⟨l,hu,rfl,rfl⟩:=hs
  obtain⟨_,l',h1,h2,h3⟩:=Ahk hr hb hu
  have hl:=run_loadCells_list (P:=P) w _ l' h3
  rw[h2]at hl
  exact Res.pure hr (by simp[Instr.loadAt,Instr.sureAddr,loadVar,Adg ht,Aa2 hn,hl]) (VR.agg_of h1)
 |_=>simp[Aak]at hs
theorem Aex(g o:Nat)(t:TypeId)(fr:Nat×Nat):∀(vs:List Value) (i:Nat) (cur:Array Value) (w:World),w.heap[g]? =some (.cells cur t fr)->o+i+vs.length<=cur.size→
 (∀v∈vs,v.oneCell'=true)->(∀k,o<=k->k<cur.size->¬(fr.1<=k/\k<fr.2))→
 ∃w' cur',(storeCells ⟨g,o,none⟩ vs i).run P w=.ok () w'/\w'.heap[g]? =some (.cells cur' t fr)/\cur'.toList=cur.toList.take (o+i)++vs++cur.toList.drop (o+i+vs.length)∧
  (∀k,k≠g->w'.heap[k]? =w.heap[k]?)/\w'.heap.size=w.heap.size/\w'.os=w.os/\w'.tape=w.tape/\w'.output=w.output
 |[],i,cur,w,hg,_,_,_=>⟨w,cur,by simp[storeCells],hg,by simp,fun _ _=>rfl,rfl,rfl,rfl,rfl⟩
 |v::rest,i,cur,w,hg,hl,h1,hf=>by
  have hl':o+i+rest.length+1<=cur.size:=by simp only[List.length_cons]at hl;omega
  have hlt':o+i<cur.size:=by omega
  have hc:w.cell? ⟨g,o+i,none⟩=some (cur[o+i]'hlt'):=by
   rw[cell_of_row w g _ cur t fr hg];exact Array.getElem?_eq_getElem hlt'
  have hz:w.frozen? ⟨g,o+i,none⟩=false:=by
   have:=hf (o+i) (by omega) hlt'
   simp only[World.frozen?,hg]
   simpa using this
  have hg':(w.setCell ⟨g,o+i,none⟩ v).heap[g]? =some (.cells (cur.setIfInBounds (o+i) v) t fr):=by
   simp[World.setCell,Array.getElem?_modify,hg]
  obtain⟨w',cur',e1,e2,e3,e4,e5,e6,e7,e8⟩:=Aex g o t fr rest (i+1) _ _ hg' (by simp only[Array.size_setIfInBounds];omega) (fun u hu=>h1 u (by simp[hu])) (by simpa using hf)
  refine⟨w',cur',?_,e2,?_,fun k hk=>(e4 k hk).trans ?_,e5.trans (by simp),e6,e7,e8⟩
  ·simp only[storeCells,Acb,Sem.run_bind,run_store P w _ v .plain (h1 v (by simp)),hc,hz,Result.andThen]
   simpa using e1
  ·rw[e3]
   have hlt:o+i<cur.toList.length:=by simpa using hlt'
   simp only[Array.toList_setIfInBounds,List.length_cons]
   rw[List.take_set,List.drop_set]
   rw[show o+(i+1)=(o+i)+1 by omega,if_pos (by omega),List.take_succ_eq_append_getElem hlt]
   rw[List.set_append_right _ _ (by simp;omega)]
   have hm:min (o+i) cur.size=o+i:=by omega
   simp[hm]
   omega
  ·simp[World.setCell,Array.getElem?_modify,show g≠k from fun e=>hk e.symm]
theorem Afc(hr:HR ng σ H.get w){b o:Nat}{i:BI}(hb:σ b=some i){room:Bool}{esz:Nat}{c:List Value}{e:TypeId}(hG:H.get b=some (.cells true room esz c e))
 {vs vs':List Value} (hv:VL σ vs vs') (hn:o+vs.length<=c.length) (h1:∀v∈vs,v.oneCell'=true) (h1':∀v∈vs',v.oneCell'=true):
 ∃w',(storeCells ⟨i.c,i.off+o,none⟩ vs').run P w=.ok () w'/\HR ng σ (H.set b (.cells true room esz (c.take o++vs++c.drop (o+vs.length)) e)).get w'∧
  Ext H.n σ H.get w (H.set b (.cells true room esz (c.take o++vs++c.drop (o+vs.length)) e)).n σ (H.set b (.cells true room esz (c.take o++vs++c.drop (o+vs.length)) e)).get w':=by
 obtain⟨ob,g1,g2⟩:=hr.obj b i hb
 rw[hG]at g1;cases g1
 obtain⟨a1,a2,a3,a4,a9,c',fr,a5,a6,a7,a8⟩:=g2
 have hvl:=hv.length
 obtain⟨w',cur',e1,e2,e3,e4,e5,e6,e7,e8⟩:=Aex (P:=P) i.c (i.off+o) e fr vs' 0 c' w a5 (by omega) h1' (fun k hk hk2=>Bbh (a8 rfl).1 k hk2)
 have hlt:=Aaa.Bfg hG
 have hsz:cur'.size=c'.size:=by
  rw[<-Array.length_toList,e3]
  simp;omega
 refine⟨w',e1,HR.upd (o2:=.cells true room esz (c.take o++vs++c.drop (o+vs.length)) e) hr hb hG rfl e4 e5 (fun x hx=>Aaa.Bff H hx hlt _) (Aaa.Bfe hG _) ?_,?_⟩
 ·refine⟨by rw[a1];simp;omega,a2,a3,by simp;omega,?_,cur',fr,e2,by omega,?_,fun _=>⟨by have:=(a8 rfl).1;omega,fun hr2 v hv2=>(a8 rfl).2 hr2 v ?_⟩⟩
  ·intro u hu
   simp only[List.mem_append]at hu
   rcases hu with(hu|hu)|hu
   ·exact a9 u (List.mem_of_mem_take hu)
   ·exact h1 u hu
   ·exact a9 u (List.mem_of_mem_drop hu)
  ·rw[e3]
   have hlen:(c.take o++vs++c.drop (o+vs.length)).length=c.length:=by simp;omega
   rw[hlen]
   have key:((c'.toList.take (i.off+o+0)++vs'++c'.toList.drop (i.off+o+0+vs'.length)).drop i.off).take c.length=
    (((c'.toList.drop i.off).take c.length).take o++vs'++((c'.toList.drop i.off).take c.length).drop (o+vs.length)):=by
    apply List.ext_getElem?
    intro j
    have hcl:c'.toList.length=i.off+i.top:=by simpa using a6
    simp only[List.getElem?_take,List.getElem?_drop,List.getElem?_append,List.length_take,List.length_drop,List.length_append,hcl,Nat.add_zero]
    by_cases hj:j<c.length
    ·by_cases h2:j<o
     ·simp only[hj,h2,if_true]
      rw[if_pos (by omega),if_pos (by omega),if_pos (by omega),if_pos (by omega),if_pos (by omega)]
     ·by_cases h3:j<o+vs.length
      ·simp only[hj,if_true]
       rw[if_pos (by omega),if_neg (by omega),if_pos (by omega),if_neg (by omega)]
       congr 1;omega
      ·simp only[hj,if_true]
       rw[if_neg (by omega),if_neg (by omega),if_pos (by omega)]
       congr 1;omega
    ·simp only[hj,if_false]
     rw[if_neg (by omega),if_neg (by omega)]
   rw[key]
   exact((a7.take o).append hv).append (a7.drop _)
  ·have hlen:(c.take o++vs++c.drop (o+vs.length)).length=c.length:=by simp;omega
   rw[hlen,e3]at hv2
   have key:(c'.toList.take (i.off+o+0)++vs'++c'.toList.drop (i.off+o+0+vs'.length)).drop (i.off+c.length)=c'.toList.drop (i.off+c.length):=by
    have hcl:c'.toList.length=i.off+i.top:=by simpa using a6
    rw[List.drop_append,List.drop_of_length_le (by simp only[List.length_append,List.length_take,hcl];omega),List.nil_append,List.drop_drop]
    congr 1
    simp only[List.length_append,List.length_take,hcl]
    omega
   rw[key]at hv2
   exact hv2
 ·refine⟨Sg.le.refl σ,(fun x j hx hx'=>by rw[hx]at hx';cases hx'),fun x j o' hx ho hown=>?_,fun x j o' hx ho hlv=>?_,fun k hk hne=>e4 k (fun he=>hne b i _ hb hG rfl he.symm),by omega,by simp[Aaa.set],e6,e7,e8⟩
  by_cases hxb:x=b
  ·subst hxb;exact⟨_,hG,rfl⟩
  ·rw[Aaa.Bff H hxb hlt]at ho;exact⟨o',ho,hown⟩
  by_cases hxb:x=b
  ·subst hxb;exact⟨_,hG,rfl⟩
  ·rw[Aaa.Bff H hxb hlt]at ho;exact⟨o',ho,hlv⟩
theorem VR.one{v v':Value}(h:VR σ v v'):v'.oneCell'=v.oneCell':=by cases h<;>rfl
theorem VL.one{l l':List Value}(h:VL σ l l')(h1:∀v∈l,v.oneCell'=true):∀v∈l',v.oneCell'=true:=by
 induction h with
 |nil=>simp
 |cons a _ ih=>
  intro u hu
  simp only[List.mem_cons]at hu
  rcases hu with rfl|hu
  ·rw[a.one];exact h1 _ (by simp)
  ·exact ih (fun v hv=>h1 v (by simp[hv])) u hu
theorem Aid{v:Value}(h:v.oneCell'=true):v.cells= #[v]:=by cases v<;>simp_all[Value.cells,Value.oneCell']
theorem Aoz(hr:HR ng σ H.get w){t:TypeId}{a a' x x':Value}(ha:VR σ a a')(hx:VR σ x x')(ht:Aba P t=some 1)(hs:Aak (.store1 a x) H=some (v,H')):
 Res ng σ H w ((do Instr.storeAt t a' x';pure Next.skip:Sem Next).run P w) v H':=by
 cases ha with
 | @ptr b o i hb=>
  simp only[Aak]at hs
  split at hs
  ·rename_i room esz c e hG
   split at hs
   ·rename_i hc
    cases hs
    have h1:∀u∈[x],u.oneCell'=true:=by simpa using hc.2
    have h1':∀u∈[x'],u.oneCell'=true:=by simp[hx.one,hc.2]
    obtain⟨w',e1,e2,e3⟩:=Afc (P:=P) hr hb hG (.cons hx .nil) (o:=o) (by simp;omega) h1 h1'
    have es:c.take o++[x]++c.drop (o+[x].length)=c.set o x:=by
     rw[List.set_eq_take_append_cons_drop,if_pos hc.1];simp
    rw[es]at e2 e3
    have hcx:x'.cells= #[x']:=Aid (by rw[hx.one];exact hc.2)
    refine⟨.skip,undef,w',σ,?_,.inr ⟨rfl,rfl⟩,e2,e3,.tuple _ _ rfl (fun i a=>by simp at a)⟩
    simp[Instr.storeAt,Instr.sureAddr,storeVar,hcx,Aa2 ht,e1]
   ·cases hs
  ·cases hs
 |_=>simp[Aak]at hs
theorem Ao0(hr:HR ng σ H.get w){t n:Nat}{a a' x x':Value}(ha:VR σ a a')(hx:VR σ x x')(ht:Aba P t=some n)(hs:Aak (.storen n a x) H=some (v,H')):
 Res ng σ H w ((do Instr.storeAt t a' x';pure Next.skip:Sem Next).run P w) v H':=by
 cases ha with
 | @ptr b o i hb=>
  simp only[Aak]at hs
  split at hs
  ·rename_i room esz c e hG
   split at hs
   ·rename_i hc
    obtain⟨c1,c2,c3⟩:=hc
    cases hs
    have h1:∀u∈x.cells.toList,u.oneCell'=true:=fun u hu=>List.all_eq_true.1 c3 u hu
    have hcl:=hx.cells
    have h1':=hcl.one h1
    obtain⟨w',e1,e2,e3⟩:=Afc (P:=P) hr hb hG hcl (o:=o) (by omega) h1 h1'
    rw[c2]at e2 e3
    have hsz:x'.cells.size=n:=by rw[<-Array.length_toList,<-hcl.length];exact c2
    refine⟨.skip,undef,w',σ,?_,.inr ⟨rfl,rfl⟩,e2,e3,.tuple _ _ rfl (fun i a=>by simp at a)⟩
    simp[Instr.storeAt,Instr.sureAddr,storeVar,hsz,Aa2 ht,e1]
   ·cases hs
  ·cases hs
 |_=>simp[Aak]at hs
end
section
variable {P:Program} {ng:Nat} {σ:Sg} {H H':Aaa} {w:World} {v:Value}
theorem VL.oneAll{l:List Value}(h:l.all Value.oneCell'=true):∀u∈l,u.oneCell'=true:=fun u hu=>List.all_eq_true.1 h u hu
theorem Age(hr:HR ng σ H.get w){e:TypeId}{room:Bool}{esz:Nat}{c c':List Value}(hv:VL σ c c')(h1:∀u∈c,u.oneCell'=true):
 HR ng (σ.up H.n ⟨w.heap.size,0,c.length,c'.length,esz,room⟩) (H.alloc (.cells true room esz c e)).get (w.alloc (.cells c'.toArray e))∧
 Ext H.n σ H.get w (H.alloc (.cells true room esz c e)).n (σ.up H.n ⟨w.heap.size,0,c.length,c'.length,esz,room⟩) (H.alloc (.cells true room esz c e)).get (w.alloc (.cells c'.toArray e)):=by
 have hl:=hv.length
 have hor:OR σ (w.alloc (.cells c'.toArray e)) ⟨w.heap.size,0,c.length,c'.toArray.size,esz,room⟩ (.cells true room esz c e):=
  OR.cells_new (w:=w) true room esz (by simp[hl]) h1 (by rw[hl];simpa using hv) (fun _=>.inl rfl) (fun _=>by rw[List.toList_toArray,hl,List.drop_length];intro v h;cases h)
 simp only[List.size_toArray]at hor
 exact hr.alloc rfl hor rfl rfl rfl rfl
theorem Ay2(hr:HR ng σ H.get w){e n:Nat}{z:Value}(hz:Acy P e=some z)(hp:VL σ z.cells.toList z.cells.toList)(hs:Aak (.new e n z.cells.toList) H=some (v,H')):
 Res ng σ H w ((do pure (Next.value (<-Instr.alloc e true (.tuple #[]))):Sem Next).run P w) v H':=by
 simp only[Aak]at hs
 split at hs
 ·rename_i h1
  cases hs
  obtain⟨e1,e2⟩:=Age hr (e:=e) (room:=false) (esz:=n) hp (VL.oneAll h1)
  refine⟨_,.pointer (some ⟨w.heap.size,0,none⟩),_,_,?_,.inl rfl,e1,e2,?_⟩
  ·simp[Instr.alloc,Ac1 hz,newVar,newRow]
  ·exact VR.ptr (i:=⟨w.heap.size,0,_,_,_,_⟩) (Sg.Bfj _ _ _)
 ·cases hs
theorem Ay3(hr:HR ng σ H.get w){e n:Nat}{x x':Value}(hx:VR σ x x')(hs:Aak (.box e n x) H=some (v,H')):
 Res ng σ H w ((do pure (Next.value (<-Instr.box e x')):Sem Next).run P w) v H':=by
 simp only[Aak]at hs
 split at hs
 ·rename_i h1
  cases hs
  obtain⟨e1,e2⟩:=Age hr (e:=e) (room:=false) (esz:=n) hx.cells (VL.oneAll h1)
  refine⟨_,.pointer (some ⟨w.heap.size,0,none⟩),_,_,?_,.inl rfl,e1,e2,?_⟩
  ·simp[Instr.box,newVar,newRow]
  ·exact VR.ptr (i:=⟨w.heap.size,0,_,_,_,_⟩) (Sg.Bfj _ _ _)
 ·cases hs
theorem Ah1{σ:Sg}(pl:Nat->Option (Nat×Nat)):∀(ps:List (Nat×Nat×Value)) (qs:List (Nat×Value)) (c c' r:List Value),VL σ c c'→
 ps.length=qs.length->(∀(j o n:Nat) (v:Value),ps[j]? =some (o,n,v)->∃i v',qs[j]? =some (i,v')/\pl i=some (o,n)/\VR σ v v')->Aau c ps=some r→
 ∃r',Instr.fill pl c'.toArray qs=some r'.toArray/\VL σ r r'
 |[],[],c,c',r,hc,_,_,hf=>by simp[Aau]at hf;subst hf;exact⟨c',by simp[Instr.fill],hc⟩
 |[],_::_,_,_,_,_,hl,_,_=>by simp at hl
 |_::_,[],_,_,_,_,hl,_,_=>by simp at hl
 |(o,n,v)::ps,q::qs,c,c',r,hc,hl,hq,hf=>by
  obtain⟨i,v',e1,e2,e3⟩:=hq 0 o n v rfl
  simp at e1;subst e1
  simp only[Aau]at hf
  split at hf
  ·rename_i hcond
   obtain⟨k1,k2⟩:=hcond
   have hvc:=e3.cells
   have hsz:v'.cells.size=n:=by rw[<-Array.length_toList,<-hvc.length];exact k1
   have hcl:=hc.length
   have hstep:(v'.cells.zipIdx.foldl (fun cs (x,j)=>cs.setIfInBounds (o+j) x) c'.toArray)=(c'.take o++v'.cells.toList++c'.drop (o+n)).toArray:=by
    have gen:∀(l:List Value) (k:Nat) (d:List Value),o+k+l.length<=d.length→
     ((l.zipIdx k).foldl (fun cs (x,j)=>cs.setIfInBounds (o+j) x) d.toArray)=(d.take (o+k)++l++d.drop (o+k+l.length)).toArray:=by
     intro l
     induction l with
     |nil=>intro k d _;simp
     |cons a l ih=>
      intro k d hd
      simp only[List.zipIdx_cons,List.foldl_cons,List.setIfInBounds_toArray]
      simp only[List.length_cons]at hd
      rw[ih (k+1) (d.set (o+k) a) (by simp;omega)]
      congr 1
      apply List.ext_getElem?
      intro j
      simp only[List.getElem?_append,List.getElem?_take,List.getElem?_drop,List.getElem?_set,List.length_take,List.length_append,List.length_set,List.length_cons,List.getElem?_cons]
      by_cases h1:j<o+k
      ·rw[if_pos (by omega),if_pos (by omega),if_pos (by omega),if_neg (by omega),if_pos (by omega),if_pos (by omega),if_pos (by omega)]
      ·by_cases h2:j=o+k
       ·subst h2
        rw[if_pos (by omega),if_pos (by omega),if_pos (by omega),if_pos rfl,if_pos (by omega),if_pos (by omega),if_neg (by omega),if_pos (by omega)]
       ·by_cases h3:j<o+k+1+l.length
        ·rw[if_pos (by omega),if_neg (by omega),if_pos (by omega),if_neg (by omega),if_neg (by omega)]
         congr 1;omega
        ·rw[if_neg (by omega),if_neg (by omega),if_neg (by omega)]
         congr 1;omega
    have:=gen v'.cells.toList 0 c' (by rw[Array.length_toList,hsz];omega)
    simp only[Nat.add_zero,Array.length_toList,hsz]at this
    rw[<-this,<-Array.foldl_toList]
    congr 1
    simp
   obtain⟨r',f1,f2⟩:=Ah1 pl ps qs (c.take o++v.cells.toList++c.drop (o+n)) (c'.take o++v'.cells.toList++c'.drop (o+n)) r
    (((hc.take o).append hvc).append (hc.drop _)) (by simpa using hl) (fun j o' n' u hj=>by simpa using hq (j+1) o' n' u (by simpa using hj)) hf
   refine⟨r',?_,f2⟩
   simp only[Instr.fill,e2,hsz]
   rw[if_neg (by simp;omega),hstep]
   exact f1
  ·cases hf
theorem Aie{fs:Array Field}(ev:Operand->Value):∀(ps:List (Nat×Operand)) (qs:List (Nat×Nat×Operand)),Af5 P fs ps=some qs→
 (qs.map fun p=>(p.1,p.2.1,ev p.2.2)).length=ps.length/\∀(j o n:Nat) (v:Value),(qs.map fun p=>(p.1,p.2.1,ev p.2.2))[j]? =some (o,n,v)→
  ∃i x f,ps[j]? =some (i,x)/\fs[i]? =some f/\f.offset=o/\Aba P f.type=some n/\v=ev x
 |[],qs,h=>by simp[Af5]at h;subst h;simp
 |(i,x)::ps,qs,h=>by
  simp only[Af5]at h
  split at h
  ·rename_i f hf
   split at h
   ·rename_i n l hn hl
    cases h
    obtain⟨e1,e2⟩:=Aie ev ps l hl
    refine⟨by simpa using e1,fun j o m v hj=>?_⟩
    cases j with
    |zero=>
     simp at hj
     obtain⟨rfl,rfl,rfl⟩:=hj
     exact⟨i,x,f,rfl,hf,rfl,hn,rfl⟩
    |succ j=>simpa using e2 j o m v (by simpa using hj)
   ·cases h
  ·cases h
theorem Aif(fs:Array Field)(ns:List Nat)(h:fs.toList.mapM (fun f=>Aba P f.type)=some ns)(w:World):
 (fs.mapM fun f=>do pure (f.offset,<-sizeOf f.type):Sem (Array (Nat×Nat))).run P w=.ok (fs.toList.map fun f=>(f.offset,(Aba P f.type).getD 0)).toArray w:=by
 rw[Array.mapM_eq_mapM_toList]
 have gen:∀(l:List Field) (ns:List Nat),l.mapM (fun f=>Aba P f.type)=some ns→
  (l.mapM fun f=>do pure (f.offset,<-sizeOf f.type):Sem (List (Nat×Nat))).run P w=.ok (l.map fun f=>(f.offset,(Aba P f.type).getD 0)) w:=by
  intro l
  induction l with
  |nil=>intro ns _;simp
  |cons f l ih=>
   intro ns hns
   simp only[List.mapM_cons,Option.bind_eq_bind,Option.bind_eq_some_iff]at hns
   obtain⟨n,hn,ms,hms,_⟩:=hns
   simp only[List.mapM_cons,Sem.run_bind,Sem.run_pure,Result.andThen_ok,Aa2 hn,ih ms hms,List.map_cons,hn,Option.getD_some]
 simp only[Sem.run_map,gen fs.toList ns h,Result.andThen_ok]
theorem Aht(hr:HR ng σ H.get w){t:TypeId}{z:Value}{fs:Array Field}{ps:Array (Nat×Operand)}{qs:List (Nat×Nat×Operand)}{ns:List Nat}{ev ev':Operand->Value}
 (hz:Acy P t=some z) (hu:P.underlying t=some (.struct fs)) (hns:fs.toList.mapM (fun f=>Aba P f.type)=some ns) (hq:Af5 P fs ps.toList=some qs)
 (hp:VL σ z.cells.toList z.cells.toList) (hev:∀p∈ps.toList,VR σ (ev p.2) (ev' p.2)) (hs:Aak (.build z.cells.toList (qs.map fun p=>(p.1,p.2.1,ev p.2.2))) H=some (v,H')):
 Res ng σ H w ((do pure (Next.value (<-Instr.build t (ps.map fun(i,x)=>(i,ev' x)))):Sem Next).run P w) v H':=by
 simp only[Aak,Option.map_eq_some_iff,Prod.mk.injEq]at hs
 obtain⟨r,hf,rfl,rfl⟩:=hs
 obtain⟨e1,e2⟩:=Aie ev ps.toList qs hq
 obtain⟨r',f1,f2⟩:=Ah1 (σ:=σ) ((fs.toList.map fun f=>(f.offset,(Aba P f.type).getD 0)).toArray[·]?) _ (ps.toList.map fun(i,x)=>(i,ev' x)) _ _ r hp (by simpa using e1) (by
  intro j o n u hj
  obtain⟨i,x,f,g1,g2,g3,g4,rfl⟩:=e2 j o n u hj
  refine⟨i,ev' x,by simp[g1],?_,hev (i,x) (List.mem_of_getElem? g1)⟩
  have:fs.toList[i]? =some f:=by simpa using g2
  simp[this,g3,g4]) hf
 refine Res.pure hr (v':=.agg r'.toArray) ?_ (VR.agg_of f2)
 have hm:(ps.map fun(i,x)=>(i,ev' x)).toList=ps.toList.map fun(i,x)=>(i,ev' x):=by simp
 simp only[Instr.build,Sem.run_bind,Ac1 hz,Result.andThen_ok,run_underlying hu,Aif fs ns hns]
 simp only[hm,Array.toArray_toList]at f1 ⊢
 rw[f1]
 simp
theorem Aig(hr:HR ng σ H.get w){t len e n:Nat}{z:Value}{ps:Array (Nat×Operand)}{ev ev':Operand->Value}
 (hz:Acy P t=some z) (hu:P.underlying t=some (.array len e)) (hn:Aba P e=some n) (hp:VL σ z.cells.toList z.cells.toList) (hev:∀p∈ps.toList,VR σ (ev p.2) (ev' p.2))
 (hs:Aak (.build z.cells.toList (ps.toList.map fun p=>(p.1*n,n,ev p.2))) H=some (v,H')):
 Res ng σ H w ((do pure (Next.value (<-Instr.build t (ps.map fun(i,x)=>(i,ev' x)))):Sem Next).run P w) v H':=by
 simp only[Aak,Option.map_eq_some_iff,Prod.mk.injEq]at hs
 obtain⟨r,hf,rfl,rfl⟩:=hs
 obtain⟨r',f1,f2⟩:=Ah1 (σ:=σ) (fun i=>some (i*n,n)) _ (ps.toList.map fun(i,x)=>(i,ev' x)) _ _ r hp (by simp) (by
  intro j o m u hj
  simp only[List.getElem?_map,Option.map_eq_some_iff,Prod.mk.injEq]at hj
  obtain⟨⟨i,x⟩,g1,rfl,rfl,rfl⟩:=hj
  exact⟨i,ev' x,by simp[g1],rfl,hev (i,x) (List.mem_of_getElem? g1)⟩) hf
 refine Res.pure hr (v':=.agg r'.toArray) ?_ (VR.agg_of f2)
 have hm:(ps.map fun(i,x)=>(i,ev' x)).toList=ps.toList.map fun(i,x)=>(i,ev' x):=by simp
 simp only[Instr.build,Sem.run_bind,Ac1 hz,Result.andThen_ok,run_underlying hu,Aa2 hn]
 simp only[hm,Array.toArray_toList]at f1 ⊢
 rw[f1]
 simp
theorem Agf(z:Array Value)(n:Nat)(hz:z.size=n):∀m:Nat,(List.range (m*n)).map (fun i=>z[i % z.size]!)=(List.replicate m z.toList).flatten:=by
 intro m
 induction m with
 |zero=>simp
 |succ m ih=>
  rw[Nat.succ_mul,List.range_add,List.map_append,ih,List.replicate_succ',List.flatten_append]
  congr 1
  simp only[List.map_map,List.flatten_cons,List.flatten_nil,List.append_nil]
  apply List.ext_getElem?
  intro j
  by_cases hj:j<n
  ·have hjz:j<z.size:=by omega
   simp only[List.getElem?_map,List.getElem?_range hj,Option.map_some,Function.comp,hz]
   rw[Nat.add_comm,Nat.add_mul_mod_self_right,Nat.mod_eq_of_lt hj]
   simp[hjz]
  ·rw[List.getElem?_eq_none (by simp;omega),List.getElem?_eq_none (by simp;omega)]
theorem Ao1(hr:HR ng σ H.get w){t e n len:Nat}{z:Value}{ps:Array (Nat×Operand)}{ev ev':Operand->Value}
 (hu:P.underlying t=some (.slice e)) (hz:Acy P e=some z) (hn:Aba P e=some n) (hzn:z.cells.size=n) (h0:0<n) (hbig:len*n<=16777216)
 (hp:VL σ z.cells.toList z.cells.toList) (hev:∀p∈ps.toList,VR σ (ev p.2) (ev' p.2))
 (hs:Aak (.bslice e n len (List.replicate len z.cells.toList).flatten (ps.toList.map fun p=>(p.1*n,n,ev p.2))) H=some (v,H')):
 Res ng σ H w ((do pure (Next.value (<-Instr.buildSlice t len (ps.map fun(i,x)=>(i,ev' x)))):Sem Next).run P w) v H':=by
 simp only[Aak]at hs
 split at hs
 ·rename_i c hf
  split at hs
  ·rename_i hc
   obtain⟨c1,c2⟩:=hc
   cases hs
   have hzl:∀m:Nat,VL σ (List.replicate m z.cells.toList).flatten (List.replicate m z.cells.toList).flatten:=by
    intro m
    induction m with
    |zero=>simp;exact .nil
    |succ m ih=>simpa[List.replicate_succ]using hp.append ih
   have hzr:((Array.range (len*n)).map (z.cells[· % z.cells.size]!))=(List.replicate len z.cells.toList).flatten.toArray:=by
    apply Array.ext'
    simp only[Array.toList_map,Array.toList_range,List.toList_toArray]
    exact Agf z.cells n hzn len
   obtain⟨r',f1,f2⟩:=Ah1 (σ:=σ) (fun i=>some (i*n,n)) _ (ps.toList.map fun(i,x)=>(i,ev' x)) _ _ c (hzl len) (by simp) (by
    intro j o m u hj
    simp only[List.getElem?_map,Option.map_eq_some_iff,Prod.mk.injEq]at hj
    obtain⟨⟨i,x⟩,g1,rfl,rfl,rfl⟩:=hj
    exact⟨i,ev' x,by simp[g1],rfl,hev (i,x) (List.mem_of_getElem? g1)⟩) hf
   obtain⟨e1,e2⟩:=Age hr (e:=e) (room:=false) (esz:=n) f2 (VL.oneAll c1)
   refine⟨_,.slice (some ⟨w.heap.size,0,none⟩) len len,_,_,?_,.inl rfl,e1,e2,?_⟩
   ·have f2':Instr.fill (fun i=>some (i*n,n)) (List.replicate len z.cells.toList).flatten.toArray (ps.toList.map fun x=>(x.1,ev' x.2))=some r'.toArray:=f1
    by_cases hl0:len*n=0
    ·have hlen:len=0:=by rcases Nat.mul_eq_zero.1 hl0 with h|h;exact h;omega
     subst hlen
     have f3:Instr.fill (fun i=>some (i*n,n)) #[] (ps.toList.map fun x=>(x.1,ev' x.2))=some r'.toArray:=by simpa using f2'
     simp[Instr.buildSlice,run_underlying hu,Aa2 hn,newRow,show Array.range 0= #[]from rfl,f3]
    ·have hb:¬(2 ^ 24<len*n):=by omega
     rw[<-hzr]at f2'
     simp only[Instr.buildSlice,Sem.run_bind,run_underlying hu,Result.andThen_ok,Aa2 hn]
     simp[hl0,hb,Ac1 hz,f2',newRow]
   ·have hi:(σ.up H.n ⟨w.heap.size,0,c.length,r'.length,n,false⟩) H.n=some ⟨w.heap.size,0,c.length,r'.length,n,false⟩:=Sg.Bfj _ _ _
    exact VR.sl (i:=⟨w.heap.size,0,c.length,r'.length,n,false⟩) hi (Nat.le_refl _) (.inl rfl)
  ·cases hs
 ·cases hs
theorem Afd(hr:HR ng σ H.get w){esz:Nat}{x x':Value}(hx:VR σ x x'){l:List Value}(h:Abf H esz x=some l):
 ∃(a':Option Addr) (n k':Nat) (l':List Value),x'=.slice a' n k'/\A2h false x=some n/\VL σ l l'/\l'.length=n*esz/\(∀u∈l,u.oneCell'=true)∧
  ((a'=none/\n=0)\/∃ad,a'=some ad/\∀j v,l'[j]? =some v->w.cell? (ad.add j)=some v):=by
 cases hx with
 |nilSl=>
  simp only[Abf,Option.some.injEq]at h
  subst h
  exact⟨none,0,0,[],rfl,rfl,.nil,by simp,by simp,.inl ⟨rfl,rfl⟩⟩
 | @sl b o n k k' i hb hn hk=>
  simp only[Abf]at h
  split at h
  ·rename_i own room esz' c e hG
   split at h
   ·rename_i hle
    cases h
    obtain⟨ob,g1,g2⟩:=hr.obj b i hb
    rw[hG]at g1;cases g1
    have hone:=g2.2.2.2.2.1
    obtain⟨l',e1,e2,e3⟩:=g2.range o (n*esz) hle
    exact⟨_,n,k',l',rfl,rfl,e1,e2,fun u hu=>hone u (List.mem_of_mem_drop (List.mem_of_mem_take hu)),.inr ⟨_,rfl,e3⟩⟩
   ·cases h
  ·cases h
 | @sl0 b o o' i hb=>
  simp only[Abf,Nat.zero_mul,List.take_zero]at h
  split at h
  ·split at h
   ·cases h
    exact⟨_,0,0,[],rfl,rfl,.nil,by simp,by simp,.inr ⟨_,rfl,by simp⟩⟩
   ·cases h
  ·cases h
 | @slz x a hx=>
  obtain⟨b,o,s⟩:=x
  cases s with
  |none=>simp at hx
  |some q=>
   simp only[Abf,if_true,Option.some.injEq]at h
   subst h
   exact⟨_,0,0,[],rfl,rfl,.nil,by simp,by simp,.inr ⟨_,rfl,by simp⟩⟩
 |_=>simp[Abf]at h
theorem Alf(x':Value)(esz n:Nat){a':Option Addr}{k':Nat}{l':List Value}(hx:x'=.slice a' n k')(hl:l'.length=n*esz)
 (h:(a'=none/\n=0)\/∃ad,a'=some ad/\∀j v,l'[j]? =some v->w.cell? (ad.add j)=some v):(Builtin.firstCells esz n x').run P w=.ok l'.toArray w:=by
 subst hx
 rcases h with⟨rfl,rfl⟩|⟨ad,rfl,hc⟩
 ·have:l'=[]:=List.eq_nil_of_length_eq_zero (by simpa using hl)
  subst this
  simp[Builtin.firstCells]
 ·exact run_firstCells_some w esz n ad n k' l' hl hc
theorem Aje(t u ty e:TypeId)(d:TypeDesc)(i:TypeInfo)(z:Value)(ht:P.underlying t=some (.slice e))(hu:P.underlying u=some d)(hd:(∃e2,d=.slice e2)\/d=.string)(hi:P.info? e=some i)(hz:i.zero=some z)
 (base:Option Addr) (sLen sCap m:Nat) (x:Value) (hx:∀w:World,(Builtin.lenOf x).run P w=.ok m w) (olds news:List Value)
 (hfo:(Builtin.firstCells i.size sLen (.slice base sLen sCap)).run P w.drew=.ok olds.toArray w.drew) (hf:(Builtin.firstCells i.size m x).run P w.drew=.ok news.toArray w.drew)
 (hg:sCap<sLen+m) (h63:((sLen+m:Nat):Int)<=9223372036854775807) (hfit:Builtin.nextslicecap (sLen+m) sCap*i.bytes<=281474976710656):
 (Builtin.append_ #[t,u] ty #[.slice base sLen sCap,x]).run P w=
  .ok (.slice (some ⟨w.heap.size,0,none⟩) (sLen+m) (grownCap w (sLen+m) sCap e))
   (w.drew.alloc (.cells (olds++news++(Builtin.zeroCells z.cells (grownCap w (sLen+m) sCap e-(sLen+m))).toList).toArray e)):=by
 have hn:¬(sLen+m<=sCap):=by omega
 have h63':¬(9223372036854775807<((sLen:Int)+(m:Int))):=by omega
 have h48':¬(281474976710656<Builtin.nextslicecap (sLen+m) sCap*i.bytes):=by omega
 rcases hd with⟨e2,rfl⟩|rfl
 all_goals simp[Builtin.append_,run_underlying ht,run_underlying hu,sizeOf,typeInfo,zeroValue,hi,hz,hx,hn,h63',h48',Question.forced,hf,hfo,newRow,grownCap]
 all_goals congr 2
 all_goals apply Array.ext'
 all_goals simp[List.append_assoc]
theorem Aka(t u ty e:TypeId)(d:TypeDesc)(i:TypeInfo)(ht:P.underlying t=some (.slice e))(hu:P.underlying u=some d)(hd:(∃e2,d=.slice e2)\/d=.string)(hi:P.info? e=some i)
 (a:Addr) (sLen sCap m:Nat) (x:Value) (hx:∀w:World,(Builtin.lenOf x).run P w=.ok m w) (news:List Value) {w':World} (hf:(Builtin.firstCells i.size m x).run P w=.ok news.toArray w)
 (hst:(storeCells (a.add (sLen*i.size)) news).run P w=.ok () w') (hroom:sLen+m<=sCap):
 (Builtin.append_ #[t,u] ty #[.slice (some a) sLen sCap,x]).run P w=.ok (.slice (some a) (sLen+m) sCap) w':=by
 rcases hd with⟨e2,rfl⟩|rfl<;>
  simp[Builtin.append_,run_underlying ht,run_underlying hu,sizeOf,typeInfo,hi,hx,hroom,hf,hst]
theorem Aih(t u ty e:TypeId)(d:TypeDesc)(i:TypeInfo)(ht:P.underlying t=some (.slice e))(hu:P.underlying u=some d)(hd:(∃e2,d=.slice e2)\/d=.string)(hi:P.info? e=some i)
 (base:Option Addr) (sLen sCap:Nat) (x:Value) (hx:∀w:World,(Builtin.lenOf x).run P w=.ok 0 w) (hf:(Builtin.firstCells i.size 0 x).run P w=.ok #[] w) (hle:sLen<=sCap):
 (Builtin.append_ #[t,u] ty #[.slice base sLen sCap,x]).run P w=.ok (.slice base sLen sCap) w:=by
 rcases hd with⟨e2,rfl⟩|rfl<;>
  (cases base<;>simp[Builtin.append_,run_underlying ht,run_underlying hu,sizeOf,typeInfo,hi,hx,hle,hf,storeCells])
theorem Amg(hr:HR ng σ H.get w){e:TypeId}{esz n cap:Nat}{c c' sp:List Value}(hv:VL σ c c')(h1:∀u∈c,u.oneCell'=true)(hc:c.length=n*esz)(hsp:sp.length=(cap-n)*esz)(hcap:n<=cap)(hgs:∀v∈sp,gnd v):
 ∃i:BI,i.c=w.heap.size/\i.off=0/\i.esz=esz/\i.room=true/\i.len=n*esz/\i.top=cap*esz∧
  HR ng (σ.up H.n i) (H.alloc (.cells true true esz c e)).get (w.drew.alloc (.cells (c'++sp).toArray e))∧
  Ext H.n σ H.get w (H.alloc (.cells true true esz c e)).n (σ.up H.n i) (H.alloc (.cells true true esz c e)).get (w.drew.alloc (.cells (c'++sp).toArray e)):=by
 have hl:=hv.length
 have hmul:n*esz+(cap-n)*esz=cap*esz:=by rw[<-Nat.add_mul];congr 1;omega
 refine⟨⟨w.heap.size,0,c.length,(c'++sp).toArray.size,esz,true⟩,rfl,rfl,rfl,rfl,hc,by simp;omega,?_⟩
 have hor:OR σ (w.alloc (.cells (c'++sp).toArray e)) ⟨w.heap.size,0,c.length,(c'++sp).toArray.size,esz,true⟩ (.cells true true esz c e):=
  OR.cells_new (w:=w) true true esz (by simp;omega) h1 (by simp only[List.toList_toArray,hl,List.take_left];exact hv) (fun _=>.inl rfl) (fun _=>by rw[List.toList_toArray,hl,List.drop_left];exact hgs)
 obtain⟨a,b⟩:=hr.alloc (w':=w.drew.alloc (.cells (c'++sp).toArray e)) rfl hor rfl rfl rfl rfl
 exact⟨a,b⟩
theorem HR.drop(hr:HR ng σ H.get w){b:Nat}{room:Bool}{esz:Nat}{c:List Value}{e:TypeId}(hG:H.get b=some (.cells true room esz c e)){i:BI}(hb:σ b=some i):
 HR ng σ (H.set b .dead).get w:=by
 have hlt:=Aaa.Bfg hG
 exact HR.upd (o2:=.dead) hr hb hG rfl (fun _ _=>rfl) rfl (fun x hx=>Aaa.Bff H hx hlt _) (Aaa.Bfe hG _) trivial
theorem Ext.of_set{n n':Nat}{σ':Sg}{G':Gf}{w':World}{b:Nat}{o o2:AO}(hG:H.get b=some o)(ho:o2.own=true->o.own=true)(hol:o.live=true)(h:Ext n σ (H.set b o2).get w n' σ' G' w'):Ext n σ H.get w n' σ' G' w':=by
 have hlt:=Aaa.Bfg hG
 have back:∀x ox,(H.set b o2).get x=some ox->ox.own=true->∃oy,H.get x=some oy/\oy.own=true:=by
  intro x ox hx hown
  by_cases e:x=b
  ·subst e
   rw[Aaa.Bfe hG]at hx;cases hx
   exact⟨o,hG,ho hown⟩
  ·rw[Aaa.Bff H e hlt]at hx;exact⟨ox,hx,hown⟩
 refine⟨h.sub,fun x j hx hx'=>?_,fun x j o' hx ho' hown=>?_,fun x j o' hx ho' hlv=>?_,fun k hk hne=>h.keep k hk (fun x j ox hx hox hown=>?_),h.size,h.num,h.os,h.tape,h.output⟩
 ·obtain⟨a1,a2⟩:=h.new x j hx hx'
  refine⟨a1,?_⟩
  rcases a2 with a2|⟨b0,i0,o0,k1,k2,k3,k4⟩
  ·exact .inl a2
  ·obtain⟨oy,m1,m2⟩:=back b0 o0 k2 k3
   exact .inr ⟨b0,i0,oy,k1,m1,m2,k4⟩
 ·obtain⟨oy,m1,m2⟩:=h.own x j o' hx ho' hown
  exact back x oy m1 m2
 ·obtain⟨oy,m1,m2⟩:=h.live x j o' hx ho' hlv
  by_cases e:x=b
  ·subst e;exact⟨o,hG,hol⟩
  ·rw[Aaa.Bff H e hlt]at m1;exact⟨oy,m1,m2⟩
 ·obtain⟨oy,m1,m2⟩:=back x ox hox hown
  exact hne x j oy hx m1 m2
end
section
variable {P:Program} {ng:Nat} {σ:Sg} {H H':Aaa} {w:World} {v:Value}
theorem Akb{e n b:Nat}{z:Value}(hz:Acy P e=some z)(hn:Aba P e=some n)(hb:Adp P e=some b):∃i,P.info? e=some i/\i.zero=some z/\i.size=n/\i.bytes=b:=by
 unfold Acy at hz
 unfold Aba at hn
 unfold Adp at hb
 cases hi:P.info? e with
 |none=>rw[hi]at hn;cases hn
 |some i=>
  rw[hi]at hz hn hb
  refine⟨i,rfl,?_,by simpa using hn,by simpa using hb⟩
  simp only[Option.bind_some]at hz
  split at hz
  ·rename_i z' hz'
   split at hz
   ·cases hz;exact hz'
   ·cases hz
  ·cases hz
theorem Ajn{v:Value}(h:Aca v=true):gnd v:=⟨Aib h,by unfold Aca at h;split at h<;>first|rfl|cases h⟩
theorem Agg{cs:Array Value}(h:cs.toList.all Aca=true)(n:Nat):∀v∈(Builtin.zeroCells cs n).toList,gnd v:=by
 intro v hv
 simp only[Builtin.zeroCells,Array.toList_map,List.mem_map,Array.mem_toList_iff,Array.mem_range]at hv
 obtain⟨i,hi,rfl⟩:=hv
 have hpos:0<cs.size:=by
  rcases Nat.eq_zero_or_pos cs.size with e|e
  ·rw[e]at hi;simp at hi
  ·exact e
 have hlt:i % cs.size<cs.size:=Nat.mod_lt _ hpos
 rw[getElem!_pos cs _ hlt]
 exact Ajn (List.all_eq_true.1 h _ (by simp))
structure Agh (P:Program) (t u ty e:TypeId) (i:TypeInfo) (m:Nat) (x:Value) (news:List Value) (w:World):Prop where
 new:∀(z:Value) (base:Option Addr) (sLen sCap:Nat) (olds:List Value),i.zero=some z->(Builtin.firstCells i.size sLen (.slice base sLen sCap)).run P w.drew=.ok olds.toArray w.drew->sCap<sLen+m->((sLen+m:Nat):Int)<=9223372036854775807->Builtin.nextslicecap (sLen+m) sCap*i.bytes<=281474976710656→
  (Builtin.append_ #[t,u] ty #[.slice base sLen sCap,x]).run P w=
   .ok (.slice (some ⟨w.heap.size,0,none⟩) (sLen+m) (grownCap w (sLen+m) sCap e))
    (w.drew.alloc (.cells (olds++news++(Builtin.zeroCells z.cells (grownCap w (sLen+m) sCap e-(sLen+m))).toList).toArray e))
 fit:∀(a:Addr) (sLen sCap:Nat) (w':World),(storeCells (a.add (sLen*i.size)) news).run P w=.ok () w'->sLen+m<=sCap->(Builtin.append_ #[t,u] ty #[.slice (some a) sLen sCap,x]).run P w=.ok (.slice (some a) (sLen+m) sCap) w'
 zero:m=0->∀(base:Option Addr) (sLen sCap:Nat),sLen<=sCap->(Builtin.append_ #[t,u] ty #[.slice base sLen sCap,x]).run P w=.ok (.slice base sLen sCap) w
theorem Agh.of{t u ty e:TypeId}{d:TypeDesc}{i:TypeInfo}{m:Nat}{x:Value}{news:List Value}(ht:P.underlying t=some (.slice e))(hu:P.underlying u=some d)(hd:(∃e2,d=.slice e2)\/d=.string)(hi:P.info? e=some i)
 (hlx:∀w:World,(Builtin.lenOf x).run P w=.ok m w) (hnl:news.length=m*i.size) (hwc:∀w2:World,w2.heap=w.heap->(Builtin.firstCells i.size m x).run P w2=.ok news.toArray w2):Agh P t u ty e i m x news w where
 new z base sLen sCap olds hz hfo hg h63 hfit:=Aje (P:=P) (w:=w) t u ty e d i z ht hu hd hi hz base sLen sCap m x hlx olds news hfo (hwc w.drew rfl) hg h63 hfit
 fit a sLen sCap w' hst hroom:=Aka (P:=P) (w:=w) t u ty e d i ht hu hd hi a sLen sCap m x hlx news (w':=w') (hwc w rfl) hst hroom
 zero hm base sLen sCap hle:=by
  subst hm
  have hnil:news=[]:=List.eq_nil_of_length_eq_zero (by simpa using hnl)
  subst hnil
  exact Aih (P:=P) (w:=w) t u ty e d i ht hu hd hi base sLen sCap x hlx (by simpa using hwc w rfl) hle
theorem Agi(hr:HR ng σ H.get w){t u ty e esz bytes:Nat}{z:Value}(hz:Acy P e=some z)(hn:Aba P e=some esz)(hb:Adp P e=some bytes)
 (hzn:z.cells.size=esz) (hz1:z.cells.toList.all Aca=true) {base:Option Addr} {sLen sCap m:Nat} {x:Value} {olds olds' news news':List Value}
 (ho:VL σ olds olds') (hol:olds'.length=sLen*esz) (ho1:∀u∈olds,u.oneCell'=true) (hoc:(base=none/\sLen=0)\/∃ad,base=some ad/\∀j v,olds'[j]? =some v->w.cell? (ad.add j)=some v)
 (hw:VL σ news news') (hnl:news'.length=m*esz) (hw1:∀u∈news,u.oneCell'=true) (hR:∀i,P.info? e=some i->i.size=esz->Agh P t u ty e i m x news' w)
 (hg:sCap<sLen+m) (hbig:(sLen+m)*bytes<=140737488355328) (hmax:sLen+m<=140737488355328):
 Res ng σ H w ((do pure (Next.value (<-Builtin.append_ #[t,u] ty #[.slice base sLen sCap,x])):Sem Next).run P w) (slc H.n 0 (sLen+m) (sLen+m)) (H.alloc (.cells true true esz (olds++news) e)):=by
 obtain⟨i,hi,hiz,hin,hib⟩:=Akb hz hn hb
 subst hin;subst hib
 have hfo:=Alf (P:=P) (w:=w.drew) (.slice base sLen sCap) i.size sLen rfl hol (by simpa using hoc)
 have hrun:=(hR i hi rfl).new z base sLen sCap olds' hiz hfo hg (by omega) (growslice_fits hg hbig)
 have hge:=grownCap_ge w (sLen+m) sCap e
 obtain⟨bi,b1,b2,b3,b4,b5,b6,b7,b8⟩:=Amg hr (e:=e) (esz:=i.size) (n:=sLen+m) (cap:=grownCap w (sLen+m) sCap e) (sp:=(Builtin.zeroCells z.cells (grownCap w (sLen+m) sCap e-(sLen+m))).toList)
  (ho.append hw) (fun x hx=>by rcases List.mem_append.1 hx with hx|hx;exact ho1 x hx;exact hw1 x hx) (by have h1:=ho.length;have h2:=hw.length;simp only[List.length_append];rw[h1,h2,hol,hnl,Nat.add_mul])
  (by rw[Array.length_toList,size_zeroCells,hzn]) hge (Agg hz1 _)
 refine⟨_,.slice (some ⟨w.heap.size,0,none⟩) (sLen+m) (grownCap w (sLen+m) sCap e),_,_,by simp only[Sem.run_bind,hrun,Result.andThen_ok,Sem.run_pure],.inl rfl,b7,b8,?_⟩
 have hv:=VR.sl (σ:=σ.up H.n bi) (b:=H.n) (o:=0) (n:=sLen+m) (k:=sLen+m) (k':=grownCap w (sLen+m) sCap e) (i:=bi) (Sg.Bfj _ _ _) (Nat.le_refl _)
  (.inr ⟨b4,hge,by rw[b3,b5];omega,by rw[b3,b6];omega⟩)
 rw[b1,b2]at hv
 exact hv
theorem Akc(hr:HR ng σ H.get w){t u ty e esz bytes:Nat}{z:Value}(hz:Acy P e=some z)(hn:Aba P e=some esz)(hb:Adp P e=some bytes)
 (hzn:z.cells.size=esz) (hz1:z.cells.toList.all Aca=true) {s s' x':Value} {m':Nat} {news news':List Value} (hvs:VR σ s s')
 (hvn:VL σ news news') (hnl:news'.length=m'*esz) (hn1:∀u∈news,u.oneCell'=true) (hR:∀i,P.info? e=some i->i.size=esz->Agh P t u ty e i m' x' news' w)
 (hs:Ajd H e esz bytes s m' news=some (v,H')):
 Res ng σ H w ((do pure (Next.value (<-Builtin.append_ #[t,u] ty #[s',x'])):Sem Next).run P w) v H':=by
 obtain⟨i,hi,hiz,hin,hib⟩:=Akb hz hn hb
 have hA:=hR i hi hin
 have zero:m'=0->∀(base:Option Addr) (sLen sCap:Nat) (sv:Value),sLen<=sCap->VR σ sv (.slice base sLen sCap)->v=sv->H'=H→
  Res ng σ H w ((do pure (Next.value (<-Builtin.append_ #[t,u] ty #[.slice base sLen sCap,x'])):Sem Next).run P w) v H':=by
  intro hm base sLen sCap sv hle hv e1 e2'
  subst e1;subst e2'
  have hrun:=hA.zero hm base sLen sCap hle
  exact Res.pure hr (by simp only[Sem.run_bind,hrun,Result.andThen_ok,Sem.run_pure]) hv
 have move:∀{b:Nat} {j:BI} {room:Bool} {c olds:List Value} {e':TypeId} {base:Option Addr} {sLen sCap:Nat} {olds':List Value},σ b=some j->H.get b=some (.cells true room esz c e')→
  VL σ olds olds'->olds'.length=sLen*esz->(∀u∈olds,u.oneCell'=true)->((base=none/\sLen=0)\/∃ad,base=some ad/\∀j v,olds'[j]? =some v->w.cell? (ad.add j)=some v)→
  sCap<sLen+m'->(sLen+m')*bytes<=140737488355328->sLen+m'<=140737488355328->v=slc H.n 0 (sLen+m') (sLen+m')->H'=(H.set b .dead).alloc (.cells true true esz (olds++news) e)→
  Res ng σ H w ((do pure (Next.value (<-Builtin.append_ #[t,u] ty #[.slice base sLen sCap,x'])):Sem Next).run P w) v H':=by
  intro b j room c olds e' base sLen sCap olds' hb' hG ho hol ho1 hoc hg hbig hmax e1 e2'
  subst e1;subst e2'
  have hdr:=hr.drop hG hb'
  obtain⟨nx,v',w',σ',r1,r2,r3,r4,r5⟩:=Agi (P:=P) hdr hz hn hb hzn hz1 ho hol ho1 hoc hvn hnl hn1 hR hg hbig hmax (ty:=ty)
  exact⟨nx,v',w',σ',r1,r2,r3,Ext.of_set hG (by simp[AO.own]) rfl r4,r5⟩
 cases hvs with
 |nilSl=>
  simp only[Ajd]at hs
  rw[if_pos ⟨trivial,trivial⟩]at hs
  split at hs
  ·rename_i hm
   cases hs
   exact zero hm none 0 0 _ (Nat.le_refl _) .nilSl rfl rfl
  ·split at hs
   ·rename_i hm hc
    cases hs
    have:=Agi (P:=P) hr hz hn hb hzn hz1 (base:=none) (sLen:=0) (sCap:=0) (ty:=ty) VL.nil (by simp) (by simp) (.inl ⟨rfl,rfl⟩) hvn hnl hn1 hR (by omega) (by simpa using hc.1) (by simpa using hc.2)
    simpa using this
   ·cases hs
 | @sl0 b o o' j hb'=>
  simp only[Ajd]at hs
  split at hs
  ·rename_i hm
   cases hs
   exact zero hm _ 0 0 _ (Nat.le_refl _) (.sl0 hb') rfl rfl
  ·rename_i hm
   split at hs
   ·rename_i hc
    split at hs
    ·rename_i own room esz' c e' hG
     split at hs
     ·rename_i hes
      obtain⟨hes,hee,_⟩:=hes
      subst hes;subst hee
      rw[if_neg (by omega)]at hs
      split at hs
      ·cases hs
       have:=Agi (P:=P) hr hz hn hb hzn hz1 (base:=some ⟨j.c,o',none⟩) (sLen:=0) (sCap:=0) (ty:=ty) VL.nil (by simp) (by simp) (.inr ⟨_,rfl,by simp⟩) hvn hnl hn1 hR (by omega) (by simpa using hc.1) (by simpa using hc.2)
       simpa using this
      ·split at hs
       ·rename_i hown
        cases hs
        subst hown
        exact move (olds:=[]) hb' hG .nil (by simp) (by simp) (.inr ⟨_,rfl,by simp⟩) (by omega) hc.1 hc.2 rfl (by simp)
       ·cases hs
     ·cases hs
    ·cases hs
   ·cases hs
 | @slz x a hx=>
  obtain⟨b,o,q⟩:=x
  cases q with
  |none=>simp at hx
  |some q=>
   simp only[Ajd]at hs
   rw[if_pos ⟨trivial,trivial⟩]at hs
   split at hs
   ·rename_i hm
    cases hs
    exact zero hm _ 0 0 _ (Nat.le_refl _) (.slz rfl) rfl rfl
   ·split at hs
    ·rename_i hm hc
     cases hs
     have:=Agi (P:=P) hr hz hn hb hzn hz1 (base:=some a) (sLen:=0) (sCap:=0) (ty:=ty) VL.nil (by simp) (by simp) (.inr ⟨_,rfl,by simp⟩) hvn hnl hn1 hR (by omega) (by simpa using hc.1) (by simpa using hc.2)
     simpa using this
    ·cases hs
 | @sl b o n k k' j hb' hnk hk=>
  simp only[Ajd]at hs
  split at hs
  ·rename_i hm
   cases hs
   exact zero hm _ n k' _ (by omega) (.sl hb' hnk hk) rfl rfl
  ·rename_i hm
   split at hs
   ·rename_i hc
    split at hs
    ·rename_i own room esz' c e' hG
     split at hs
     ·rename_i hes
      obtain⟨hes,hee,hbd⟩:=hes
      subst hes;subst hee
      obtain⟨ob,g1,g2⟩:=hr.obj b j hb'
      rw[hG]at g1;cases g1
      obtain⟨a1,a2,a3,a4,a9,c',fr,a5,a6,a7,a8⟩:=g2
      have g2:OR σ w j (.cells own room esz' c e'):=⟨a1,a2,a3,a4,a9,c',fr,a5,a6,a7,a8⟩
      have hnk':n*esz'<=k*esz':=Nat.mul_le_mul_right _ hnk
      obtain⟨olds',ho,hol,hoc⟩:=g2.range o (n*esz') (by omega)
      have ho1:∀u∈(c.drop o).take (n*esz'),u.oneCell'=true:=fun u hu=>a9 u (List.mem_of_mem_drop (List.mem_of_mem_take hu))
      split at hs
      ·-- there is room for it in any case
       rename_i hfit
       split at hs
       ·rename_i hown
        cases hs
        subst hown
        have hkk':k<=k':=by rcases hk with hk|hk<;>omega
        have hnm:n*esz'+m'*esz'<=k*esz':=by rw[<-Nat.add_mul];exact Nat.mul_le_mul_right _ hfit
        have hnew:=hvn.length
        obtain⟨w',e1,e2',e3⟩:=Afc (P:=P) hr hb' hG (o:=o+n*esz') hvn (by omega) hn1 (hvn.one hn1)
        have hrun:=hA.fit ⟨j.c,j.off+o,none⟩ n k' w' (by rw[hin,Acb];rw[<-Nat.add_assoc]at e1;exact e1) (by omega)
        refine⟨_,.slice (some ⟨j.c,j.off+o,none⟩) (n+m') k',w',σ,by simp only[Sem.run_bind,hrun,Result.andThen_ok,Sem.run_pure],.inl rfl,e2',e3,.sl hb' hfit hk⟩
       ·cases hs
      split at hs
      ·rename_i hfit hex
       cases hs
       have hkk:k'=k:=by
        rcases hk with hk|⟨r1,r2,r3,r4⟩
        ·exact hk
        ·rcases hex with hx|hx
         ·rw[a2,hx]at r1;cases r1
         ·rw[a3,a1]at r3;omega
       subst hkk
       exact Agi (P:=P) hr hz hn hb hzn hz1 ho hol ho1 (.inr ⟨_,rfl,hoc⟩) hvn hnl hn1 hR (by omega) hc.1 hc.2
      ·split at hs
       ·rename_i hnfit hnex hown
        cases hs
        subst hown
        by_cases hroom:n+m'<=k'
        ·-- in place
         have htop:o+k'*esz'<=j.top:=by
          rcases hk with hk|⟨r1,r2,r3,r4⟩
          ·subst hk;omega
          ·rw[a3]at r4;exact r4
         have hnm:n*esz'+m'*esz'<=k'*esz':=by rw[<-Nat.add_mul];exact Nat.mul_le_mul_right _ hroom
         have hn1':=hvn.one hn1
         obtain⟨w',cur',e1,e2',e3,e4,e5,e6,e7,e8⟩:=Aex (P:=P) j.c (j.off+o+n*esz') e' fr news' 0 c' w a5 (by rw[hnl];omega) hn1' (fun q hq hq2=>Bbh (a8 rfl).1 q hq2)
         have hrun:=hA.fit ⟨j.c,j.off+o,none⟩ n k' w' (by rw[hin,Acb];exact e1) hroom
         have hsz:cur'.size=c'.size:=by
          rw[<-Array.length_toList,e3]
          simp;omega
         have hlt:=Aaa.Bfg hG
         -- the world is written, the old block let go
         have hd:HR ng σ (H.set b .dead).get w':=HR.upd (o2:=.dead) hr hb' hG rfl e4 e5 (fun x hx=>Aaa.Bff H hx hlt _) (Aaa.Bfe hG _) trivial
         have hfresh:=hr.none_of_ge (Nat.le_refl H.n)
         have hcl:(c.drop o).length=c.length-o:=by simp
         have hclen:((c.drop o).take (n*esz')++news).length=(n+m')*esz':=by
          have:=ho.length;have h3:=hvn.length
          simp only[List.length_append];rw[this,h3,hol,hnl,Nat.add_mul]
         let nb:BI:=⟨j.c,j.off+o,(n+m')*esz',j.top-o,esz',true⟩
         have hor:OR σ w' nb (.cells true true esz' ((c.drop o).take (n*esz')++news) e'):=by
          refine⟨hclen.symm,rfl,rfl,by rw[hclen,Nat.add_mul];show _<=j.top-o;omega,?_,cur',fr,?_,?_,?_,fun _=>⟨by have:=(a8 rfl).1;omega,fun _ v hv2=>?_⟩⟩
          ·intro x hx
           rcases List.mem_append.1 hx with hx|hx
           ·exact ho1 x hx
           ·exact hn1 x hx
          ·exact e2'
          ·show cur'.size=j.off+o+(j.top-o);omega
          ·rw[hclen,e3]
           have key:((c'.toList.take (j.off+o+n*esz'+0)++news'++c'.toList.drop (j.off+o+n*esz'+0+news'.length)).drop (j.off+o)).take ((n+m')*esz')=
            (((c'.toList.drop j.off).take c.length).drop o).take (n*esz')++news':=by
            have hcl':c'.toList.length=j.off+j.top:=by simpa using a6
            apply List.ext_getElem?
            intro q
            simp only[List.getElem?_take,List.getElem?_drop,List.getElem?_append,List.length_take,List.length_drop,List.length_append,hcl',Nat.add_zero,Nat.add_mul,hnl]
            by_cases h1:q<n*esz'
            ·rw[if_pos (by omega),if_pos (by omega),if_pos (by omega),if_pos (by omega),if_pos (by omega),if_pos (by omega),if_pos (by omega)]
             congr 1;omega
            ·by_cases h2:q<n*esz'+m'*esz'
             ·rw[if_pos (by omega),if_pos (by omega),if_neg (by omega),if_neg (by omega)]
              congr 1;omega
             ·rw[if_neg (by omega),if_neg (by omega)]
              rw[List.getElem?_eq_none (by rw[hnl];omega)]
           show VL σ _ (((_:List Value).drop (j.off+o)).take ((n+m')*esz'))
           rw[key]
           exact((a7.drop o).take (n*esz')).append hvn
          ·have hrm:room=true:=by
            cases room
            ·exact absurd (Or.inl rfl) hnex
            ·rfl
           have hge:c.length<=o+k*esz':=by
            rcases Nat.lt_or_ge (o+k*esz') c.length with e|e
            ·exact absurd (Or.inr e) hnex
            ·exact e
           have hkn:k*esz'<=(n+m')*esz':=Nat.mul_le_mul_right _ (by omega)
           rw[hclen,e3]at hv2
           have key:(c'.toList.take (j.off+o+n*esz'+0)++news'++c'.toList.drop (j.off+o+n*esz'+0+news'.length)).drop (nb.off+(n+m')*esz')=c'.toList.drop (j.off+o+(n+m')*esz'):=by
            have hcl':c'.toList.length=j.off+j.top:=by simpa using a6
            show List.drop (j.off+o+(n+m')*esz') _=_
            rw[List.drop_append,List.drop_of_length_le (by simp only[List.length_append,List.length_take,hcl',hnl,Nat.add_mul];omega),List.nil_append,List.drop_drop]
            congr 1
            simp only[List.length_append,List.length_take,hcl',hnl,Nat.add_mul]
            omega
           rw[key]at hv2
           refine(a8 rfl).2 hrm v ?_
           rw[show j.off+o+(n+m')*esz'=(j.off+c.length)+(o+(n+m')*esz'-c.length) by omega,<-List.drop_drop]at hv2
           exact List.mem_of_mem_drop hv2
         refine⟨_,.slice (some ⟨j.c,j.off+o,none⟩) (n+m') k',w',σ.up H.n nb,by simp only[Sem.run_bind,hrun,Result.andThen_ok,Sem.run_pure],.inl rfl,?_,?_,?_⟩
         ·refine HR.add hd hfresh (fun x hx=>Aaa.get_alloc_ne _ _ hx) (Aaa.Bfd _ _) (by rw[e5];exact hr.lt b j hb') hor ?_
          intro x jx ox hx hox hlv
          by_cases hxb:x=b
          ·subst hxb
           rw[Aaa.Bfe hG]at hox;cases hox
           simp[AO.live,AO.own]at hlv
          ·rw[Aaa.Bff H hxb hlt]at hox
           have hlive:ox.live=true:=by rcases hlv with⟨h1,_⟩|⟨h1,_⟩;exact h1;exact AO.live_of_own h1
           exact fun he=>hr.inj b x j jx _ ox (Ne.symm hxb) hb' hx hG hox rfl hlive he.symm
         ·refine⟨Sg.le_up _ hfresh,fun x jx hx hx'=>?_,fun x jx o' hx ho' hown=>?_,fun x jx o' hx ho' hlv=>?_,fun q hq hne=>e4 q (fun he=>hne b j _ hb' hG rfl he.symm),by omega,by simp[Aaa.set,Aaa.alloc],e6,e7,e8⟩
          ·by_cases hxn:x=H.n
           ·subst hxn
            rw[Sg.Bfj]at hx';cases hx'
            exact⟨⟨Nat.le_refl _,by simp[Aaa.set,Aaa.alloc]⟩,.inr ⟨b,j,_,hb',hG,rfl,rfl⟩⟩
           ·rw[Sg.Bfk σ _ hxn,hx]at hx';cases hx'
          ·have hxn:x≠H.n:=fun he=>by rw[he,hfresh]at hx;cases hx
           rw[Aaa.get_alloc_ne (H.set b .dead) _ hxn]at ho'
           by_cases hxb:x=b
           ·subst hxb
            rw[Aaa.Bfe hG]at ho';cases ho'
            simp[AO.own]at hown
           ·rw[Aaa.Bff H hxb hlt]at ho';exact⟨o',ho',hown⟩
          ·have hxn:x≠H.n:=fun he=>by rw[he,hfresh]at hx;cases hx
           rw[Aaa.get_alloc_ne (H.set b .dead) _ hxn]at ho'
           by_cases hxb:x=b
           ·subst hxb
            rw[Aaa.Bfe hG]at ho';cases ho'
            simp[AO.live]at hlv
           ·rw[Aaa.Bff H hxb hlt]at ho';exact⟨o',ho',hlv⟩
         ·have hv:=VR.sl (σ:=σ.up H.n nb) (b:=H.n) (o:=0) (n:=n+m') (k:=n+m') (k':=k') (i:=nb) (Sg.Bfj _ _ _) (Nat.le_refl _)
           (.inr ⟨rfl,hroom,by show 0+(n+m')*esz'=(n+m')*esz';omega,by show 0+k'*esz'<=j.top-o;omega⟩)
          exact hv
        ·exact move hb' hG ho hol ho1 (.inr ⟨_,rfl,hoc⟩) (by omega) hc.1 hc.2 rfl rfl
       ·cases hs
     ·cases hs
    ·cases hs
   ·cases hs
 |_=>simp[Ajd]at hs
theorem Ay4(hr:HR ng σ H.get w){t u ty e e2 esz bytes:Nat}{z:Value}(ht:P.underlying t=some (.slice e))(hu:P.underlying u=some (.slice e2))(hz:Acy P e=some z)(hn:Aba P e=some esz)(hb:Adp P e=some bytes)
 (hzn:z.cells.size=esz) (h0:0<esz) (hz1:z.cells.toList.all Aca=true) {s s' x x':Value} (hvs:VR σ s s') (hvx:VR σ x x') (hs:Aak (.app e esz bytes s x) H=some (v,H')):
 Res ng σ H w ((do pure (Next.value (<-Builtin.append_ #[t,u] ty #[s',x'])):Sem Next).run P w) v H':=by
 simp only[Aak]at hs
 split at hs
 case h_2=>cases hs
 rename_i xa0 m xk0
 split at hs
 case h_2=>cases hs
 rename_i news hel
 obtain⟨xa,m',xk,news',rfl,hlen,hvn,hnl,hn1,hnc⟩:=Afd hr hvx hel
 have hmm:m'=m:=by simpa[A2h]using hlen.symm
 subst hmm
 refine Akc hr hz hn hb hzn hz1 hvs hvn hnl hn1 (fun i hi hie=>Agh.of ht hu (.inl ⟨_,rfl⟩) hi (fun w=>by simp[Builtin.lenOf]) (by rw[hie];exact hnl) (fun w2 h2=>?_)) hs
 rw[hie]
 have hcell:∀a,w2.cell? a=w.cell? a:=fun a=>by simp only[World.cell?,h2]
 exact Alf (P:=P) (w:=w2) (.slice xa m' xk) esz m' rfl hnl (by
  rcases hnc with h|⟨ad,h1,h3⟩
  ·exact .inl h
  ·exact .inr ⟨ad,h1,fun j v hj=>by rw[hcell];exact h3 j v hj⟩)
theorem At5(hr:HR ng σ H.get w){t u ty e bytes:Nat}{z:Value}(ht:P.underlying t=some (.slice e))(hu:P.underlying u=some .string)(hz:Acy P e=some z)(hn:Aba P e=some 1)(hb:Adp P e=some bytes)
 (hzn:z.cells.size=1) (hz1:z.cells.toList.all Aca=true) {s s' x x':Value} (hvs:VR σ s s') (hvx:VR σ x x') (hs:Aak (.apps e bytes s x) H=some (v,H')):
 Res ng σ H w ((do pure (Next.value (<-Builtin.append_ #[t,u] ty #[s',x'])):Sem Next).run P w) v H':=by
 simp only[Aak]at hs
 split at hs
 ·rename_i tx
  have:x'=.string tx:=by cases hvx;rfl
  subst this
  have hvl:∀l:List UInt8,VL σ (l.map fun b=>(Value.int .u8 b.toNat)) (l.map fun b=>(Value.int .u8 b.toNat)):=by
   intro l
   induction l with
   |nil=>exact .nil
   |cons b l ih=>exact .cons (.int _ _) ih
  refine Akc hr hz hn hb hzn hz1 hvs (hvl tx.data.toList) (by simp) (fun u hu=>?_) (fun i hi hie=>Agh.of ht hu (.inr rfl) hi (fun w=>by simp[Builtin.lenOf]) (by rw[hie];simp) (fun w2 _=>?_)) hs
  ·obtain⟨b,_,rfl⟩:=List.mem_map.1 hu;rfl
  ·have:(tx.extract 0 tx.size).data=tx.data:=by
    rw[ByteArray.data_extract];simp
   simp only[Builtin.firstCells,this,Sem.run_pure]
   congr 1
   apply Array.ext'
   simp
 ·cases hs
end
section
variable {P:Program} {ng:Nat} {σ:Sg} {H H':Aaa} {w:World} {v:Value}
theorem VR.int_inv{k:IntKind}{n:Int}{v':Value}(h:VR σ (.int k n) v'):v'=.int k n:=by cases h;rfl
theorem VR.str_inv{s:ByteArray}{v':Value}(h:VR σ (.string s) v'):v'=.string s:=by cases h;rfl
theorem VR.bool_inv{b:Bool}{v':Value}(h:VR σ (.bool b) v'):v'=.bool b:=by cases h;rfl
theorem Af7(s:ByteArray):s.toList=s.data.toList:=by
 have loop:∀(n i:Nat) (r:List UInt8),s.size-i=n->ByteArray.toList.loop s i r=r.reverse++s.data.toList.drop i:=by
  intro n
  induction n with
  |zero=>
   intro i r h
   unfold ByteArray.toList.loop
   rw[if_neg (by omega),List.drop_eq_nil_of_le (by simp only[Array.length_toList];show s.data.size<=i;have:s.size=s.data.size:=rfl;omega)]
   simp
  |succ n ih=>
   intro i r h
   unfold ByteArray.toList.loop
   have hlt:i<s.size:=by omega
   have hlt':i<s.data.toList.length:=by simpa using hlt
   rw[if_pos hlt,ih (i+1) _ (by omega),List.drop_eq_getElem_cons hlt']
   have:s.get! i=s.data.toList[i]:=by
    have h2:i<s.data.size:=hlt
    exact getElem!_pos s.data i h2
   rw[this];simp
 have:=loop s.size 0 [] rfl
 simpa[ByteArray.toList]using this
theorem Awo(a b:ByteArray):(a.toList==b.toList)=decide (a=b):=by
 rw[Af7,Af7]
 by_cases h:a=b
 ·subst h;simp
 ·have:a.data.toList≠b.data.toList:=by
   intro e
   apply h
   cases a;cases b
   congr 1
   exact Array.ext' e
  simp only[h,decide_false,beq_eq_false_iff_ne,ne_eq]
  exact this
theorem Ay5{op:BinOp}{x y:Value}{t:TypeId}{v:Value}(h:Abz op x y=some v)(w:World):(binOp op t x y).run P w=.ok v w:=by
 unfold Abz at h
 split at h
 ·rename_i k a k' b
  cases op<;>simp only at h<;>(try split at h)<;>(try (cases h;done))<;>simp only[Aj7,Option.some.injEq]at h
  all_goals first
   |(rename_i hc;subst hc;subst h;simp[binOp,Op.intArith,Op.intBits,Op.intCmp];done)
   |(rename_i hc;subst h;simp[binOp,Op.shift,show¬b<0 by omega];done)
   |(rename_i hc;subst hc;split at h
     ·cases h
     ·rename_i hz;cases h;simp[binOp,Op.intDiv,hz])
 ·rename_i a b
  cases op<;>simp only[A2g]at h<;>(try (cases h;done))
  case add=>
   split at h
   ·rename_i hc
    cases h
    have:¬(IntKind.i64.max<((a.size+b.size:Nat):Int)):=by
     have:IntKind.i64.max=9223372036854775807:=by decide
     omega
    simp only[binOp,Op.stringOp]
    rw[if_neg (by simpa using this)]
    rfl
   ·cases h
  all_goals
   cases h
   simp only[binOp,Op.stringOp,Sem.run_pure,<-Awo,Af7]
 ·cases h
theorem Agj(op:BinOp)(t:TypeId)(x y:Operand){a b:Value}(h1:a=.nilIface->b≠.nilIface)(h2:∀c d,¬(a=.agg c/\b=.agg d))(w:World):(eqGuard op t x y a b).run P w=.ok () w:=by
 unfold eqGuard
 cases a<;>cases b<;>first
  |exact absurd rfl (h1 rfl)
  |exact absurd ⟨rfl,rfl⟩ (h2 _ _)
  |(simp)
theorem Akd(op:BinOp)(t:TypeId){x y:Operand}{a b:Value}(h1:(Adx x||Adx y)=true)(h2:∀c d,¬(a=.agg c/\b=.agg d))(w:World):(eqGuard op t x y a b).run P w=.ok () w:=by
 unfold eqGuard
 cases a<;>cases b<;>first
  |exact absurd ⟨rfl,rfl⟩ (h2 _ _)
  |(simp;done)
  |(cases x<;>cases y<;>simp[Adx]at h1 ⊢)
theorem Amh(hr:HR ng σ H.get w){op:BinOp}{t:TypeId}{x y:Operand}{a a' b b':Value}(ha:VR σ a a')(hb:VR σ b b')(hs:Aak (.bin op a b) H=some (v,H')):
 Res ng σ H w ((do pure (Next.value (<-(do eqGuard op t x y a' b';binOp op t a' b'))):Sem Next).run P w) v H':=by
 simp only[Aak,Option.map_eq_some_iff,Prod.mk.injEq]at hs
 obtain⟨u,hu,rfl,rfl⟩:=hs
 have same:a'=a/\b'=b/\(a=.nilIface->b≠.nilIface)/\(∀c d,¬(a=.agg c/\b=.agg d))/\VR σ u u:=by
  unfold Abz at hu
  split at hu
  ·have h1:=ha.int_inv;have h2:=hb.int_inv
   refine⟨h1,h2,by simp,by simp,?_⟩
   cases op<;>simp only at hu<;>(try split at hu)<;>(try (cases hu;done))<;>simp only[Aj7,Option.some.injEq]at hu<;>first
    |(subst hu;first|exact .int _ _|exact .bool _)
    |(split at hu
      ·cases hu
      ·cases hu;exact .int _ _)
  ·have h1:=ha.str_inv;have h2:=hb.str_inv
   refine⟨h1,h2,by simp,by simp,?_⟩
   cases op<;>simp only[A2g]at hu<;>(try split at hu)<;>(try (cases hu;done))<;>(cases hu;first|exact .string _|exact .bool _)
  ·cases hu
 obtain⟨rfl,rfl,h3,h4,h5⟩:=same
 exact Res.pure hr (by simp only[Sem.run_bind,Agj op t x y h3 h4,Result.andThen_ok,Ay5 hu,Sem.run_pure]) h5
def Ap6:Nat->TypeDesc->Bool
 |0,.bool=>true
 |1,.pointer _=>true
 |2,.slice _=>true
 |3,.map _ _=>true
 |4,.func _ _ _=>true
 |5,.interface _=>true
 |6,.interface _=>true
 |_,_=>false
theorem Ami{t k:Nat}{d:TypeDesc}(ht:P.underlying t=some d)(hd:Ap6 k d=true){a a' b b':Value}(ha:VR σ a a')(hb:VR σ b b'){r:Bool}(hu:eqA k a b=some r)(n:Nat):
 (Op.equalIn (n+1) t a' b').run P w=.ok r w:=by
 unfold eqA at hu
 split at hu
 all_goals first|(cases hu;done)|skip
 all_goals simp only[Option.some.injEq]at hu
 all_goals subst hu
 all_goals cases d<;>simp only[Ap6]at hd<;>first|(cases hd;done)|skip
 all_goals cases ha
 all_goals cases hb
 all_goals simp only[Op.equalIn,Sem.run_bind,run_underlying ht,Result.andThen_ok,Sem.run_pure,Option.isNone_none,Option.isNone_some]
theorem Ag3(hr:HR ng σ H.get w){op:BinOp}{neg:Bool}(hop:(op=.eql/\neg=false)\/(op=.neq/\neg=true)){t k:Nat}{d:TypeDesc}(ht:P.underlying t=some d)
 (hd:Ap6 k d=true) {x y:Operand} (hk:k=6->(Adx x||Adx y)=true) {a a' b b':Value} (ha:VR σ a a') (hb:VR σ b b') (hs:Aak (.eqv k neg a b) H=some (v,H')):
 Res ng σ H w ((do pure (Next.value (<-(do eqGuard op t x y a' b';binOp op t a' b'))):Sem Next).run P w) v H':=by
 simp only[Aak,Option.map_eq_some_iff,Prod.mk.injEq]at hs
 obtain⟨r,hu,rfl,rfl⟩:=hs
 have hq:(Op.equal t a' b').run P w=.ok r w:=Ami ht hd ha hb hu 9999
 have key:((Adx x||Adx y)=true\/(a'=.nilIface->b'≠.nilIface))/\(∀c d,¬(a'=.agg c/\b'=.agg d))/\binOp .eql t a' b'=(do pure (.bool (<-Op.equal t a' b')))/\binOp .neq t a' b'=(do pure (.bool (!(<-Op.equal t a' b')))):=by
  unfold eqA at hu
  split at hu
  all_goals first|(cases hu;done)|skip
  all_goals cases ha
  all_goals cases hb
  all_goals first
   |exact⟨.inl (hk rfl),by simp,rfl,rfl⟩
   |exact⟨.inr (by simp),by simp,rfl,rfl⟩
 obtain⟨h2,h3,h4,h5⟩:=key
 have hg:(eqGuard op t x y a' b').run P w=.ok () w:=by
  rcases h2 with h2|h2
  ·exact Akd op t h2 h3 w
  ·exact Agj op t x y h2 h3 w
 have hbin:(binOp op t a' b').run P w=.ok (.bool (if neg then !r else r)) w:=by
  rcases hop with⟨rfl,rfl⟩|⟨rfl,rfl⟩
  ·rw[h4];simp only[Sem.run_bind,hq,Result.andThen_ok,Sem.run_pure];rfl
  ·rw[h5];simp only[Sem.run_bind,hq,Result.andThen_ok,Sem.run_pure];rfl
 exact Res.pure hr (by simp only[Sem.run_bind,hg,Result.andThen_ok,hbin,Sem.run_pure]) (.bool _)
end
section
variable {P:Program} {ng:Nat} {σ:Sg} {H H':Aaa} {w:World} {v:Value}
theorem A2s(hr:HR ng σ H.get w){op:UnOp}{a a':Value}(ha:VR σ a a')(hs:Aak (.un op a) H=some (v,H')):
 Res ng σ H w ((do pure (Next.value (<-Op.unary op a')):Sem Next).run P w) v H':=by
 simp only[Aak]at hs
 split at hs<;>first|(cases hs;done)|skip
 all_goals cases hs
 all_goals cases ha
 ·exact Res.pure hr (v':=.bool _) (by simp[Op.unary]) (.bool _)
 ·exact Res.pure hr (v':=.int _ _) (by simp[Op.unary,Op.intArith]) (.int _ _)
 ·exact Res.pure hr (v':=.int _ _) (by simp[Op.unary,Op.intBits]) (.int _ _)
theorem Ay6(hr:HR ng σ H.get w){src dst:TypeId}{ks k:IntKind}(h1:P.underlying src=some (.int ks))(h2:P.underlying dst=some (.int k)){a a':Value}(ha:VR σ a a')(hs:Aak (.i2i k a) H=some (v,H')):
 Res ng σ H w ((do pure (Next.value (<-convert src dst a')):Sem Next).run P w) v H':=by
 simp only[Aak]at hs
 split at hs
 ·cases hs
  cases ha
  exact Res.pure hr (v':=.int _ _) (by simp[convert,run_underlying h1,run_underlying h2,Conv.intToInt]) (.int _ _)
 ·cases hs
theorem Ay7(hr:HR ng σ H.get w){src dst:TypeId}(h1:P.underlying src=some .string)(h2:P.underlying dst=some .string){a a':Value}(ha:VR σ a a')(hs:Aak (.s2s a) H=some (v,H')):
 Res ng σ H w ((do pure (Next.value (<-convert src dst a')):Sem Next).run P w) v H':=by
 simp only[Aak]at hs
 split at hs
 ·cases hs
  cases ha
  exact Res.pure hr (v':=.string _) (by simp[convert,run_underlying h1,run_underlying h2]) (.string _)
 ·cases hs
theorem Ake{e:TypeId}(h:At3 P e=true):P.underlying e=some (.int .u8):=by
 unfold At3 at h
 split at h
 ·assumption
 ·cases h
theorem VL.ints(k:IntKind):∀(l:List Int),VL σ (l.map (Value.int k)) (l.map (Value.int k))
 |[]=>.nil
 |_::l=>.cons (.int _ _) (VL.ints k l)
theorem Ay8(hr:HR ng σ H.get w){src dst e:TypeId}(h1:P.underlying src=some .string)(h2:P.underlying dst=some (.slice e))(h3:At3 P e=true){a a':Value}(ha:VR σ a a')(hs:Aak (.s2b e a) H=some (v,H')):
 Res ng σ H w ((do pure (Next.value (<-convert src dst a')):Sem Next).run P w) v H':=by
 simp only[Aak]at hs
 split at hs
 ·rename_i s
  cases hs
  cases ha
  have hge:s.size<=grownCap w s.size 0 e:=grownCap_ge w s.size 0 e
  let c:List Value:=s.data.toList.map fun b=>.int .u8 b.toNat
  let sp:List Value:=List.replicate (grownCap w s.size 0 e-s.size) (.int .u8 0)
  have hc:c.length=s.size:=by show(List.map _ _).length=_;simp
  have hv:VL σ c c:=by
   have:=VL.ints (σ:=σ) .u8 (s.data.toList.map fun b=>(b.toNat:Int))
   rw[List.map_map]at this;exact this
  have h1c:∀u∈c,u.oneCell'=true:=by
   intro u hu
   simp only[c,List.mem_map]at hu
   obtain⟨b,_,rfl⟩:=hu
   rfl
  let n:=(c++sp).length
  have hn:n=grownCap w s.size 0 e:=by
   show(c++sp).length=_
   rw[List.length_append,hc];simp[sp];omega
  have hrun:(do pure (Next.value (<-convert src dst (.string s))):Sem Next).run P w=
   .ok (.value (.slice (some ⟨w.heap.size,0,none⟩) s.size (grownCap w s.size 0 e))) (w.drew.alloc (.cells (c++sp).toArray e (n,n+1))):=by
   have hcell:(Array.map (fun b:UInt8=>Value.int .u8 b.toNat) s.data++Array.replicate (grownCap w s.size 0 e-s.size) (Value.int .u8 0))=(c++sp).toArray:=by
    apply Array.ext';simp[c,sp]
   simp[convert,run_underlying h1,run_underlying h2,run_underlying (Ake h3),Conv.stringToBytes,Question.forced,newRow,markStringish]
   have hg:(Question.appendCap s.size 0 e).cut (w.tape w.drawn (.appendCap s.size 0 e))=grownCap w s.size 0 e:=rfl
   rw[hg,hcell]
   simp only[World.shape?,World.drew,World.alloc]
   simp[World.freeze,n]
   apply Array.ext_getElem?
   intro q
   by_cases hq:q=w.heap.size
   ·subst hq;rw[Array.getElem?_modify,if_pos rfl];simp only[Array.getElem?_push_size];simp
   ·rw[Array.getElem?_modify,if_neg (Ne.symm hq),Array.getElem?_push,Array.getElem?_push,if_neg hq,if_neg hq]
  have hor:OR σ (w.alloc (.cells (c++sp).toArray e (n,n+1))) ⟨w.heap.size,0,c.length,(c++sp).toArray.size,1,true⟩ (.cells true true 1 c e):=
   OR.cells_new (w:=w) true true 1 (by simp) h1c (by simp only[List.toList_toArray,List.take_left];exact hv) (fun _=>.inr (by simp only[List.size_toArray];show n<=n;omega)) (fun _=>by rw[List.toList_toArray,List.drop_left];intro v hv;obtain⟨_,rfl⟩:=List.mem_replicate.1 hv;exact Ajn rfl)
  obtain⟨e1,e2⟩:=hr.alloc (w':=w.drew.alloc (.cells (c++sp).toArray e (n,n+1))) rfl hor rfl rfl rfl rfl
  refine⟨_,_,_,_,hrun,.inl rfl,e1,e2,?_⟩
  have hvr:=VR.sl (σ:=σ.up H.n ⟨w.heap.size,0,c.length,(c++sp).toArray.size,1,true⟩) (b:=H.n) (o:=0) (n:=s.size) (k:=s.size) (k':=grownCap w s.size 0 e) (Sg.Bfj _ _ _) (Nat.le_refl _)
   (.inr ⟨rfl,hge,by simp[hc],by simp only[List.size_toArray,Nat.mul_one,Nat.zero_add];show _<=n;omega⟩)
  exact hvr
 ·cases hs
theorem Ahm:∀{l:List Value} {r:List UInt8},bytesOf l=some r->∃zs:List Int,l=zs.map (Value.int .u8)/\r=zs.map fun n=>UInt8.ofNat n.toNat
 |[],r,h=>by simp[bytesOf]at h;subst h;exact⟨[],rfl,rfl⟩
 | .int .u8 n::l,r,h=>by
  simp only[bytesOf,Option.map_eq_some_iff]at h
  obtain⟨r',h1,rfl⟩:=h
  obtain⟨zs,rfl,rfl⟩:=Ahm h1
  exact⟨n::zs,rfl,rfl⟩
 | .int .i8 n::l,r,h=>by simp[bytesOf]at h
 | .int .i16 n::l,r,h=>by simp[bytesOf]at h
 | .int .i32 n::l,r,h=>by simp[bytesOf]at h
 | .int .i64 n::l,r,h=>by simp[bytesOf]at h
 | .int .u16 n::l,r,h=>by simp[bytesOf]at h
 | .int .u32 n::l,r,h=>by simp[bytesOf]at h
 | .int .u64 n::l,r,h=>by simp[bytesOf]at h
 | .bool _::l,r,h=>by simp[bytesOf]at h
 | .float .. ::l,r,h=>by simp[bytesOf]at h
 | .complex .. ::l,r,h=>by simp[bytesOf]at h
 | .string _::l,r,h=>by simp[bytesOf]at h
 | .pointer _::l,r,h=>by simp[bytesOf]at h
 | .slice .. ::l,r,h=>by simp[bytesOf]at h
 | .map _::l,r,h=>by simp[bytesOf]at h
 | .chan _::l,r,h=>by simp[bytesOf]at h
 | .func .. ::l,r,h=>by simp[bytesOf]at h
 | .nilFunc::l,r,h=>by simp[bytesOf]at h
 | .iface .. ::l,r,h=>by simp[bytesOf]at h
 | .nilIface::l,r,h=>by simp[bytesOf]at h
 | .agg _::l,r,h=>by simp[bytesOf]at h
 | .tuple _::l,r,h=>by simp[bytesOf]at h
theorem VL.ints_inv{k:IntKind}:∀{zs:List Int} {l':List Value},VL σ (zs.map (Value.int k)) l'->l'=zs.map (Value.int k)
 |[],_,h=>by cases h;rfl
 |z::zs,_,h=>by
  cases h with
  |cons a t=>rw[a.int_inv,VL.ints_inv t];rfl
theorem Ahu(zs:List Int):∀r:ByteArray,zs.foldl (fun r n=>r.push (UInt8.ofNat n.toNat)) r=⟨(r.data.toList++zs.map fun n=>UInt8.ofNat n.toNat).toArray⟩:=by
 induction zs with
 |nil=>intro r;cases r;simp
 |cons z zs ih=>
  intro r
  rw[List.foldl_cons,ih]
  simp[ByteArray.push]
theorem Ay9(hr:HR ng σ H.get w){src dst e:TypeId}(h1:P.underlying src=some (.slice e))(h2:P.underlying dst=some .string)(h3:At3 P e=true){a a':Value}(ha:VR σ a a')(hs:Aak (.b2s a) H=some (v,H')):
 Res ng σ H w ((do pure (Next.value (<-convert src dst a')):Sem Next).run P w) v H':=by
 simp only[Aak]at hs
 split at hs
 ·rename_i c hel
  split at hs
  ·rename_i l hb
   cases hs
   obtain⟨zs,rfl,rfl⟩:=Ahm hb
   obtain⟨x',n,k',l',rfl,_,e3,e4,_,e6⟩:=Afd hr ha hel
   have:=VL.ints_inv e3
   subst this
   rw[Nat.mul_one]at e4
   rcases e6 with⟨rfl,rfl⟩|⟨ad,rfl,hc⟩
   ·have:zs=[]:=List.eq_nil_of_length_eq_zero (by simpa using e4)
    subst this
    exact Res.pure hr (v':=.string _) (by simp only[Sem.run_bind,run_convert_bytes_string w src dst e _ _ _ h1 (Ake h3) h2,Conv.bytesToString,Sem.run_pure,Result.andThen_ok];rfl) (.string _)
   ·have hl:=run_loadCells_list (P:=P) w ad _ hc
    rw[e4]at hl
    refine Res.pure hr (v':=.string _) ?_ (.string _)
    simp only[Sem.run_bind,run_convert_bytes_string w src dst e _ _ _ h1 (Ake h3) h2,run_bytesToString w ad n k' zs hl,Result.andThen_ok,Sem.run_pure,Ahu]
    simp
  ·cases hs
 ·cases hs
theorem At6(hr:HR ng σ H.get w){src dst e e2:TypeId}(h1:P.underlying src=some (.slice e2))(h2:P.underlying dst=some (.slice e))(h3:At3 P e=true)(h4:(src==dst)=true){a a':Value}(ha:VR σ a a')(hs:Aak (.mark a) H=some (v,H')):
 Res ng σ H w ((do pure (Next.value (<-convert src dst a')):Sem Next).run P w) v H':=by
 simp only[Aak]at hs
 split at hs
 ·rename_i b o n k
  split at hs
  ·rename_i room esz c e' hG
   cases hs
   have fin:∀(i:BI) (ad:Addr) (k':Nat),σ b=some i->ad.block=i.c->VR σ (.slice (some ⟨b,o,none⟩) n k) (.slice (some ad) n k')→
    Res ng σ H w ((do pure (Next.value (<-convert src dst (.slice (some ad) n k'))):Sem Next).run P w) (.slice (some ⟨b,o,none⟩) n k) H:=by
    intro i ad k' hb hab hvr
    obtain⟨ob,g1,g2⟩:=hr.obj b i hb
    rw[hG]at g1;cases g1
    obtain⟨a1,a2,a3,a4,a9,c',fr,a5,a6,a7,a8⟩:=g2
    have hlt:=hr.lt b i hb
    let w':=w.freeze {block:=i.c,off:=c'.size} 1
    have hw':w'.heap=w.heap.modify i.c fun x=>match x with
     | .cells c elem (lo,hi)=>.cells c elem (if lo==hi then(c'.size,c'.size+1)else(min lo c'.size,max hi (c'.size+1)))
     |o=>o:=by
     show(w.freeze {block:=i.c,off:=c'.size} 1).heap=_
     simp[World.freeze]
     rfl
    have hself:w'.heap[i.c]? =some (.cells c' e' (if fr.1==fr.2 then(c'.size,c'.size+1)else(min fr.1 c'.size,max fr.2 (c'.size+1)))):=by
     rw[hw',Array.getElem?_modify,if_pos rfl,a5];rfl
    have hoth:∀q,q≠i.c->w'.heap[q]? =w.heap[q]? :=by
     intro q hq
     rw[hw',Array.getElem?_modify,if_neg (Ne.symm hq)]
    have hsz:w'.heap.size=w.heap.size:=by rw[hw'];simp
    have hrun:(do pure (Next.value (<-convert src dst (.slice (some ad) n k'))):Sem Next).run P w=.ok (.value (.slice (some ad) n k')) w':=by
     have hsh:w.shape? ad.block=some (e',c'.size):=by rw[hab];simp[World.shape?,a5]
     simp[convert,run_underlying h1,run_underlying h2,run_underlying (Ake h3),h4,markStringish,hsh]
     rw[hab]
    have hos:w'.os=w.os/\w'.tape=w.tape/\w'.output=w.output:=by
     show(w.freeze _ 1).os=_/\(w.freeze _ 1).tape=_/\(w.freeze _ 1).output=_
     simp[World.freeze]
    refine⟨_,_,w',σ,hrun,.inl rfl,HR.upd (o2:=.cells true room esz c e') hr hb hG rfl hoth hsz (fun _ _=>rfl) hG ?_,?_,hvr⟩
    ·refine⟨a1,a2,a3,a4,a9,c',_,hself,a6,a7,fun _=>⟨?_,(a8 rfl).2⟩⟩
     split
     ·right;exact Nat.le_refl _
     ·rename_i hne
      have:=(a8 rfl).1
      have hne':¬fr.1=fr.2:=by simpa using hne
      right
      show c'.size<=min fr.1 c'.size
      omega
    ·exact⟨Sg.le.refl σ,(fun x j hx hx'=>by rw[hx]at hx';cases hx'),fun x j o' _ ho hown=>⟨o',ho,hown⟩,fun x j o' _ ho hown=>⟨o',ho,hown⟩,fun q hq hne=>hoth q (fun he=>hne b i _ hb hG rfl he.symm),by omega,Nat.le_refl _,hos.1,hos.2.1,hos.2.2⟩
   cases ha with
   | @sl _ _ _ _ k' i hb q1 q2=>exact fin i _ _ hb rfl (.sl hb q1 q2)
   | @sl0 _ _ o' i hb=>exact fin i _ _ hb rfl (.sl0 hb)
   |slz hx=>simp at hx
  ·cases hs
 ·cases hs
theorem Ap7(hr:HR ng σ H.get w){t:TypeId}{d:TypeDesc}(h1:P.underlying t=some d)(hd:∀ms,d≠.interface ms){a a':Value}(ha:VR σ a a')(hs:Aak (.iface t a) H=some (v,H')):
 Res ng σ H w ((do pure (Next.value (<-Instr.makeInterface t a')):Sem Next).run P w) v H':=by
 simp only[Aak]at hs
 cases hs
 refine Res.pure hr (v':=.iface t a') ?_ (.iface t ha)
 cases d<;>first
  |exact absurd rfl (hd _)
  |simp[Instr.makeInterface,run_underlying h1]
theorem Ap8(hr:HR ng σ H.get w){a a':Value}(ha:VR σ a a')(hs:Aak (.nilck a) H=some (v,H')){o:Oper}{x:Operand}{ev:Operand->Value}(hop:o.op=.nilCheck x)(hx:ev x=a'):
 Res ng σ H w ((execOp ev o).run P w) v H':=by
 simp only[Aak]at hs
 split at hs
 ·cases hs;cases ha with|ptr hb=>exact Res.pure hr (v':=_) (by simp[execOp,hop,hx]) (.ptr hb)
 ·cases hs;cases ha with|iface t h=>exact Res.pure hr (v':=_) (by simp[execOp,hop,hx]) (.iface _ h)
 ·cases hs;cases ha with|func fn xs xs' ys ys' h1 h2 h3 h4=>exact Res.pure hr (v':=_) (by simp[execOp,hop,hx]) (.func _ _ _ _ _ h1 h2 h3 h4)
 ·cases hs
theorem VL.map2{X:Type}(f g:X->Value):∀(xs:List X),(∀x∈xs,VR σ (f x) (g x))->VL σ (xs.map f) (xs.map g)
 |[],_=>.nil
 |x::xs,h=>.cons (h x (by simp)) (VL.map2 f g xs (fun y hy=>h y (by simp[hy])))
theorem At7(hr:HR ng σ H.get w){fn:Fn}{l l' m m':List Value}(h1:VL σ l l')(h2:VL σ m m')(hs:Aak (.mkfn fn l m) H=some (v,H')):
 Res ng σ H w ((do pure (Next.value (<-Instr.makeFunc fn l'.toArray m'.toArray)):Sem Next).run P w) v H':=by
 simp only[Aak]at hs
 cases hs
 exact Res.pure hr (v':=.func fn l'.toArray m'.toArray) (by simp[Instr.makeFunc]) (.func _ _ _ _ _ h1.iff_arr.1 h1.iff_arr.2 h2.iff_arr.1 h2.iff_arr.2)
theorem Ab2{x x':Option Value}(hx:∀u,x=some u->∃u',x'=some u'/\VR σ u u'){d top r:Nat}(h:Aj8 x d top=some r):
 (x=none/\r=d)\/∃k i,x=some (.int k i)/\x'=some (.int k i)/\0<=i/\i<=(top:Int)/\r=i.toNat:=by
 unfold Aj8 at h
 split at h
 ·cases h;exact .inl ⟨rfl,rfl⟩
 ·rename_i k i
  split at h
  ·rename_i hc
   cases h
   obtain⟨u',e1,e2⟩:=hx _ rfl
   rw[e2.int_inv]at e1
   exact .inr ⟨k,i,rfl,e1,hc.1,hc.2,rfl⟩
  ·cases h
 ·cases h
theorem Abb{k:IntKind}{i:Int}{y:Nat}(h0:0<=i)(h1:i<=(y:Int))(c:BoundsCode)(w:World):(Instr.sliceBound (.int k i) y c).run P w=.ok i.toNat w:=by
 simp[Instr.sliceBound,asIntOf,h0,h1]
theorem Ap9(hr:HR ng σ H.get w){t:TypeId}(h1:P.underlying t=some .string){a a':Value}(ha:VR σ a a'){lo hi lo' hi':Option Value}(hlo:∀u,lo=some u->∃u',lo'=some u'/\VR σ u u')(hhi:∀u,hi=some u->∃u',hi'=some u'/\VR σ u u')
 (hlo0:lo=none->lo'=none) (hhi0:hi=none->hi'=none) (hs:Aak (.slstr a lo hi) H=some (v,H')):
 Res ng σ H w ((do pure (Next.value (<-Instr.sliceAt t a' lo' hi' none)):Sem Next).run P w) v H':=by
 simp only[Aak]at hs
 split at hs
 ·rename_i s
  split at hs
  ·rename_i h hh
   split at hs
   ·rename_i l hl
    cases hs
    cases ha
    refine Res.pure hr (v':=.string (s.extract l h)) ?_ (.string _)
    rcases Ab2 hhi hh with⟨e1,e2⟩|⟨k,i,e1,e2,e3,e4,e5⟩
    ·rw[hhi0 e1]
     subst e2
     rcases Ab2 hlo hl with⟨f1,f2⟩|⟨k2,i2,f1,f2,f3,f4,f5⟩
     ·rw[hlo0 f1];subst f2
      simp[Instr.sliceAt,Instr.slice,Instr.sliceBounds,run_underlying h1]
     ·rw[f2];subst f5
      simp[Instr.sliceAt,Instr.slice,Instr.sliceBounds,run_underlying h1,Abb f3 f4]
    ·rw[e2];subst e5
     rcases Ab2 hlo hl with⟨f1,f2⟩|⟨k2,i2,f1,f2,f3,f4,f5⟩
     ·rw[hlo0 f1];subst f2
      simp[Instr.sliceAt,Instr.slice,Instr.sliceBounds,run_underlying h1,Abb e3 e4]
     ·rw[f2];subst f5
      simp[Instr.sliceAt,Instr.slice,Instr.sliceBounds,run_underlying h1,Abb e3 e4,Abb f3 f4]
   ·cases hs
  ·cases hs
 ·cases hs
theorem At8(hr:HR ng σ H.get w){t e esz:Nat}(h1:P.underlying t=some (.slice e))(hz:Aba P e=some esz){a a':Value}(ha:VR σ a a'){lo hi mx lo' hi' mx':Option Value}
 (hlo:∀u,lo=some u->∃u',lo'=some u'/\VR σ u u') (hhi:∀u,hi=some u->∃u',hi'=some u'/\VR σ u u') (hmx:∀u,mx=some u->∃u',mx'=some u'/\VR σ u u')
 (hlo0:lo=none->lo'=none) (hhi0:hi=none->hi'=none) (hmx0:mx=none->mx'=none) (hmh:mx≠none->hi≠none) (hs:Aak (.slsl esz a lo hi mx) H=some (v,H')):
 Res ng σ H w ((do pure (Next.value (<-Instr.sliceAt t a' lo' hi' mx')):Sem Next).run P w) v H':=by
 simp only[Aak]at hs
 split at hs
 case h_2=>cases hs
 rename_i base n k
 split at hs
 case h_2=>cases hs
 rename_i m hm
 split at hs
 case h_2=>cases hs
 rename_i h hh
 split at hs
 case h_2=>cases hs
 rename_i l hl
 -- the bounds on the model's side: the capacity there is k' >= k
 have bounds:∀k',k<=k'->n<=k->∃m',(Instr.sliceBounds true n k' lo' hi' mx').run P w=.ok (l,h,m') w/\((mx=none/\m'=k'/\m=k)\/(m'=m/\m<=k))/\l<=h/\h<=m:=by
  intro k' hk hn
  rcases Ab2 hmx hm with⟨e1,e2⟩|⟨kk,i,e1,e2,e3,e4,e5⟩
  ·rcases Ab2 hhi hh with⟨f1,f2⟩|⟨k1,i1,f1,f2,f3,f4,f5⟩
   ·rcases Ab2 hlo hl with⟨g1,g2⟩|⟨k2,i2,g1,g2,g3,g4,g5⟩
    ·refine⟨k',?_,.inl ⟨e1,rfl,e2⟩,by omega,by omega⟩
     rw[hmx0 e1,hhi0 f1,hlo0 g1,f2,g2]
     simp[Instr.sliceBounds]
    ·refine⟨k',?_,.inl ⟨e1,rfl,e2⟩,by omega,by omega⟩
     rw[hmx0 e1,hhi0 f1,g2,f2,g5]
     rw[f2]at g4
     simp[Instr.sliceBounds,Abb g3 g4]
   ·have f4':i1<=(k':Int):=by omega
    rcases Ab2 hlo hl with⟨g1,g2⟩|⟨k2,i2,g1,g2,g3,g4,g5⟩
    ·refine⟨k',?_,.inl ⟨e1,rfl,e2⟩,by omega,by omega⟩
     rw[hmx0 e1,f2,hlo0 g1,f5,g2]
     simp[Instr.sliceBounds,Abb f3 f4']
    ·refine⟨k',?_,.inl ⟨e1,rfl,e2⟩,by omega,by omega⟩
     rw[hmx0 e1,f2,g2,f5,g5]
     rw[f5]at g4
     simp[Instr.sliceBounds,Abb f3 f4',Abb g3 g4]
  ·have e4':i<=(k':Int):=by omega
   rcases Ab2 hhi hh with⟨f1,f2⟩|⟨k1,i1,f1,f2,f3,f4,f5⟩
   ·exact absurd f1 (hmh (by rw[e1];simp))
   ·rw[e5]at f4
    rcases Ab2 hlo hl with⟨g1,g2⟩|⟨k2,i2,g1,g2,g3,g4,g5⟩
    ·refine⟨m,?_,.inr ⟨rfl,by omega⟩,by omega,by omega⟩
     rw[e2,f2,hlo0 g1,f5,g2,e5]
     simp[Instr.sliceBounds,Abb e3 e4',Abb f3 f4]
    ·refine⟨m,?_,.inr ⟨rfl,by omega⟩,by omega,by omega⟩
     rw[f5]at g4
     rw[e2,f2,g2,f5,g5,e5]
     simp[Instr.sliceBounds,Abb e3 e4',Abb f3 f4,Abb g3 g4]
 cases ha with
 |nilSl=>
  simp only at hs
  cases hs
  obtain⟨m',r1,r2,r3,r4⟩:=bounds 0 (Nat.le_refl _) (Nat.le_refl _)
  have hm0:m'=0/\h=0/\l=0:=by rcases r2 with⟨_,b,c⟩|⟨b,c⟩<;>omega
  obtain⟨rfl,rfl,rfl⟩:=hm0
  refine Res.pure hr (v':=.slice none 0 0) ?_ .nilSl
  simp[Instr.sliceAt,Instr.slice,run_underlying h1,r1,Aa2 hz]
 | @sl0 b o o' j hb=>
  simp only at hs
  split at hs
  ·split at hs
   ·cases hs
    obtain⟨m',r1,r2,r3,r4⟩:=bounds 0 (Nat.le_refl _) (Nat.le_refl _)
    have hm0:m'=0/\h=0/\l=0/\m=0:=by rcases r2 with⟨_,b,c⟩|⟨b,c⟩<;>omega
    obtain⟨rfl,rfl,rfl,rfl⟩:=hm0
    refine Res.pure hr (v':=.slice (some ⟨j.c,o',none⟩) 0 0) ?_ (.sl0 hb)
    simp[Instr.sliceAt,Instr.slice,run_underlying h1,r1,Aa2 hz]
   ·cases hs
  ·cases hs
 | @slz x a hx=>
  obtain⟨b,o,q⟩:=x
  cases q with
  |none=>simp at hx
  |some q=>
   simp only[and_self,if_true]at hs
   cases hs
   obtain⟨m',r1,r2,r3,r4⟩:=bounds 0 (Nat.le_refl _) (Nat.le_refl _)
   have hm0:m'=0/\h=0/\l=0/\m=0:=by rcases r2 with⟨_,b,c⟩|⟨b,c⟩<;>omega
   obtain⟨rfl,rfl,rfl,rfl⟩:=hm0
   refine Res.pure hr (v':=.slice (some a) 0 0) ?_ (.slz rfl)
   simp[Instr.sliceAt,Instr.slice,run_underlying h1,r1,Aa2 hz]
 | @sl b o n k k' j hb hnk hk=>
  simp only at hs
  split at hs
  ·rename_i own room esz' c e' hG
   split at hs
   ·rename_i hes
    cases hs
    have hkk:k<=k':=by rcases hk with hk|hk<;>omega
    obtain⟨m',r1,r2,r3,r4⟩:=bounds k' hkk hnk
    obtain⟨ob,g1,g2⟩:=hr.obj b j hb
    rw[hG]at g1;cases g1
    have hje:j.esz=esz':=g2.2.2.1
    have hjr:j.room=room:=g2.2.1
    have hmk:m<=k:=by rcases r2 with⟨_,_,c⟩|⟨_,c⟩<;>omega
    have hml:m*j.esz<=k*j.esz:=Nat.mul_le_mul_right _ hmk
    have hlm:l*j.esz<=m*j.esz:=Nat.mul_le_mul_right _ (by omega)
    have hsub:(m-l)*j.esz=m*j.esz-l*j.esz:=Nat.sub_mul _ _ _
    have hrun:(Instr.sliceAt t (.slice (some ⟨j.c,j.off+o,none⟩) n k') lo' hi' mx').run P w=.ok (.slice (some (if m'=l then⟨j.c,j.off+o,none⟩else⟨j.c,j.off+o+l*esz,none⟩)) (h-l) (m'-l)) w:=by
     by_cases hml':m'=l
     ·simp[Instr.sliceAt,Instr.slice,run_underlying h1,r1,Aa2 hz,hml']
     ·simp[Instr.sliceAt,Instr.slice,run_underlying h1,r1,Aa2 hz,hml',Acb]
    refine Res.pure hr (v':=.slice (some (if m'=l then⟨j.c,j.off+o,none⟩else⟨j.c,j.off+o+l*esz,none⟩)) (h-l) (m'-l)) (by simp only[Sem.run_bind,hrun,Result.andThen_ok,Sem.run_pure]) ?_
    by_cases hml':m'=l
    ·have h0:m=l/\h=l:=by rcases r2 with⟨_,b,c⟩|⟨b,c⟩<;>omega
     obtain⟨rfl,rfl⟩:=h0
     simp only[hml',if_true,Nat.sub_self]
     exact .sl0 hb
    ·rw[if_neg hml']
     have hv:=VR.sl (σ:=σ) (b:=b) (o:=o+l*esz) (n:=h-l) (k:=m-l) (k':=m'-l) (i:=j) hb (by omega) (by
      rcases r2 with⟨q1,q2,q3⟩|⟨q1,q2⟩
      ·subst q2;subst q3
       rcases hk with hk|⟨s1,s2,s3,s4⟩
       ·left;omega
       ·rcases hes with hes|hes
        case inr=>rw[hjr,hes]at s1;cases s1
        rw[hes]at hje
        right
        have hsub2:(m'-l)*j.esz=m'*j.esz-l*j.esz:=Nat.sub_mul _ _ _
        have hlm2:l*j.esz<=m'*j.esz:=Nat.mul_le_mul_right _ (by omega)
        refine⟨s1,by omega,by rw[hsub,<-hje];omega,by rw[hsub2,<-hje];omega⟩
      ·left;omega)
     rw[<-Nat.add_assoc]at hv
     exact hv
   ·cases hs
  ·cases hs
theorem Aqa(hr:HR ng σ H.get w){t f:Nat}{fs:Array Field}{fd:Field}(h1:P.underlying t=some (.struct fs))(h2:fs[f]? =some fd)(h3:¬(Aba P fd.type).getD 0=0){a a':Value}(ha:VR σ a a')(hs:Aak (.faddr fd.offset a) H=some (v,H')):
 Res ng σ H w ((do pure (Next.value (<-Instr.fieldAt t a' f)):Sem Next).run P w) v H':=by
 simp only[Aak]at hs
 split at hs
 ·rename_i b o
  cases hs
  cases ha with
  | @ptr _ _ i hb=>
   obtain⟨n,hn⟩:∃n,Aba P fd.type=some n:=by
    cases hx:Aba P fd.type with
    |none=>rw[hx]at h3;simp at h3
    |some n=>exact⟨n,rfl⟩
   rw[hn]at h3
   refine Res.pure hr (v':=.pointer (some ⟨i.c,i.off+(o+fd.offset),none⟩)) ?_ (.ptr hb)
   have h3':¬n=0:=by simpa using h3
   simp[Instr.fieldAt,run_underlying h1,h2,Instr.sureAddr,fieldPlace,Aa2 hn,h3',Acb,Nat.add_assoc]
 ·cases hs
theorem Aii{cs cs':Array Value}(h:VR σ (.agg cs) (.agg cs')):VL σ cs.toList cs'.toList:=by
 cases h with
 |agg _ _ h1 h2=>exact VL.of_arr h1 h2
theorem Aij{cs:Array Value}{v':Value}(h:VR σ (.agg cs) v'):∃cs',v'=.agg cs':=by cases h;exact⟨_,rfl⟩
theorem Aqb{cs:Array Value}{v':Value}(h:VR σ (.tuple cs) v'):∃cs',v'=.tuple cs'/\VL σ cs.toList cs'.toList:=by
 cases h with
 |tuple _ _ h1 h2=>exact⟨_,rfl,VL.of_arr h1 h2⟩
theorem At9(hr:HR ng σ H.get w){t f:Nat}{fs:Array Field}{fd:Field}(h1:P.underlying t=some (.struct fs))(h2:fs[f]? =some fd)(h3:Abg P fd.type=some false){a a':Value}(ha:VR σ a a')(hs:Aak (.fld1 fd.offset a) H=some (v,H')):
 Res ng σ H w ((do pure (Next.value (<-Instr.field t a' f)):Sem Next).run P w) v H':=by
 simp only[Aak]at hs
 split at hs
 ·rename_i cs
  simp only[Option.map_eq_some_iff,Prod.mk.injEq]at hs
  obtain⟨u,hu,rfl,rfl⟩:=hs
  obtain⟨cs',rfl⟩:=Aij ha
  obtain⟨u',e1,e2⟩:=(Aii ha).get hu
  refine Res.pure hr (v':=u') ?_ e2
  have e1':cs'[fd.offset]? =some u':=by simpa using e1
  simp[Instr.field,run_underlying h1,h2,part,Adg h3,asAgg,e1']
 ·cases hs
theorem Aua(hr:HR ng σ H.get w){t f n:Nat}{fs:Array Field}{fd:Field}(h1:P.underlying t=some (.struct fs))(h2:fs[f]? =some fd)(h3:Abg P fd.type=some true)(h4:Aba P fd.type=some n){a a':Value}(ha:VR σ a a')
 (hs:Aak (.fldn fd.offset n a) H=some (v,H')):Res ng σ H w ((do pure (Next.value (<-Instr.field t a' f)):Sem Next).run P w) v H':=by
 simp only[Aak]at hs
 split at hs
 ·rename_i cs
  split at hs
  ·rename_i hle
   cases hs
   obtain⟨cs',rfl⟩:=Aij ha
   refine Res.pure hr (v':=.agg ((cs'.toList.drop fd.offset).take n).toArray) ?_ (VR.agg_of (((Aii ha).drop _).take _))
   have:cs'.extract fd.offset (fd.offset+n)=((cs'.toList.drop fd.offset).take n).toArray:=by
    apply Array.ext'
    simp[Array.toList_extract,List.extract_eq_take_drop]
   simp[Instr.field,run_underlying h1,h2,part,Adg h3,Aa2 h4,asAgg,this]
  ·cases hs
 ·cases hs
theorem Aqc(hr:HR ng σ H.get w){t e n:Nat}(h1:P.underlying t=some (.slice e))(h2:Aba P e=some n){a a' b b':Value}(ha:VR σ a a')(hb:VR σ b b')(hs:Aak (.iaddr n a b) H=some (v,H')):
 Res ng σ H w ((do pure (Next.value (<-Instr.indexAt t a' b')):Sem Next).run P w) v H':=by
 simp only[Aak]at hs
 split at hs
 ·rename_i bl o len cap k i
  split at hs
  ·rename_i hc
   cases hs
   rw[hb.int_inv]
   cases ha with
   | @sl _ _ _ _ k' j hj _ _=>
    refine Res.pure hr (v':=.pointer (some ⟨j.c,j.off+(o+i.toNat*n),none⟩)) ?_ (.ptr hj)
    simp[Instr.indexAt,run_underlying h1,asIntOf,hc.1,hc.2,Aa2 h2,Acb,Nat.add_assoc]
   |sl0=>simp at hc;omega
   |slz=>simp at hc;omega
  ·cases hs
 ·cases hs
theorem Aub(hr:HR ng σ H.get w){t:Nat}(h1:P.underlying t=some .string){a a' b b':Value}(ha:VR σ a a')(hb:VR σ b b')(hs:Aak (.idxs a b) H=some (v,H')):
 Res ng σ H w ((do pure (Next.value (<-Instr.index t a' b')):Sem Next).run P w) v H':=by
 simp only[Aak]at hs
 split at hs
 ·rename_i s k i
  split at hs
  ·rename_i hc
   simp only[Option.map_eq_some_iff,Prod.mk.injEq]at hs
   obtain⟨u,hu,rfl,rfl⟩:=hs
   rw[hb.int_inv,ha.str_inv]
   refine Res.pure hr (v':=.int .u8 u.toNat) ?_ (.int _ _)
   have hlt:i.toNat<s.size:=by omega
   have e1:s[i.toNat]? =some u:=by
    have hlt':i.toNat<s.data.size:=hlt
    have:s.data[i.toNat]? =some u:=by simpa using hu
    rw[Array.getElem?_eq_getElem hlt']at this
    rw[getElem?_pos s i.toNat hlt]
    exact this
   simp[Instr.index,run_underlying h1,asIntOf,hc.1,e1]
  ·cases hs
 ·cases hs
theorem Ao2(hr:HR ng σ H.get w){xt u:Nat}{d:TypeDesc}{z:Value}{ok:Bool}(h1:P.underlying u=some d)(hd:∀ms,d≠.interface ms)(hz:Acy P u=some z)(hzz:VR σ z z){a a':Value}(ha:VR σ a a')
 (hs:Aak (.assert u z ok a) H=some (v,H')):Res ng σ H w ((do pure (Next.value (<-Instr.typeAssert a' xt u ok)):Sem Next).run P w) v H':=by
 have hta:∀x:Value,Instr.typeAssert x xt u ok=Instr.typeAssert x xt u ok:=fun _=>rfl
 simp only[Aak]at hs
 split at hs
 ·rename_i t x
  cases ha with
  | @iface _ _ x' hx=>
   split at hs
   ·rename_i ht
    subst ht
    cases hs
    cases ok
    ·refine Res.pure hr (v':=x') ?_ (by simpa using hx)
     cases d<;>first|exact absurd rfl (hd _)|simp[Instr.typeAssert,run_underlying h1]
    ·refine Res.pure hr (v':=.tuple #[x',.bool true]) ?_ (VR.tuple_of (.cons hx (.cons (.bool true) .nil)))
     cases d<;>first|exact absurd rfl (hd _)|simp[Instr.typeAssert,run_underlying h1]
   ·rename_i ht
    split at hs
    ·rename_i hok
     cases hs
     subst hok
     refine Res.pure hr (v':=.tuple #[z,.bool false]) ?_ (VR.tuple_of (.cons hzz (.cons (.bool false) .nil)))
     cases d<;>first|exact absurd rfl (hd _)|simp[Instr.typeAssert,run_underlying h1,ht,Ac1 hz]
    ·cases hs
 ·split at hs
  ·rename_i hok
   cases hs
   subst hok
   cases ha
   refine Res.pure hr (v':=.tuple #[z,.bool false]) ?_ (VR.tuple_of (.cons hzz (.cons (.bool false) .nil)))
   cases d<;>first|exact absurd rfl (hd _)|simp[Instr.typeAssert,run_underlying h1,Ac1 hz]
  ·cases hs
 ·cases hs
theorem Amj(hr:HR ng σ H.get w){i:Nat}{a a':Value}(ha:VR σ a a')(hs:Aak (.extract a i) H=some (v,H')):Res ng σ H w ((do pure (Next.value (<-Instr.extract a' i)):Sem Next).run P w) v H':=by
 simp only[Aak]at hs
 split at hs
 ·simp only[Option.map_eq_some_iff,Prod.mk.injEq]at hs
  obtain⟨u,hu,rfl,rfl⟩:=hs
  obtain⟨cs',rfl,hl⟩:=Aqb ha
  obtain⟨u',e1,e2⟩:=hl.get hu
  refine Res.pure hr (v':=u') ?_ e2
  have e1':cs'[i]? =some u':=by simpa using e1
  simp[Instr.extract,e1']
 ·cases hs
theorem Aqd(hr:HR ng σ H.get w){t ty:Nat}{str:Bool}{d:TypeDesc}(h1:P.underlying t=some d)(hd:(d=.string/\str=true)\/((∃e,d=.slice e)/\str=false)){a a':Value}(ha:VR σ a a')
 (hs:Aak (.len str a) H=some (v,H')):Res ng σ H w ((do pure (Next.value (<-Builtin.len_ #[t] ty #[a'])):Sem Next).run P w) v H':=by
 simp only[Aak,Option.map_eq_some_iff,Prod.mk.injEq]at hs
 obtain⟨n,hn,rfl,rfl⟩:=hs
 refine Res.pure hr (v':=.int .i64 n) ?_ (.int _ _)
 unfold A2h at hn
 split at hn
 ·cases hn
  rcases hd with⟨_,h⟩|⟨⟨e,rfl⟩,_⟩
  ·cases h
  ·cases ha<;>simp[Builtin.len_,run_underlying h1,goInt]
 ·cases hn
  rcases hd with⟨rfl,_⟩|⟨_,h⟩
  ·cases ha;simp[Builtin.len_,run_underlying h1,goInt]
  ·cases h
 ·cases hn
theorem Auc(hr:HR ng σ H.get w){t e esz bytes:Nat}{z:Value}(h1:P.underlying t=some (.slice e))(hz:Acy P e=some z)(hn:Aba P e=some esz)(hb:Adp P e=some bytes)(hzn:z.cells.size=esz)(h0:0<esz)(hp:VL σ z.cells.toList z.cells.toList)
 {a a' b b':Value} (ha:VR σ a a') (hbv:VR σ b b') (hs:Aak (.mksl e esz bytes z.cells.toList a b) H=some (v,H')):Res ng σ H w ((do pure (Next.value (<-Instr.makeSlice t a' b')):Sem Next).run P w) v H':=by
 simp only[Aak]at hs
 split at hs
 ·rename_i l c
  split at hs
  ·rename_i hc
   obtain⟨c1,c2,c3,c4,c5,c6⟩:=hc
   cases hs
   rw[ha.int_inv,hbv.int_inv]
   obtain⟨i,hi,hiz,hin,hib⟩:=Akb hz hn hb
   obtain⟨ln,rfl⟩:=Int.eq_ofNat_of_zero_le c1
   obtain⟨cn,rfl⟩:=Int.eq_ofNat_of_zero_le (Int.le_trans c1 c2)
   have hmul:(i.bytes:Int)*(cn:Int)<=281474976710656:=by rw[hib];omega
   have hrun:=run_make (P:=P) w t e i z h1 hi hiz .i64 .i64 ln cn (by omega) (by omega) hmul (by omega)
   have hvl:∀m:Nat,VL σ (List.replicate m z.cells.toList).flatten (List.replicate m z.cells.toList).flatten:=by
    intro m
    induction m with
    |zero=>simp;exact .nil
    |succ m ih=>simpa[List.replicate_succ]using hp.append ih
   have hone:∀u∈(List.replicate cn z.cells.toList).flatten,u.oneCell'=true:=by
    intro u hu
    simp only[List.mem_flatten,List.mem_replicate]at hu
    obtain⟨l,⟨_,rfl⟩,hu⟩:=hu
    exact List.all_eq_true.1 c6 u hu
   obtain⟨e1,e2⟩:=Age hr (e:=e) (room:=false) (esz:=esz) (hvl cn) hone
   have hcell:madeCells z.cells ((cn:Int).toNat*i.size)=(List.replicate cn z.cells.toList).flatten.toArray:=by
    rw[hin]
    apply Array.ext'
    simp only[madeCells,Array.toList_map,Array.toList_range,Int.toNat_natCast]
    exact Agf z.cells esz hzn cn
   refine⟨_,.slice (some ⟨w.heap.size,0,none⟩) ln cn,_,_,?_,.inl rfl,e1,e2,?_⟩
   ·simp only[Sem.run_bind]
    rw[hrun,hcell]
    simp
   ·have hi:(σ.up H.n ⟨w.heap.size,0,(List.replicate cn z.cells.toList).flatten.length,(List.replicate cn z.cells.toList).flatten.length,esz,false⟩) H.n=some _:=Sg.Bfj _ _ _
    have hlen:(List.replicate cn z.cells.toList).flatten.length=cn*esz:=by simp[hzn]
    exact VR.sl hi (by simp;omega) (.inl rfl)
  ·cases hs
 ·cases hs
end
section
variable {P:Program} {ng:Nat} {σ:Sg} {H H':Aaa} {w:World} {v:Value}
theorem Ao3(hr:HR ng σ H.get w){t e n len:Nat}(h1:P.underlying t=some (.array len e))(h2:Aba P e=some n){a a' b b':Value}(ha:VR σ a a')(hb:VR σ b b')(hs:Aak (.iaddrp n len a b) H=some (v,H')):
 Res ng σ H w ((do pure (Next.value (<-Instr.indexAt t a' b')):Sem Next).run P w) v H':=by
 simp only[Aak]at hs
 split at hs
 ·rename_i bl o k i
  split at hs
  ·rename_i hc
   cases hs
   rw[hb.int_inv]
   cases ha with
   | @ptr _ _ j hj=>
    refine Res.pure hr (v':=.pointer (some ⟨j.c,j.off+(o+i.toNat*n),none⟩)) ?_ (.ptr hj)
    simp[Instr.indexAt,run_underlying h1,asIntOf,hc.1,hc.2,Aa2 h2,Acb,Nat.add_assoc,Instr.sureAddr]
  ·cases hs
 ·cases hs
theorem Alg{e off n:Nat}(h1:Abg P e=some false)(h2:Aba P e=some n){cs:Array Value}{u:Value}(hu:cs[off]? =some u)(w:World):(part e cs off).run P w=.ok u w:=by
 simp only[part,Sem.run_bind,Adg h1,Result.andThen_ok,Bool.false_eq_true,if_false,hu,Sem.run_pure]
theorem Afe{e off n:Nat}(h1:Abg P e=some true)(h2:Aba P e=some n)(cs:Array Value)(w:World):(part e cs off).run P w=.ok (.agg (cs.extract off (off+n))) w:=by
 simp[part,Adg h1,Aa2 h2]
theorem Aud(hr:HR ng σ H.get w){t e n len:Nat}{agg:Bool}(h1:P.underlying t=some (.array len e))(h2:Abg P e=some agg)(h3:Aba P e=some n){a a' b b':Value}(ha:VR σ a a')(hb:VR σ b b')(hs:Aak (.idxa agg n len a b) H=some (v,H')):
 Res ng σ H w ((do pure (Next.value (<-Instr.index t a' b')):Sem Next).run P w) v H':=by
 simp only[Aak]at hs
 split at hs
 ·rename_i cs k i
  split at hs
  ·rename_i hc
   rw[hb.int_inv]
   obtain⟨cs',rfl⟩:=Aij ha
   have hv:=Aii ha
   cases agg
   ·simp only[Bool.false_eq_true,if_false,Option.map_eq_some_iff,Prod.mk.injEq]at hs
    obtain⟨u,hu,rfl,rfl⟩:=hs
    obtain⟨u',e1,e2⟩:=hv.get hu
    have e1':cs'[i.toNat*n]? =some u':=by simpa using e1
    have hp:=Alg (P:=P) h2 h3 e1' w
    refine Res.pure hr (v':=u') ?_ e2
    simp only[Instr.index,asIntOf,Sem.run_bind,Sem.run_pure,Result.andThen_ok,run_underlying h1]
    rw[if_pos hc]
    simp only[Sem.run_bind,Aa2 h3,Result.andThen_ok,hp,Sem.run_pure]
   ·simp only[if_true]at hs
    have hp:=Afe (P:=P) (off:=i.toNat*n) h2 h3 cs' w
    split at hs
    ·rename_i hle
     cases hs
     refine Res.pure hr (v':=.agg ((cs'.toList.drop (i.toNat*n)).take n).toArray) ?_ (VR.agg_of ((hv.drop _).take _))
     have:cs'.extract (i.toNat*n) (i.toNat*n+n)=((cs'.toList.drop (i.toNat*n)).take n).toArray:=by
      apply Array.ext'
      simp[Array.toList_extract,List.extract_eq_take_drop]
     rw[this]at hp
     simp only[Instr.index,asIntOf,Sem.run_bind,Sem.run_pure,Result.andThen_ok,run_underlying h1]
     rw[if_pos hc]
     simp only[Sem.run_bind,Aa2 h3,Result.andThen_ok,hp,Sem.run_pure]
    ·cases hs
  ·cases hs
 ·cases hs
theorem Awp(hr:HR ng σ H.get w){mx:Bool}{ts:Array TypeId}{ty:TypeId}{a a' b b':Value}(ha:VR σ a a')(hb:VR σ b b')(hs:Aak (.mm mx a b) H=some (v,H')):
 Res ng σ H w ((do pure (Next.value (<-if mx then Builtin.max_ ts ty #[a',b']else Builtin.min_ ts ty #[a',b'])):Sem Next).run P w) v H':=by
 simp only[Aak]at hs
 split at hs
 ·rename_i k a k' b
  split at hs
  ·rename_i hk
   cases hs
   rw[ha.int_inv,hb.int_inv]
   refine Res.pure hr (v':=.int k (if mx then(if b>a then b else a)else(if b<a then b else a))) ?_ (.int _ _)
   cases mx<;>simp[Builtin.max_,Builtin.min_,Builtin.max2,Builtin.min2]
  ·cases hs
 ·cases hs
theorem Aqe(hr:HR ng σ H.get w){mx:Bool}{ts:Array TypeId}{ty:TypeId}{a a' b b' c c' d d':Value}(ha:VR σ a a')(hb:VR σ b b')(hc:VR σ c c')(hd:VR σ d d')(hs:Aak (.mm4 mx a b c d) H=some (v,H')):
 Res ng σ H w ((do pure (Next.value (<-if mx then Builtin.max_ ts ty #[a',b',c',d']else Builtin.min_ ts ty #[a',b',c',d'])):Sem Next).run P w) v H':=by
 simp only[Aak]at hs
 split at hs
 ·rename_i k a k1 b k2 c k3 d
  split at hs
  ·cases hs
   rw[ha.int_inv,hb.int_inv,hc.int_inv,hd.int_inv]
   refine Res.pure hr (v':=.int k (mmI mx (mmI mx (mmI mx a b) c) d)) ?_ (.int _ _)
   cases mx<;>simp[Builtin.max_,Builtin.min_,Builtin.max2,Builtin.min2,mmI]
  ·cases hs
 ·cases hs
theorem Aqf(hr:HR ng σ H.get w){src dst:TypeId}{k:IntKind}(h1:P.underlying src=some (.int k))(h2:P.underlying dst=some .string){a a':Value}(ha:VR σ a a')(hs:Aak (.i2str a) H=some (v,H')):
 Res ng σ H w ((do pure (Next.value (<-convert src dst a')):Sem Next).run P w) v H':=by
 simp only[Aak]at hs
 split at hs
 ·rename_i q n
  cases hs
  rw[ha.int_inv]
  exact Res.pure hr (v':=.string (Utf8.encode n)) (by simp[convert,run_underlying h1,run_underlying h2,Conv.intToString]) (.string _)
 ·cases hs
theorem Aza(hr:HR ng σ H.get w){t:TypeId}(h1:P.underlying t=some .string){a a':Value}(ha:VR σ a a')(hs:Aak (.rng a) H=some (v,H')):
 Res ng σ H w ((do pure (Next.value (<-Instr.range t a')):Sem Next).run P w) v H':=by
 simp only[Aak]at hs
 split at hs
 ·rename_i s
  cases hs
  rw[ha.str_inv]
  obtain⟨k1,k2⟩:=HR.alloc (w':=w.alloc (.stringIter s 0)) hr (o:=.obj true (.stringIter s 0)) (i:=⟨w.heap.size,0,0,0,0,false⟩) (o':=.stringIter s 0) rfl ⟨_,heap_alloc_new w _,rfl,rfl,by simp⟩ rfl rfl rfl rfl
  refine⟨_,.pointer (some ⟨w.heap.size,0,none⟩),_,_,?_,.inl rfl,k1,k2,?_⟩
  ·simp[Instr.range,run_underlying h1]
  ·exact VR.ptr (i:=⟨w.heap.size,0,0,0,0,false⟩) (o:=0) (Sg.Bfj _ _ _)
 ·cases hs
theorem Aue(hr:HR ng σ H.get w){ty:TypeId}{a a':Value}(ha:VR σ a a')(hs:Aak (.next a) H=some (v,H')):
 Res ng σ H w ((do pure (Next.value (<-Instr.next a' true ty)):Sem Next).run P w) v H':=by
 simp only[Aak]at hs
 split at hs
 ·rename_i b
  split at hs
  ·rename_i s pos hG
   cases ha with
   | @ptr _ _ i hb=>
    obtain⟨ob,g1,g2⟩:=hr.obj b i hb
    rw[hG]at g1;cases g1
    obtain⟨oo,g2,g4,g3,_⟩:=g2
    have g4:oo=.stringIter s pos:=g4
    subst g4
    have hget:∀w:World,w.heap[i.c]? =some (.stringIter s pos)->(getObj i.c).run P w=.ok (.stringIter s pos) w:=fun w h=>by simp[getObj,Sem.run,h]
    have hlt:=Aaa.Bfg hG
    split at hs
    ·rename_i hpos
     cases hs
     have hset:(setObj i.c (.stringIter s (pos+(Utf8.decode s pos).2))).run P w=.ok () {w with heap:=w.heap.setIfInBounds i.c (.stringIter s (pos+(Utf8.decode s pos).2))}:=by
      simp[setObj,Sem.run,g2]
     have hsz:i.c<w.heap.size:=hr.lt b i hb
     refine⟨_,.tuple #[.bool true,goInt pos,.int .i32 (Utf8.decode s pos).1],{w with heap:=w.heap.setIfInBounds i.c (.stringIter s (pos+(Utf8.decode s pos).2))},σ,?_,.inl rfl,?_,?_,?_⟩
     ·simp only[Instr.next,g3,Nat.zero_add,Sem.run_bind,hget w g2,Result.andThen_ok]
      rw[if_pos hpos]
      simp only[Sem.run_bind,hset,Result.andThen_ok,Sem.run_pure]
     ·refine HR.upd (o2:=.obj true (.stringIter s (pos+(Utf8.decode s pos).2))) hr hb hG rfl (fun k hk=>?_) (by simp) (fun x hx=>Aaa.Bff H hx hlt _) (Aaa.Bfe hG _) ?_
      ·show(w.heap.setIfInBounds i.c _)[k]? =_
       rw[Array.getElem?_setIfInBounds_ne (Ne.symm hk)]
      ·refine⟨_,?_,rfl,g3,by simp⟩
       show(w.heap.setIfInBounds i.c _)[i.c]? =_
       rw[Array.getElem?_setIfInBounds_self_of_lt hsz]
     ·refine⟨Sg.le.refl σ,(fun x j hx hx'=>by rw[hx]at hx';cases hx'),fun x j o' hx ho hown=>?_,fun x j o' hx ho hlv=>?_,fun k hk hne=>?_,by simp,by simp[Aaa.set],rfl,rfl,rfl⟩
      ·by_cases hxb:x=b
       ·subst hxb;exact⟨_,hG,rfl⟩
       ·rw[Aaa.Bff H hxb hlt]at ho;exact⟨o',ho,hown⟩
      ·by_cases hxb:x=b
       ·subst hxb;exact⟨_,hG,rfl⟩
       ·rw[Aaa.Bff H hxb hlt]at ho;exact⟨o',ho,hlv⟩
      ·show(w.heap.setIfInBounds i.c _)[k]? =_
       rw[Array.getElem?_setIfInBounds_ne (hne b i _ hb hG rfl)]
     ·exact VR.tuple_of (.cons (.bool _) (.cons (.int _ _) (.cons (.int _ _) .nil)))
    ·rename_i hpos
     cases hs
     refine Res.pure hr (v':=.tuple #[.bool false]) ?_ (VR.tuple_of (.cons (.bool _) .nil))
     simp only[Instr.next,g3,Nat.zero_add,Sem.run_bind,hget w g2,Result.andThen_ok]
     rw[if_neg hpos]
     simp
  ·cases hs
 ·cases hs
theorem Aqg(hr:HR ng σ H.get w){t e esz len:Nat}(h1:P.underlying t=some (.array len e))(hz:Aba P e=some esz){a a':Value}(ha:VR σ a a'){lo hi mx lo' hi' mx':Option Value}
 (hlo:∀u,lo=some u->∃u',lo'=some u'/\VR σ u u') (hhi:∀u,hi=some u->∃u',hi'=some u'/\VR σ u u') (hmx:∀u,mx=some u->∃u',mx'=some u'/\VR σ u u')
 (hlo0:lo=none->lo'=none) (hhi0:hi=none->hi'=none) (hmx0:mx=none->mx'=none) (hmh:mx≠none->hi≠none) (hs:Aak (.slarr esz len a lo hi mx) H=some (v,H')):
 Res ng σ H w ((do pure (Next.value (<-Instr.sliceAt t a' lo' hi' mx')):Sem Next).run P w) v H':=by
 simp only[Aak]at hs
 split at hs
 case h_2=>cases hs
 rename_i b o
 split at hs
 case h_2=>cases hs
 rename_i m hm
 split at hs
 case h_2=>cases hs
 rename_i h hh
 split at hs
 case h_2=>cases hs
 rename_i l hl
 have bounds:(Instr.sliceBounds false len len lo' hi' mx').run P w=.ok (l,h,m) w/\l<=h/\h<=m:=by
  rcases Ab2 hmx hm with⟨e1,e2⟩|⟨kk,i,e1,e2,e3,e4,e5⟩
  ·rcases Ab2 hhi hh with⟨f1,f2⟩|⟨k1,i1,f1,f2,f3,f4,f5⟩
   ·rcases Ab2 hlo hl with⟨g1,g2⟩|⟨k2,i2,g1,g2,g3,g4,g5⟩
    ·refine⟨?_,by omega,by omega⟩
     rw[hmx0 e1,hhi0 f1,hlo0 g1,f2,g2,e2]
     simp[Instr.sliceBounds]
    ·refine⟨?_,by omega,by omega⟩
     rw[hmx0 e1,hhi0 f1,g2,f2,g5,e2]
     rw[f2]at g4
     simp[Instr.sliceBounds,Abb g3 g4]
   ·rw[e2]at f4
    rcases Ab2 hlo hl with⟨g1,g2⟩|⟨k2,i2,g1,g2,g3,g4,g5⟩
    ·refine⟨?_,by omega,by omega⟩
     rw[hmx0 e1,f2,hlo0 g1,f5,g2,e2]
     simp[Instr.sliceBounds,Abb f3 f4]
    ·refine⟨?_,by omega,by omega⟩
     rw[hmx0 e1,f2,g2,f5,g5,e2]
     rw[f5]at g4
     simp[Instr.sliceBounds,Abb f3 f4,Abb g3 g4]
  ·rcases Ab2 hhi hh with⟨f1,f2⟩|⟨k1,i1,f1,f2,f3,f4,f5⟩
   ·exact absurd f1 (hmh (by rw[e1];simp))
   ·rw[e5]at f4
    rcases Ab2 hlo hl with⟨g1,g2⟩|⟨k2,i2,g1,g2,g3,g4,g5⟩
    ·refine⟨?_,by omega,by omega⟩
     rw[e2,f2,hlo0 g1,f5,g2,e5]
     simp[Instr.sliceBounds,Abb e3 e4,Abb f3 f4]
    ·refine⟨?_,by omega,by omega⟩
     rw[f5]at g4
     rw[e2,f2,g2,f5,g5,e5]
     simp[Instr.sliceBounds,Abb e3 e4,Abb f3 f4,Abb g3 g4]
 obtain⟨r1,r2,r3⟩:=bounds
 cases hs
 cases ha with
 | @ptr _ _ j hj=>
  refine Res.pure hr (v':=.slice (some (if m=l then⟨j.c,j.off+o,none⟩else⟨j.c,j.off+o+l*esz,none⟩)) (h-l) (m-l)) ?_ ?_
  ·by_cases hml:m=l
   ·simp[Instr.sliceAt,run_underlying h1,Instr.sureAddr,r1,Aa2 hz,hml]
   ·simp[Instr.sliceAt,run_underlying h1,Instr.sureAddr,r1,Aa2 hz,hml,Acb]
  ·by_cases hml:m=l
   ·have h0:h=l:=by omega
    subst hml;subst h0
    simp only[if_true,Nat.sub_self]
    exact .sl0 hj
   ·rw[if_neg hml]
    have hv:=VR.sl (σ:=σ) (b:=b) (o:=o+l*esz) (n:=h-l) (k:=m-l) (k':=m-l) (i:=j) hj (by omega) (.inl rfl)
    rw[<-Nat.add_assoc]at hv
    exact hv
def Abw(P:Program)(t:TypeId)(cs:List Value):Value:=if Abg P t=some true then .agg cs.toArray else cs.headD undef
theorem Ag4:∀{l1:List Nat} {l2:List Nat} {xs ys:List Value} {r:Bool},Ae6 (l1++l2) xs ys=some r->∃a b,Ae6 l1 (xs.take l1.length) (ys.take l1.length)=some a/\Ae6 l2 (xs.drop l1.length) (ys.drop l1.length)=some b/\r=(a&&b)
 |[],l2,xs,ys,r,h=>⟨true,r,by simp[Ae6],by simpa using h,by simp⟩
 |c::l1,l2,x::xs,y::ys,r,h=>by
  simp only[List.cons_append,Ae6]at h
  split at h
  ·rename_i a b ha hb
   obtain⟨a1,b1,h1,h2,rfl⟩:=Ag4 hb
   cases h
   refine⟨a&&a1,b1,?_,by simpa using h2,by rw[Bool.and_assoc]⟩
   simp only[List.length_cons,List.take_succ_cons,Ae6,ha,h1]
  ·cases h
 |c::l1,l2,[],ys,r,h=>by cases ys<;>simp[Ae6]at h
 |c::l1,l2,x::xs,[],r,h=>by simp[Ae6]at h
theorem Afm:∀{l:List Nat} {xs ys:List Value} {r:Bool},Ae6 l xs ys=some r->xs.length=l.length/\ys.length=l.length
 |[],[],[],r,h=>⟨rfl,rfl⟩
 |[],[],_::_,r,h=>by simp[Ae6]at h
 |[],_::_,ys,r,h=>by cases ys<;>simp[Ae6]at h
 |c::l,x::xs,y::ys,r,h=>by
  simp only[Ae6]at h
  split at h
  ·rename_i a b ha hb
   obtain⟨h1,h2⟩:=Afm hb
   simp[h1,h2]
  ·cases h
 |c::l,[],ys,r,h=>by cases ys<;>simp[Ae6]at h
 |c::l,x::xs,[],r,h=>by simp[Ae6]at h
theorem Ad8{e off n:Nat}{agg:Bool}(h1:Abg P e=some agg)(h2:Aba P e=some n)(hn:agg=false->n=1){cs:List Value}(hle:off+n<=cs.length)(w:World):
 (part e cs.toArray off).run P w=.ok (Abw P e ((cs.drop off).take n)) w:=by
 unfold Abw
 rw[h1]
 cases agg
 ·have:=hn rfl
  subst this
  simp only[Bool.false_eq_true,if_false,Option.some.injEq]
  have hlt:off<cs.length:=by omega
  have e1:cs.toArray[off]? =some cs[off]:=by simp[hlt]
  rw[Alg h1 h2 e1]
  simp only[List.take_one,List.head?_drop,List.getElem?_eq_getElem hlt]
  rfl
 ·rw[Afe h1 h2]
  simp only[if_true]
  congr 2
  apply Array.ext'
  simp[Array.toList_extract,List.extract_eq_take_drop]
theorem Alh{d t:Nat}{l:List Nat}(h:Aj9 P d t=some l):∃agg,Abg P t=some agg/\(agg=false->l.length=1):=by
 cases d with
 |zero=>simp[Aj9]at h
 |succ d=>
  simp only[Aj9]at h
  unfold Abg
  split at h
  ·rename_i hu;cases h;exact⟨false,by rw[hu];rfl,fun _=>rfl⟩
  ·rename_i hu;cases h;exact⟨false,by rw[hu];rfl,fun _=>rfl⟩
  ·rename_i hu;cases h;exact⟨false,by rw[hu];rfl,fun _=>rfl⟩
  ·rename_i fs hu;exact⟨true,by rw[hu];rfl,by simp⟩
  ·rename_i n e hu;exact⟨true,by rw[hu];rfl,by simp⟩
  ·cases h
theorem Ajo{f:TypeId->Option (List Nat)}{D:Nat}(hf:∀u l,f u=some l->Aba P u=some l.length/\(∃agg,Abg P u=some agg/\(agg=false->l.length=1))/\∀(xs ys:List Value) (r:Bool),Ae6 l xs ys=some r->∀w,(Op.equalIn D u (Abw P u xs) (Abw P u ys)).run P w=.ok r w)
 (XS YS:List Value):∀(fs:List Field) (off:Nat) (l:List Nat) (r:Bool),Ald f fs off=some l->Ae6 l (XS.drop off) (YS.drop off)=some r->∀w,(Op.eqFields D XS.toArray YS.toArray fs).run P w=.ok r w
 |[],off,l,r,h,hq,w=>by
  simp only[Ald,Option.some.injEq]at h
  subst h
  have:r=true:=by
   have hl:=Afm hq
   rw[List.eq_nil_of_length_eq_zero hl.1,List.eq_nil_of_length_eq_zero hl.2]at hq
   simpa[Ae6]using hq.symm
  subst this
  simp[Op.eqFields]
 |fd::fs,off,l,r,h,hq,w=>by
  simp only[Ald]at h
  split at h
  ·rename_i hc
   obtain⟨rfl,hn⟩:=hc
   split at h
   ·rename_i l1 hl1
    simp only[Option.map_eq_some_iff]at h
    obtain⟨l2,hl2,rfl⟩:=h
    obtain⟨hsz,⟨agg,hag,hone⟩,hrun⟩:=hf _ _ hl1
    have hlen:=Afm hq
    simp only[List.length_append,List.length_drop]at hlen
    obtain⟨a,b,h1,h2,rfl⟩:=Ag4 hq
    rw[List.drop_drop,List.drop_drop]at h2
    have hrest:=Ajo hf XS YS fs (fd.offset+l1.length) l2 b hl2 h2 w
    have hz1:0<l1.length\/l1.length=0:=by omega
    have p1:(part fd.type XS.toArray fd.offset).run P w=.ok (Abw P fd.type ((XS.drop fd.offset).take l1.length)) w:=by
     by_cases h0:fd.offset+l1.length<=XS.length
     ·exact Ad8 hag hsz hone h0 w
     ·have hx:l1.length=0:=by omega
      have:agg=true:=by
       cases agg with
       |true=>rfl
       |false=>have:=hone rfl;omega
      subst this
      rw[Afe hag hsz,hx]
      simp only[if_true,Abw,hag]
      congr 2
      apply Array.ext'
      simp[Array.toList_extract,List.extract_eq_take_drop]
    have p2:(part fd.type YS.toArray fd.offset).run P w=.ok (Abw P fd.type ((YS.drop fd.offset).take l1.length)) w:=by
     by_cases h0:fd.offset+l1.length<=YS.length
     ·exact Ad8 hag hsz hone h0 w
     ·have hx:l1.length=0:=by omega
      have:agg=true:=by
       cases agg with
       |true=>rfl
       |false=>have:=hone rfl;omega
      subst this
      rw[Afe hag hsz,hx]
      simp only[if_true,Abw,hag]
      congr 2
      apply Array.ext'
      simp[Array.toList_extract,List.extract_eq_take_drop]
    have p3:=hrun _ _ _ h1 w
    simp only[Op.eqFields,hn,ne_eq,not_false_eq_true,if_true,Sem.run_bind,p1,p2,p3,Result.andThen_ok]
    cases a
    ·simp
    ·simpa using hrest
   ·cases h
  ·cases h
theorem Aik{e D:Nat}{l:List Nat}(hsz:Aba P e=some l.length)(hk:∃agg,Abg P e=some agg/\(agg=false->l.length=1))(hrun:∀(xs ys:List Value) (r:Bool),Ae6 l xs ys=some r->∀w,(Op.equalIn D e (Abw P e xs) (Abw P e ys)).run P w=.ok r w)
 (XS YS:List Value):∀(n i:Nat) (r:Bool),Ae6 (List.replicate n l).flatten (XS.drop (i*l.length)) (YS.drop (i*l.length))=some r->∀w,(Op.eqItems D e l.length XS.toArray YS.toArray (List.range' i n)).run P w=.ok r w
 |0,i,r,h,w=>by
  have:r=true:=by
   have hl:=Afm h
   simp only[List.replicate_zero,List.flatten_nil,List.length_nil]at hl
   rw[List.eq_nil_of_length_eq_zero hl.1,List.eq_nil_of_length_eq_zero hl.2]at h
   simpa[Ae6]using h.symm
  subst this
  simp[Op.eqItems]
 |n+1,i,r,h,w=>by
  obtain⟨agg,hag,hone⟩:=hk
  simp only[List.replicate_succ,List.flatten_cons]at h
  have hlen:=Afm h
  simp only[List.length_append,List.length_drop]at hlen
  obtain⟨a,b,h1,h2,rfl⟩:=Ag4 h
  rw[List.drop_drop,List.drop_drop]at h2
  have hmul:i*l.length+l.length=(i+1)*l.length:=by rw[Nat.add_mul];omega
  rw[hmul]at h2
  have hrest:=Aik hsz ⟨agg,hag,hone⟩ hrun XS YS n (i+1) b h2 w
  have pp:∀Z:List Value,(l.length=0\/i*l.length+l.length<=Z.length)->(part e Z.toArray (i*l.length)).run P w=.ok (Abw P e ((Z.drop (i*l.length)).take l.length)) w:=by
   intro Z hZ
   by_cases h0:i*l.length+l.length<=Z.length
   ·exact Ad8 hag hsz hone h0 w
   ·have hx:l.length=0:=by omega
    have:agg=true:=by
     cases agg with
     |true=>rfl
     |false=>have:=hone rfl;omega
    subst this
    rw[Afe hag hsz,hx]
    simp only[if_true,Abw,hag]
    congr 2
    apply Array.ext'
    simp[Array.toList_extract,List.extract_eq_take_drop]
  have p1:=pp XS (by omega)
  have p2:=pp YS (by omega)
  have p3:=hrun _ _ _ h1 w
  simp only[List.range'_succ,Op.eqItems,Sem.run_bind,p1,p2,p3,Result.andThen_ok]
  cases a
  ·simp
  ·simpa using hrest
theorem Auf:∀(d:Nat) (t:TypeId) (l:List Nat),Aj9 P d t=some l->∀(xs ys:List Value) (r:Bool),Ae6 l xs ys=some r->∀(D:Nat),d<=D->∀w,(Op.equalIn D t (Abw P t xs) (Abw P t ys)).run P w=.ok r w:=by
 intro d
 induction d with
 |zero=>intro t l h;simp[Aj9]at h
 |succ d ih=>
  intro t l h xs ys r hq D hD w
  obtain⟨D,rfl⟩:∃D',D=D'+1:=⟨D-1,by omega⟩
  have hl:=Afm hq
  have one:∀k,l=[k]->Abg P t=some false->∃x y,xs=[x]/\ys=[y]/\eqC k x y=some r/\Abw P t xs=x/\Abw P t ys=y:=by
   intro k e hag
   subst e
   match xs,ys,hl with
   |[x],[y],_=>
    refine⟨x,y,rfl,rfl,?_,by simp[Abw,hag],by simp[Abw,hag]⟩
    simp only[Ae6]at hq
    split at hq
    ·rename_i a b ha hb
     cases hb
     simp only[Bool.and_true,Option.some.injEq]at hq
     subst hq
     exact ha
    ·cases hq
  simp only[Aj9]at h
  split at h
  ·rename_i hu
   cases h
   obtain⟨x,y,rfl,rfl,h1,h2,h3⟩:=one 0 rfl (by unfold Abg;rw[hu];rfl)
   rw[h2,h3]
   unfold eqC at h1
   split at h1<;>first|(cases h1;done)|skip
   all_goals (first|(simp only[Option.some.injEq]at h1;subst h1;simp[Op.equalIn,run_underlying hu];done)|(exfalso;simp_all;done))
  ·rename_i k hu
   cases h
   obtain⟨x,y,rfl,rfl,h1,h2,h3⟩:=one 1 rfl (by unfold Abg;rw[hu];rfl)
   rw[h2,h3]
   unfold eqC at h1
   split at h1<;>first|(cases h1;done)|skip
   ·exfalso;simp_all
   ·split at h1
    ·rename_i hk
     subst hk
     simp only[Option.some.injEq]at h1;subst h1
     simp[Op.equalIn,run_underlying hu]
    ·cases h1
   ·exfalso;simp_all
  ·rename_i hu
   cases h
   obtain⟨x,y,rfl,rfl,h1,h2,h3⟩:=one 2 rfl (by unfold Abg;rw[hu];rfl)
   rw[h2,h3]
   unfold eqC at h1
   split at h1<;>first|(cases h1;done)|skip
   ·exfalso;simp_all
   ·exfalso;simp_all
   ·simp only[Option.some.injEq]at h1;subst h1
    rw[run_equalIn_string w D t _ _ hu,Awo]
  ·rename_i fs hu
   split at h
   ·cases h
   ·rename_i hst
    have hst':P.stoodInHeld t=false:=by simpa using hst
    have hag:Abg P t=some true:=by unfold Abg;rw[hu];rfl
    have hfs:P.fieldsOf t=fs:=by simp[Program.fieldsOf,hu]
    simp only[Abw,hag,if_true]
    rw[run_equalIn_struct w D t _ _ (by rw[hfs];exact hu) hst',hfs]
    refine Ajo (fun u lu hlu=>?_) xs ys fs.toList 0 l r h (by simpa using hq) w
    split at hlu
    ·rename_i l' hl'
     split at hlu
     ·rename_i hs'
      cases hlu
      exact⟨hs',Alh hl',fun xs ys r hq w=>ih u lu hl' xs ys r hq D (by omega) w⟩
     ·cases hlu
    ·cases hlu
  ·rename_i n e hu
   split at h
   ·rename_i l1 hl1
    split at h
    ·rename_i hs1
     cases h
     have hag:Abg P t=some true:=by unfold Abg;rw[hu];rfl
     obtain⟨i,hi,hin⟩:∃i,P.info? e=some i/\i.size=l1.length:=by
      unfold Aba at hs1
      simpa[Option.map_eq_some_iff]using hs1
     have hco:P.cellsOf e=l1.length:=by simp[Program.cellsOf,hi,hin]
     simp only[Abw,hag,if_true]
     rw[run_equalIn_array w D xs.toArray ys.toArray hu hi,hco,List.range_eq_range']
     exact Aik hs1 (Alh hl1) (fun xs ys r hq w=>ih e l1 hl1 xs ys r hq D (by omega) w) xs ys n 0 r (by simpa using hq) w
    ·cases h
   ·cases h
  ·cases h
theorem Ao4{k:Nat}{x y x' y':Value}{r:Bool}(h:eqC k x y=some r)(hx:VR σ x x')(hy:VR σ y y'):x'=x/\y'=y:=by
 unfold eqC at h
 split at h
 ·exact⟨hx.bool_inv,hy.bool_inv⟩
 ·exact⟨hx.int_inv,hy.int_inv⟩
 ·exact⟨hx.str_inv,hy.str_inv⟩
 ·cases h
theorem Ail:∀{l:List Nat} {xs ys xs' ys':List Value} {r:Bool},Ae6 l xs ys=some r->VL σ xs xs'->VL σ ys ys'->xs'=xs/\ys'=ys
 |[],[],[],_,_,r,h,.nil,.nil=>⟨rfl,rfl⟩
 |[],[],_::_,_,_,r,h,_,_=>by simp[Ae6]at h
 |[],_::_,ys,_,_,r,h,_,_=>by cases ys<;>simp[Ae6]at h
 |c::l,x::xs,y::ys,_,_,r,h,.cons a b,.cons a' b'=>by
  simp only[Ae6]at h
  split at h
  ·rename_i p q hp hq
   obtain⟨e1,e2⟩:=Ao4 hp a a'
   obtain⟨e3,e4⟩:=Ail hq b b'
   rw[e1,e2,e3,e4];exact⟨rfl,rfl⟩
  ·cases h
 |c::l,[],ys,_,_,r,h,_,_=>by cases ys<;>simp[Ae6]at h
 |c::l,x::xs,[],_,_,r,h,_,_=>by simp[Ae6]at h
theorem Aqh(hr:HR ng σ H.get w){op:BinOp}{neg:Bool}(hop:(op=.eql/\neg=false)\/(op=.neq/\neg=true)){t:Nat}(hag:Abg P t=some true){cs:List Nat}(ht:A2j P t=some cs)
 {x y:Operand} {a a' b b':Value} (ha:VR σ a a') (hb:VR σ b b') (hs:Aak (.eqs cs neg a b) H=some (v,H')):
 Res ng σ H w ((do pure (Next.value (<-(do eqGuard op t x y a' b';binOp op t a' b'))):Sem Next).run P w) v H':=by
 simp only[Aak]at hs
 split at hs
 ·rename_i xs ys
  simp only[Option.map_eq_some_iff,Prod.mk.injEq]at hs
  obtain⟨r,hq,rfl,rfl⟩:=hs
  obtain⟨xs',rfl⟩:=Aij ha
  obtain⟨ys',rfl⟩:=Aij hb
  obtain⟨e1,e2⟩:=Ail hq (Aii ha) (Aii hb)
  have e1':xs'=xs:=Array.toList_inj.1 e1
  have e2':ys'=ys:=Array.toList_inj.1 e2
  subst e1' e2'
  unfold A2j at ht
  split at ht
  ·cases ht
  ·rename_i hg
   have hrun:(Op.equal t (.agg xs') (.agg ys')).run P w=.ok r w:=by
    have:=Auf 20 t cs ht xs'.toList ys'.toList r hq 10000 (by omega) w
    show(Op.equalIn 10000 t (.agg xs') (.agg ys')).run P w=.ok r w
    simpa[Abw,hag]using this
   have hgd:(eqGuard op t x y (.agg xs') (.agg ys')).run P w=.ok () w:=by
    unfold eqGuard
    rcases hop with⟨rfl,rfl⟩|⟨rfl,rfl⟩<;>simp[hg]
   have hbin:(binOp op t (.agg xs') (.agg ys')).run P w=.ok (.bool (if neg then !r else r)) w:=by
    rcases hop with⟨rfl,rfl⟩|⟨rfl,rfl⟩
    ·simp only[binOp,Sem.run_bind,hrun,Result.andThen_ok,Sem.run_pure];rfl
    ·simp only[binOp,Sem.run_bind,hrun,Result.andThen_ok,Sem.run_pure];rfl
   exact Res.pure hr (by simp only[Sem.run_bind,hgd,Result.andThen_ok,hbin,Sem.run_pure]) (.bool _)
 ·cases hs
theorem Aug(hr:HR ng σ H.get w){t u ty e e2 esz:Nat}(ht:P.underlying t=some (.slice e))(hn:Aba P e=some esz){d d' x x':Value}(hd:VR σ d d')(hx:VR σ x x')(hs:Aak (.copy esz d x) H=some (v,H')):
 Res ng σ H w ((do pure (Next.value (<-Builtin.copy_ #[t,u] ty #[d',x'])):Sem Next).run P w) v H':=by
 simp only[Aak]at hs
 split at hs
 ·rename_i n k xa m xk
  split at hs
  ·rename_i hc
   cases hs
   obtain⟨rfl,rfl⟩:=hc
   obtain⟨xa',m',xk',rfl⟩:∃xa' m' xk',x'=.slice xa' m' xk':=by cases hx<;>exact⟨_,_,_,rfl⟩
   cases hd
   refine Res.pure hr (v':=.int .i64 0) ?_ (.int _ _)
   have hfc:(Builtin.firstCells esz 0 (.slice xa' m' xk')).run P w=.ok #[] w:=by
    cases xa' with
    |none=>simp[Builtin.firstCells]
    |some a=>exact run_firstCells_some w esz 0 a m' xk' [] (by simp) (by simp)
   simp[Builtin.copy_,run_underlying ht,Builtin.lenOf,Aa2 hn,hfc,goInt]
  ·cases hs
 ·rename_i b o n k xa m xk
  split at hs
  ·rename_i l own room esz' c e' hel hG
   obtain⟨xa',m',xk',l',rfl,hlen,hvl,hll,hl1,hlc⟩:=Afd hr hx hel
   have hmm:m'=m:=by simpa[A2h]using hlen.symm
   subst hmm
   obtain⟨j,dn,dk,da,rfl,hj,hda,hdn⟩:∃j dn dk da,d'=.slice (some da) dn dk/\σ b=some j/\(n≠0->da=⟨j.c,j.off+o,none⟩)/\dn=n:=by
    cases hd with
    | @sl _ _ _ _ k' j hj q1 q2=>exact⟨j,_,_,_,rfl,hj,fun _=>rfl,rfl⟩
    | @sl0 _ _ o' j hj=>exact⟨j,_,_,_,rfl,hj,fun h=>absurd rfl h,rfl⟩
    |slz hx=>simp at hx
   subst hdn
   have hpre:(Builtin.firstCells esz (min m' dn) (.slice xa' m' xk')).run P w=.ok (l'.take (min m' dn*esz)).toArray w:=by
    have hle:min m' dn*esz<=m'*esz:=Nat.mul_le_mul_right _ (by omega)
    have hlt:(l'.take (min m' dn*esz)).length=min m' dn*esz:=by rw[List.length_take];omega
    rcases hlc with⟨rfl,hm0⟩|⟨ad,rfl,hc⟩
    ·subst hm0
     have:l'=[]:=List.eq_nil_of_length_eq_zero (by simpa using hll)
     subst this
     simp[Builtin.firstCells]
    ·refine run_firstCells_some w esz (min m' dn) ad m' xk' _ hlt (fun q u hq=>hc q u ?_)
     rw[List.getElem?_take]at hq
     split at hq
     ·exact hq
     ·cases hq
   split at hs
   ·rename_i h0
    cases hs
    refine Res.pure hr (v':=.int .i64 0) ?_ (.int _ _)
    rw[h0]at hpre
    simp only[Nat.zero_mul,List.take_zero]at hpre
    have h0':Nat.min m' dn=0:=h0
    simp[Builtin.copy_,run_underlying ht,Builtin.lenOf,Aa2 hn,h0',hpre,goInt,storeCells]
   ·rename_i h0
    split at hs
    ·rename_i hc
     obtain⟨rfl,hle⟩:=hc
     cases hs
     have hll2:(l.take (min m' dn*esz)).length=min m' dn*esz:=by
      have h1:=hvl.length
      have hle2:min m' dn*esz<=m'*esz:=Nat.mul_le_mul_right _ (by omega)
      rw[List.length_take];omega
     obtain⟨w',e1,e2,e3⟩:=Afc (P:=P) hr hj hG (o:=o) (hvl.take (min m' dn*esz)) (by rw[hll2];exact hle) (fun u hu=>hl1 u (List.mem_of_mem_take hu)) (fun u hu=>hvl.one hl1 u (List.mem_of_mem_take hu))
     rw[hll2]at e2 e3
     rw[hda (by omega)]
     refine⟨_,.int .i64 (min m' dn:Nat),w',σ,?_,.inl rfl,e2,e3,.int _ _⟩
     have hmn:Nat.min m' dn=min m' dn:=rfl
     simp only[Builtin.copy_,List.getElem?_toArray,List.getElem?_cons_zero,List.getElem?_cons_succ,Sem.run_bind,run_underlying ht,Result.andThen_ok,Builtin.lenOf,Sem.run_pure,Aa2 hn,hmn,hpre,e1,goInt]
    ·cases hs
  ·cases hs
 ·cases hs
theorem Azb(hr:HR ng σ H.get w){t ty e esz:Nat}{z:Value}(ht:P.underlying t=some (.slice e))(hz:Acy P e=some z)(hn:Aba P e=some esz)(hzn:z.cells.size=esz)(h0:0<esz)(hp:VL σ z.cells.toList z.cells.toList){x x':Value}(hx:VR σ x x')(hs:Aak (.clr esz z.cells.toList x) H=some (v,H')):
 Res ng σ H w ((do pure (Next.value (<-Builtin.clear_ #[t] ty #[x'])):Sem Next).run P w) v H':=by
 have unit:VR σ (.tuple #[]) (.tuple #[]):=.tuple _ _ rfl (fun i a=>by simp at a)
 simp only[Aak]at hs
 split at hs
 ·rename_i n k
  split at hs
  ·rename_i hc
   cases hs
   obtain⟨rfl,rfl⟩:=hc
   cases hx
   exact Res.pure hr (v':=.tuple #[]) (by simp[Builtin.clear_,run_underlying ht]) unit
  ·cases hs
 ·rename_i b o n k
  split at hs
  ·rename_i hn0
   cases hs
   subst hn0
   cases hx<;>exact Res.pure hr (v':=.tuple #[]) (by simp[Builtin.clear_,run_underlying ht]) unit
  ·rename_i hn0
   split at hs
   ·rename_i own room esz' c e' hG
    split at hs
    ·rename_i hc
     obtain⟨rfl,hle,hzl,hz1⟩:=hc
     cases hs
     cases hx with
     |sl0 hj=>exact absurd rfl hn0
     |slz hx=>exact absurd rfl hn0
     | @sl _ _ _ _ k' j hj q1 q2=>
      have hvr:VL σ (List.replicate n z.cells.toList).flatten (List.replicate n z.cells.toList).flatten:=by
       clear hle hn0 q1
       induction n with
       |zero=>exact .nil
       |succ n ih=>rw[List.replicate_succ,List.flatten_cons];exact hp.append ih
      have hlen:(List.replicate n z.cells.toList).flatten.length=n*esz:=by simp[hzn]
      have h1:∀u∈(List.replicate n z.cells.toList).flatten,u.oneCell'=true:=by
       intro u hu
       obtain⟨l,hl,hu2⟩:=List.mem_flatten.1 hu
       rw[List.eq_of_mem_replicate hl]at hu2
       exact List.all_eq_true.1 hz1 u hu2
      obtain⟨w',e1,e2,e3⟩:=Afc (P:=P) hr hj hG (o:=o) hvr (by rw[hlen];exact hle) h1 h1
      rw[hlen]at e2 e3
      refine⟨_,.tuple #[],w',σ,?_,.inl rfl,e2,e3,unit⟩
      have hzc:(Builtin.zeroCells z.cells n).toList=(List.replicate n z.cells.toList).flatten:=by
       rw[Builtin.zeroCells]
       simp only[Array.toList_map,Array.toList_range]
       have:=Agf z.cells esz hzn n
       rw[hzn]at this ⊢
       exact this
      obtain⟨n',rfl⟩:∃n',n=n'+1:=⟨n-1,by omega⟩
      simp only[Builtin.clear_,List.getElem?_toArray,List.getElem?_cons_zero,Sem.run_bind,run_underlying ht,Result.andThen_ok,Ac1 hz,hzc,e1,Sem.run_pure]
    ·cases hs
   ·cases hs
 ·cases hs
theorem Ajf{cs:Array Value}{k:Nat}(hk:cs.size=k)(n:Nat):(Builtin.zeroCells cs n).toList=(List.replicate n cs.toList).flatten:=by
 rw[Builtin.zeroCells]
 simp only[Array.toList_map,Array.toList_range]
 have:=Agf cs k hk n
 rw[hk]at this ⊢
 exact this
theorem Aqi{n:Nat}(hn:n<=140737488355328):IntKind.i64.wrap (n:Int)=n:=by
 simp only[IntKind.wrap,IntKind.bits,IntKind.signed];simp;omega
theorem Agh.zeros{w:World}{t u ty e:TypeId}{k:IntKind}{i:TypeInfo}{z:Value}{n:Nat}(ht:P.underlying t=some (.slice e))(hu:P.underlying u=some (.int k))(hi:P.info? e=some i)(hz:i.zero=some z)(hzs:z.cells.size=i.size)
 (hb:n*i.bytes<=140737488355328) (hn:n<=140737488355328):Agh P t u ty e i n (.int .i64 (n:Int)) (Builtin.zeroCells z.cells n).toList w:=by
 have hw:=Aqi hn
 have hneg:¬((n:Int)<0):=by omega
 have hbig:¬((281474976710656:Int)<(n:Int)*(i.bytes:Int)):=by
  have h1:((n*i.bytes:Nat):Int)<=((140737488355328:Nat):Int):=Int.ofNat_le.2 hb
  rw[Int.natCast_mul]at h1
  omega
 have h0:n*i.size=0->Builtin.zeroCells z.cells n= #[]:=fun h=>by
  apply Array.eq_empty_of_size_eq_zero
  rw[size_zeroCells,hzs,h]
 refine⟨?_,?_,?_⟩
 ·intro z' base sLen sCap olds hz' hfo hg h63 hfit
  rw[hz]at hz';cases hz'
  have hn1:¬(sLen+n<=sCap):=by omega
  have h63':¬(9223372036854775807<((sLen:Int)+(n:Int))):=by omega
  have h48':¬(281474976710656<Builtin.nextslicecap (sLen+n) sCap*i.bytes):=by omega
  by_cases hnz:n*i.size=0
  ·have hz0:=h0 hnz
   simp[Builtin.append_,run_underlying ht,run_underlying hu,sizeOf,typeInfo,zeroValue,hi,hz,asInt,asIntOf,hw,hneg,hbig,hn1,h63',h48',Question.forced,hfo,newRow,grownCap,hnz,hz0]
   congr 2
   apply Array.ext'
   simp
  ·simp[Builtin.append_,run_underlying ht,run_underlying hu,sizeOf,typeInfo,zeroValue,hi,hz,asInt,asIntOf,hw,hneg,hbig,hn1,h63',h48',Question.forced,hfo,newRow,grownCap,hnz]
   congr 2
   apply Array.ext'
   simp
 ·intro a sLen sCap w' hst hroom
  by_cases hnz:n*i.size=0
  ·have hz0:=h0 hnz
   simp[Builtin.append_,run_underlying ht,run_underlying hu,sizeOf,typeInfo,zeroValue,hi,hz,asInt,asIntOf,hw,hneg,hbig,hroom,hnz]
   rw[hz0]at hst
   simp[storeCells]at hst
   simp[storeCells,hst]
  ·simp[Builtin.append_,run_underlying ht,run_underlying hu,sizeOf,typeInfo,zeroValue,hi,hz,asInt,asIntOf,hw,hneg,hbig,hroom,hnz,hst]
 ·intro hm base sLen sCap hle
  subst hm
  have hw0:IntKind.i64.wrap 0=0:=by decide
  cases base<;>simp[Builtin.append_,run_underlying ht,run_underlying hu,sizeOf,typeInfo,zeroValue,hi,hz,asInt,asIntOf,hle,hw0,storeCells]
theorem VL.gnds{σ:Sg}:∀{l:List Value},(∀v∈l,gnd v)->VL σ l l
 |[],_=>.nil
 |v::l,h=>.cons ((h v (by simp)).1.mono (fun _ _ h=>by cases h)) (VL.gnds fun x hx=>h x (by simp[hx]))
theorem Auh(hr:HR ng σ H.get w){t u ty e esz bytes:Nat}{k:IntKind}{z:Value}(ht:P.underlying t=some (.slice e))(hu:P.underlying u=some (.int k))(hz:Acy P e=some z)(hn:Aba P e=some esz)(hb:Adp P e=some bytes)
 (hzn:z.cells.size=esz) (hz1:z.cells.toList.all Aca=true) {s s' x x':Value} (hvs:VR σ s s') (hvx:VR σ x x') (hs:Aak (.appz e esz bytes z.cells.toList s x) H=some (v,H')):
 Res ng σ H w ((do pure (Next.value (<-Builtin.append_ #[t,u] ty #[s',x'])):Sem Next).run P w) v H':=by
 simp only[Aak]at hs
 split at hs
 ·rename_i n
  split at hs
  ·rename_i hc
   obtain⟨h1,h2,h3⟩:=hc
   obtain⟨m,rfl⟩:∃m:Nat,n=m:=⟨n.toNat,by omega⟩
   have hx:x'=.int .i64 (m:Int):=by cases hvx;rfl
   subst hx
   rw[Int.toNat_natCast]at hs
   have hf:=Ajf hzn m
   have hg:∀v∈(List.replicate m z.cells.toList).flatten,gnd v:=by rw[<-hf];exact Agg hz1 m
   have hb2:m*bytes<=140737488355328:=by
    have h4:((m*bytes:Nat):Int)<=((140737488355328:Nat):Int):=by rw[Int.natCast_mul];omega
    exact Int.ofNat_le.1 h4
   refine Akc hr hz hn hb hzn hz1 hvs (VL.gnds hg) (by rw[<-hf,Array.length_toList,size_zeroCells,hzn]) (fun u hu=>(hg u hu).2) (fun i hi hie=>?_) hs
   obtain⟨i2,g1,g2,g3,g4⟩:=Akb hz hn hb
   rw[hi]at g1;cases g1
   have:=Agh.zeros (P:=P) (w:=w) (ty:=ty) (n:=m) ht hu hi g2 (by rw[hzn,hie]) (by rw[g4];exact hb2) (by omega)
   rw[hf]at this
   exact this
  ·cases hs
 ·cases hs
end
open Go.MapKept
theorem Akl{ng:Nat}{σ:Sg}{H:Aaa}{w:World}(hr:HR ng σ H.get w){b:Nat}{i:BI}{o o2:AO}{ob:Obj}(hb:σ b=some i)(hG:H.get b=some o)(ho:o.own=true)(hor:OR σ (w.putObj i.c ob) i o2):
 HR ng σ (H.set b o2).get (w.putObj i.c ob)/\Ext H.n σ H.get w (H.set b o2).n σ (H.set b o2).get (w.putObj i.c ob):=by
 have hlt:=Aaa.Bfg hG
 refine⟨HR.upd hr hb hG ho (fun k hk=>World.putObj_heap_other hk) (by simp) (fun x hx=>Aaa.Bff H hx hlt _) (Aaa.Bfe hG _) hor,?_⟩
 refine⟨Sg.le.refl σ,(fun x j hx hx'=>by rw[hx]at hx';cases hx'),fun x j o' hx ho' hown=>?_,fun x j o' hx ho' hlv=>?_,fun k hk hne=>World.putObj_heap_other (Ne.symm (hne b i _ hb hG ho)),by simp,by simp[Aaa.set],rfl,rfl,rfl⟩
 ·by_cases hxb:x=b
  ·subst hxb;exact⟨_,hG,ho⟩
  ·rw[Aaa.Bff H hxb hlt]at ho';exact⟨o',ho',hown⟩
 ·by_cases hxb:x=b
  ·subst hxb;exact⟨_,hG,AO.live_of_own ho⟩
  ·rw[Aaa.Bff H hxb hlt]at ho';exact⟨o',ho',hlv⟩
section
variable {P:Program} {ng:Nat} {σ:Sg} {H H':Aaa} {w:World} {v:Value}
theorem Anr:VR σ undef undef:=.tuple _ _ rfl (fun i a=>by simp at a)
theorem Aqr{t:TypeId}{d:TypeDesc}(h:Ay0 P t=some d):P.underlying t=some d:=by
 unfold Ay0 at h
 split at h<;>first|(cases h;done)|(rename_i h';cases h;exact h')
theorem Aqs{d:TypeDesc}{k:Value}(h:Ayz d k=true):IsKey d k:=by
 unfold Ayz at h
 split at h<;>first|(cases h;done)|trivial|(simpa[IsKey]using h)
theorem Aqt{d:TypeDesc}{k k':Value}(h:Ayz d k=true)(hk:VR σ k k'):k'=k:=by
 unfold Ayz at h
 split at h<;>first|(cases h;done)|(cases hk;rfl)
theorem Ag9{d:TypeDesc}{k:Value}{l l':List MapEntry}(r:ML σ l l'):∀i,(Instr.findNow d k l i=some none->Instr.findNow d k l' i=some none)/\∀j v,Instr.findNow d k l i=some (some (j,v))->∃v',Instr.findNow d k l' i=some (some (j,v'))/\VR σ v v':=by
 induction r with
 |nil=>intro i;exact⟨fun h=>h,fun j v h=>by simp[Instr.findNow]at h⟩
 |cons hk hb h _ ih=>
  intro i
  unfold Instr.findNow
  rw[hk]
  split
  ·exact⟨fun h2=>(by cases h2),fun j v h2=>(by cases h2;exact⟨_,rfl,h⟩)⟩
  ·exact ih (i+1)
  ·exact⟨fun h2=>(by cases h2),fun j v h2=>(by cases h2)⟩
theorem ML.app{l l' m m':List MapEntry}(r:ML σ l l')(s:ML σ m m'):ML σ (l++m) (l'++m'):=by
 induction r with
 |nil=>exact s
 |cons a b c _ ih=>exact .cons a b c ih
theorem ML.mod{l l':List MapEntry}(r:ML σ l l')(k:Value){x x':Value}(hx:VR σ x x'):∀j,ML σ (l.modify j fun e=>{e with key:=k,val:=x}) (l'.modify j fun e=>{e with key:=k,val:=x'}):=by
 induction r with
 |nil=>intro j;cases j<;>exact .nil
 |cons a b c t ih=>
  intro j
  cases j with
  |zero=>exact .cons rfl b hx t
  |succ j=>exact .cons a b c (ih j)
theorem Ans{z:Value}{ok:Bool}{d:TypeDesc}{k:Value}{l l':List MapEntry}(r:ML σ l l')(hz:VR σ z z)(h:Ap2 z ok (Instr.findNow d k l 0)=some v):∃q,Instr.findNow d k l' 0=some q/\VR σ v (match q with
 |some (_,u)=>if ok then .tuple #[u,.bool true]else u
 |none=>if ok then .tuple #[z,.bool false]else z):=by
 obtain⟨f1,f2⟩:=Ag9 (d:=d) (k:=k) r 0
 unfold Ap2 at h
 split at h
 ·rename_i j u e
  cases h
  obtain⟨u',e',hu⟩:=f2 j u e
  refine⟨_,e',?_⟩
  cases ok
  ·simpa using hu
  ·simpa using VR.tuple_of (.cons hu (.cons (.bool true) .nil))
 ·rename_i e
  cases h
  refine⟨_,f1 e,?_⟩
  cases ok
  ·simpa using hz
  ·simpa using VR.tuple_of (.cons hz (.cons (.bool false) .nil))
 ·cases h
theorem Aqu(hr:HR ng σ H.get w){t:TypeId}(hs:Aak .mkmap H=some (v,H')):
 Res ng σ H w ((do pure (Next.value (<-Instr.makeMap t none)):Sem Next).run P w) v H':=by
 simp only[Aak,Option.some.injEq,Prod.mk.injEq]at hs
 obtain⟨rfl,rfl⟩:=hs
 obtain⟨e1,e2⟩:=hr.alloc (o:=.obj true (.map #[] 0)) (i:=⟨w.heap.size,0,0,0,0,false⟩) (w':=w.alloc (.map #[] 0)) (o':=.map #[] 0) rfl
  ⟨_,heap_alloc_new w _,⟨_,rfl,.nil⟩,rfl,fun c e f h=>by cases h⟩ rfl rfl rfl rfl
 exact⟨_,.map (some w.heap.size),_,_,(by simp[Instr.makeMap,Result.andThen]),.inl rfl,e1,e2,.map (Sg.Bfj _ _ _)⟩
theorem Aum(hr:HR ng σ H.get w){t kt et:TypeId}{d:TypeDesc}{z:Value}{ok:Bool}(hm:P.underlying t=some (.map kt et))(hd:Ay0 P kt=some d)(hz:Acy P et=some z)(hzz:VR σ z z)
 {m m' k k':Value} (hvm:VR σ m m') (hvk:VR σ k k') (hs:Aak (.mget d z ok m k) H=some (v,H')):
 Res ng σ H w ((do pure (Next.value (<-Instr.lookup t m' k' ok)):Sem Next).run P w) v H':=by
 simp only[Aak]at hs
 split at hs
 ·rename_i hkey
  have hk:=Aqs hkey
  have ek:=Aqt hkey hvk
  subst ek
  have hdd:=Aqr hd
  split at hs
  ·simp only[Option.map_eq_some_iff,Prod.mk.injEq]at hs
   obtain⟨u,hu,rfl,rfl⟩:=hs
   obtain⟨q,h1,h2⟩:=Ans (d:=d) (k:=k') (l:=[]) .nil hzz hu
   cases h1
   cases hvm
   refine Res.pure hr ?_ h2
   simp[Instr.lookup,run_underlying hm,MapKept.run_checkKey hdd hk,MapKept.run_findKey (l:=[]) hdd (show Instr.findNow d k' [] 0=some none from rfl),Ac1 hz,Result.andThen]
  ·rename_i b
   split at hs
   ·rename_i own es clock hb
    simp only[Option.map_eq_some_iff,Prod.mk.injEq]at hs
    obtain⟨u,hu,rfl,rfl⟩:=hs
    cases hvm with
    | @map _ i hi=>
     obtain⟨o,g1,g2⟩:=hr.obj b i hi
     rw[hb]at g1;cases g1
     obtain⟨oo,g2,⟨es',rfl,gm⟩,_⟩:=g2
     obtain⟨q,h1,h2⟩:=Ans gm hzz hu
     refine Res.pure hr ?_ h2
     cases q with
     |none=>simp[Instr.lookup,run_underlying hm,MapKept.run_getObj_map g2,MapKept.run_checkKey hdd hk,MapKept.run_findKey hdd h1,Ac1 hz,Result.andThen]
     |some p=>obtain⟨j,x⟩:=p;simp[Instr.lookup,run_underlying hm,MapKept.run_getObj_map g2,MapKept.run_checkKey hdd hk,MapKept.run_findKey hdd h1,Result.andThen]
   ·cases hs
  ·cases hs
 ·cases hs
theorem Aju{d:TypeDesc}{k:Value}(hk:IsKey d k):∀(l:List MapEntry) (i j:Nat) (x:Value),Instr.findNow d k l i=some (some (j,x))->i<=j/\∃e,l[j-i]? =some e/\e.key=k
 |[],i,j,x,h=>by simp[Instr.findNow]at h
 |e::es,i,j,x,h=>by
  unfold Instr.findNow at h
  split at h
  ·rename_i hs
   simp only[Option.some.injEq,Prod.mk.injEq]at h
   obtain⟨rfl,rfl⟩:=h
   refine⟨Nat.le_refl _,e,by simp,?_⟩
   revert hs hk
   unfold Instr.sameNow IsKey
   intro hk hs
   split at hs
   ·split at hs
    ·rename_i h2;simp only[Option.some.injEq,beq_iff_eq]at hs;rw[hs];subst h2;simp_all
    ·cases hs
   ·simp only[Option.some.injEq,MapKept.bytes_beq,decide_eq_true_eq]at hs
    rw[hs];simp_all
   ·simp only[Option.some.injEq,beq_iff_eq]at hs
    rw[hs];simp_all
   ·cases hs
  ·obtain⟨h1,e',h2,h3⟩:=Aju hk es (i+1) j x h
   refine⟨by omega,e',?_,h3⟩
   rw[show j-i=(j-(i+1))+1 by omega]
   simpa using h2
  ·cases h
theorem Ant(hr:HR ng σ H.get w){t kt et:TypeId}{d:TypeDesc}(hm:P.underlying t=some (.map kt et))(hd:Ay0 P kt=some d)
 {m m' k k' x x':Value} (hvm:VR σ m m') (hvk:VR σ k k') (hvx:VR σ x x') (hs:Aak (.mset d m k x) H=some (v,H')):
 Res ng σ H w ((do(Instr.mapUpdate t m' k' x');pure Next.skip:Sem Next).run P w) v H':=by
 simp only[Aak]at hs
 split at hs
 ·rename_i hkey
  have hk:=Aqs hkey
  have ek:=Aqt hkey hvk
  subst ek
  have hdd:=Aqr hd
  split at hs
  ·rename_i b
   split at hs
   ·rename_i es clock hb
    cases hvm with
    | @map _ i hi=>
     obtain⟨o,g1,g2⟩:=hr.obj b i hi
     rw[hb]at g1;cases g1
     obtain⟨oo,g2,⟨es',rfl,gm⟩,g3,_⟩:=g2
     have hlt:i.c<w.heap.size:=(Array.getElem?_eq_some_iff.1 g2).1
     have put:∀(ea ec:Array MapEntry) (clock':Nat),ML σ ea.toList ec.toList->HR ng σ (H.set b (.obj true (.map ea clock'))).get (w.putObj i.c (.map ec clock'))/\Ext H.n σ H.get w (H.set b (.obj true (.map ea clock'))).n σ (H.set b (.obj true (.map ea clock'))).get (w.putObj i.c (.map ec clock')):=by
      intro ea ec clock' hm2
      refine Akl (ob:=.map ec clock') hr hi hb rfl ⟨_,?_,⟨_,rfl,hm2⟩,g3,fun c e f h=>by cases h⟩
      simp[World.putObj,hlt]
     split at hs
     ·rename_i j u hf
      simp only[Option.some.injEq,Prod.mk.injEq]at hs
      obtain⟨rfl,rfl⟩:=hs
      obtain⟨u',hf',_⟩:=(Ag9 gm 0).2 j u hf
      obtain⟨_,e',h2,h3⟩:=Aju hk es'.toList 0 j u' hf'
      have hj:es'[j]? =some e':=by simpa using h2
      obtain⟨p1,p2⟩:=put (es.modify j fun e=>{e with key:=k',val:=x}) (es'.modify j fun e=>{e with key:=k',val:=x'}) clock (by simpa using gm.mod k' hvx j)
      refine⟨_,undef,_,σ,?_,.inr ⟨rfl,rfl⟩,p1,p2,Anr⟩
      simp[Instr.mapUpdate,run_underlying hm,MapKept.run_getObj_map g2,MapKept.run_checkKey hdd hk,MapKept.run_findKey hdd hf',hj,h3,run_keyThatStays hk,run_setObj_map _ g2,Result.andThen]
      rfl
     ·rename_i hf
      simp only[Option.some.injEq,Prod.mk.injEq]at hs
      obtain⟨rfl,rfl⟩:=hs
      have hf':=(Ag9 gm 0).1 hf
      obtain⟨p1,p2⟩:=put (es.push {key:=k',val:=x,born:=clock}) (es'.push {key:=k',val:=x',born:=clock}) (clock+1) (by simpa using gm.app (ML.cons (e:={key:=k',val:=x,born:=clock}) (e':={key:=k',val:=x',born:=clock}) rfl rfl hvx .nil))
      refine⟨_,undef,_,σ,?_,.inr ⟨rfl,rfl⟩,p1,p2,Anr⟩
      simp[Instr.mapUpdate,run_underlying hm,MapKept.run_getObj_map g2,MapKept.run_checkKey hdd hk,MapKept.run_findKey hdd hf',run_setObj_map _ g2,Result.andThen]
      rfl
     ·cases hs
   ·cases hs
  ·cases hs
 ·cases hs
theorem Azg(hr:HR ng σ H.get w){t ty:TypeId}{e:TypeId}(ht:P.underlying t=some (.slice e)){x x':Value}(hx:VR σ x x')(hs:Aak (.cap x) H=some (v,H')):
 Res ng σ H w ((builtin .cap #[t] ty #[false] #[x']).run P w) v H':=by
 simp only[Aak]at hs
 split at hs
 ·cases hs
  cases hx
  exact Res.pure hr (v':=.int .i64 0) (by simp[builtin,Builtin.cap_,run_underlying ht,goInt]) (.int _ _)
 ·rename_i b o n k
  split at hs
  ·rename_i own esz c e2 hb
   cases hs
   have key:∀{i:BI} {k':Nat},σ b=some i->(k'=k\/(i.room=true/\k<=k'/\o+k*i.esz=i.len/\o+k'*i.esz<=i.top))->k'=k:=by
    intro i k' hi h
    rcases h with h|⟨h,_⟩
    ·exact h
    ·obtain⟨ob,g1,g2⟩:=hr.obj b i hi
     rw[hb]at g1;cases g1
     have:=g2.2.1
     rw[h]at this;cases this
   cases hx with
   |sl hi hn hk=>have:=key hi hk;subst this;exact Res.pure hr (v':=.int .i64 _) (by simp[builtin,Builtin.cap_,run_underlying ht,goInt]) (.int _ _)
   |slz hx=>cases hx
   |sl0 hi=>exact Res.pure hr (v':=.int .i64 _) (by simp[builtin,Builtin.cap_,run_underlying ht,goInt]) (.int _ _)
  ·cases hs
 ·cases hs
end
section
variable {P:Program} {ng:Nat} {σ:Sg} {H H':Aaa} {w:World} {v:Value}
theorem Acv{t e:TypeId}(h:Adk P t=some e):P.underlying t=some (.slice e):=by
 unfold Adk at h
 split at h
 ·rename_i h';cases h;exact h'
 ·cases h
theorem Aml{ev ev':Operand->Value}{x:Option Operand}(h:∀y,x=some y->VR σ (ev y) (ev' y)):(∀u,x.map ev=some u->∃u',x.map ev'=some u'/\VR σ u u')/\(x.map ev=none->x.map ev'=none):=by
 cases x with
 |none=>simp
 |some y=>exact⟨fun u hu=>by simp at hu;subst hu;exact⟨_,rfl,h y rfl⟩,by simp⟩
theorem Afn(hr:HR ng σ H.get w)(o:Oper){ev ev':Operand->Value}(hev:∀x∈o.op.operands,VR σ (ev x) (ev' x))(hs:Aak ((Aaw P o).map ev) H=some (v,H')):
 Res ng σ H w ((execOp ev' o).run P w) v H':=by
 obtain⟨dst,op,type,pos,after,guard⟩:=o
 cases op
 case move x=>
  simp only[Aaw,AOp.map,Aak]at hs
  cases hs
  exact Res.pure hr (v':=ev' x) (by simp[execOp]) (hev x (by simp[Op.operands]))
 case assign x=>
  simp only[Aaw,AOp.map,Aak]at hs
  cases hs
  exact Res.pure hr (v':=ev' x) (by simp[execOp]) (hev x (by simp[Op.operands]))
 case pick c a b=>
  simp only[Aaw,AOp.map,Aak]at hs
  split at hs
  ·rename_i t ht
   cases hs
   have hc:=hev c (by simp[Op.operands])
   rw[ht]at hc
   refine Res.pure hr (v':=if t then ev' a else ev' b) (by simp[execOp,hc.bool_inv,asBool]) ?_
   cases t
   ·exact hev b (by simp[Op.operands])
   ·exact hev a (by simp[Op.operands])
  ·cases hs
 case alloc e=>
  simp only[Aaw]at hs
  split at hs
  ·rename_i z n hz hn
   exact Ay2 hr hz (Adc hz) hs
  ·simp[AOp.map,Aak]at hs
 case box e x=>
  simp only[Aaw]at hs
  split at hs
  ·exact Ay3 hr (hev x (by simp[Op.operands])) hs
  ·simp[AOp.map,Aak]at hs
 case build t ps=>
  simp only[Aaw]at hs
  have hps:∀p∈ps.toList,VR σ (ev p.2) (ev' p.2):=fun p hp=>hev p.2 (by simp only[Op.operands,List.mem_toArray,List.mem_map];exact⟨p,hp,rfl⟩)
  split at hs
  ·rename_i z fs hz hu
   split at hs
   ·rename_i ns qs hns hq
    exact Aht hr hz hu hns hq (Adc hz) hps hs
   ·simp[AOp.map,Aak]at hs
  ·rename_i z len e hz hu
   split at hs
   ·rename_i n hn
    simp only[AOp.map,List.map_map]at hs
    exact Aig hr hz hu hn (Adc hz) hps hs
   ·simp[AOp.map,Aak]at hs
  ·simp[AOp.map,Aak]at hs
 case buildSlice t len ps=>
  simp only[Aaw]at hs
  have hps:∀p∈ps.toList,VR σ (ev p.2) (ev' p.2):=fun p hp=>hev p.2 (by simp only[Op.operands,List.mem_toArray,List.mem_map];exact⟨p,hp,rfl⟩)
  split at hs
  ·rename_i e he
   split at hs
   ·rename_i z n hz hn
    split at hs
    ·rename_i hc
     simp only[AOp.map,List.map_map]at hs
     exact Ao1 hr (Acv he) hz hn hc.1 hc.2.1 hc.2.2 (Adc hz) hps hs
    ·simp[AOp.map,Aak]at hs
   ·simp[AOp.map,Aak]at hs
  ·simp[AOp.map,Aak]at hs
 case load t x=>
  simp only[Aaw]at hs
  split at hs
  ·rename_i n ha hn
   exact Ap4 hr (hev x (by simp[Op.operands])) ha hn hs
  ·rename_i ha
   exact Ap3 hr (hev x (by simp[Op.operands])) ha hs
  ·simp[AOp.map,Aak]at hs
 case store t a x=>
  simp only[Aaw]at hs
  split at hs
  ·rename_i n hn
   split at hs
   ·rename_i hc
    obtain⟨rfl,_⟩:=hc
    exact Aoz hr (hev a (by simp[Op.operands])) (hev x (by simp[Op.operands])) hn hs
   ·exact Ao0 hr (hev a (by simp[Op.operands])) (hev x (by simp[Op.operands])) hn hs
  ·simp[AOp.map,Aak]at hs
 case nilCheck x=>
  simp only[Aaw,AOp.map]at hs
  exact Ap8 hr (hev x (by simp[Op.operands])) hs rfl rfl
 case binOp op t x y ty=>
  have hx:=hev x (by simp[Op.operands])
  have hy:=hev y (by simp[Op.operands])
  simp only[Aaw]at hs
  split at hs
  ·split at hs
   all_goals first
    |exact Amh hr hx hy hs
    |(rename_i hu;refine Ag3 hr (.inl ⟨rfl,rfl⟩) hu rfl ?_ hx hy hs;intro h;cases h;done)
    |(rename_i hu;split at hs
      ·rename_i hc;exact Ag3 hr (.inl ⟨rfl,rfl⟩) hu rfl (fun _=>hc) hx hy hs
      ·refine Ag3 hr (.inl ⟨rfl,rfl⟩) hu rfl ?_ hx hy hs
       intro h;cases h)
    |(rename_i hu;split at hs
      ·rename_i hcs;exact Aqh hr (.inl ⟨rfl,rfl⟩) (by unfold Abg;rw[hu];rfl) hcs hx hy hs
      ·simp[AOp.map,Aak]at hs)
    |(simp[AOp.map,Aak]at hs;done)
  ·split at hs
   all_goals first
    |exact Amh hr hx hy hs
    |(rename_i hu;refine Ag3 hr (.inr ⟨rfl,rfl⟩) hu rfl ?_ hx hy hs;intro h;cases h;done)
    |(rename_i hu;split at hs
      ·rename_i hc;exact Ag3 hr (.inr ⟨rfl,rfl⟩) hu rfl (fun _=>hc) hx hy hs
      ·refine Ag3 hr (.inr ⟨rfl,rfl⟩) hu rfl ?_ hx hy hs
       intro h;cases h)
    |(rename_i hu;split at hs
      ·rename_i hcs;exact Aqh hr (.inr ⟨rfl,rfl⟩) (by unfold Abg;rw[hu];rfl) hcs hx hy hs
      ·simp[AOp.map,Aak]at hs)
    |(simp[AOp.map,Aak]at hs;done)
  ·exact Amh hr hx hy hs
 case unOp op t x=>
  simp only[Aaw]at hs
  exact A2s hr (hev x (by simp[Op.operands])) hs
 case convert src dst x=>
  have hx:=hev x (by simp[Op.operands])
  simp only[Aaw]at hs
  split at hs
  ·rename_i h1 h2;exact Ay6 hr h1 h2 hx hs
  ·rename_i h1 h2;exact Aqf hr h1 h2 hx hs
  ·rename_i h1 h2;exact Ay7 hr h1 h2 hx hs
  ·rename_i h1 h2
   split at hs
   ·rename_i h3;exact Ay8 hr h1 h2 h3 hx hs
   ·simp[AOp.map,Aak]at hs
  ·rename_i h1 h2
   split at hs
   ·rename_i h3;exact Ay9 hr h1 h2 h3 hx hs
   ·simp[AOp.map,Aak]at hs
  ·rename_i h1 h2
   split at hs
   ·rename_i h3
    simp only[Bool.and_eq_true]at h3
    exact At6 hr h1 h2 h3.1 h3.2 hx hs
   ·simp[AOp.map,Aak]at hs
  ·simp[AOp.map,Aak]at hs
 case makeInterface t x=>
  simp only[Aaw]at hs
  split at hs
  ·simp[AOp.map,Aak]at hs
  ·rename_i d hd hne
   exact Ap7 hr hne (fun ms h=>hd ms h) (hev x (by simp[Op.operands])) hs
  ·simp[AOp.map,Aak]at hs
 case makeFunc fn xs ys=>
  simp only[Aaw,AOp.map]at hs
  have h1:=VL.map2 (σ:=σ) ev ev' xs.toList (fun x hx=>hev x (by simp[Op.operands];left;simpa using hx))
  have h2:=VL.map2 (σ:=σ) ev ev' ys.toList (fun x hx=>hev x (by simp[Op.operands];right;simpa using hx))
  have:=At7 (P:=P) hr (fn:=fn) h1 h2 hs
  have e1:(List.map ev' xs.toList).toArray=xs.map ev':=by cases xs;simp
  have e2:(List.map ev' ys.toList).toArray=ys.map ev':=by cases ys;simp
  rw[e1,e2]at this
  exact this
 case makeSlice t l c=>
  simp only[Aaw]at hs
  split at hs
  ·rename_i e he
   split at hs
   ·rename_i z n b hz hn hb
    split at hs
    ·rename_i hc
     exact Auc hr (Acv he) hz hn hb hc.1 hc.2 (Adc hz) (hev l (by simp[Op.operands])) (hev c (by simp[Op.operands])) hs
    ·simp[AOp.map,Aak]at hs
   ·simp[AOp.map,Aak]at hs
  ·simp[AOp.map,Aak]at hs
 case slice t x lo hi mx=>
  have hx:=hev x (by simp[Op.operands])
  have hlo:=Aml (σ:=σ) (ev:=ev) (ev':=ev') (x:=lo) (fun y hy=>hev y (by subst hy;simp[Op.operands]))
  have hhi:=Aml (σ:=σ) (ev:=ev) (ev':=ev') (x:=hi) (fun y hy=>hev y (by subst hy;simp[Op.operands]))
  have hmx:=Aml (σ:=σ) (ev:=ev) (ev':=ev') (x:=mx) (fun y hy=>hev y (by subst hy;simp[Op.operands]))
  simp only[Aaw]at hs
  split at hs
  ·rename_i h1
   split at hs
   ·rename_i hm
    have hmn:mx=none:=by cases mx<;>simp_all
    subst hmn
    exact Ap9 hr h1 hx hlo.1 hhi.1 hlo.2 hhi.2 hs
   ·simp[AOp.map,Aak]at hs
  ·rename_i e h1
   split at hs
   ·rename_i n hn
    split at hs
    ·simp[AOp.map,Aak]at hs
    ·rename_i hmh
     exact At8 hr h1 hn hx hlo.1 hhi.1 hmx.1 hlo.2 hhi.2 hmx.2 (by cases mx<;>cases hi<;>simp_all) hs
   ·simp[AOp.map,Aak]at hs
  ·rename_i len e h1
   split at hs
   ·rename_i n hn
    split at hs
    ·simp[AOp.map,Aak]at hs
    ·rename_i hmh
     exact Aqg hr h1 hn hx hlo.1 hhi.1 hmx.1 hlo.2 hhi.2 hmx.2 (by cases mx<;>cases hi<;>simp_all) hs
   ·simp[AOp.map,Aak]at hs
  ·simp[AOp.map,Aak]at hs
 case fieldAddr t x f=>
  simp only[Aaw]at hs
  split at hs
  ·rename_i fs h1
   split at hs
   ·rename_i fd h2
    split at hs
    ·simp[AOp.map,Aak]at hs
    ·rename_i h3
     exact Aqa hr h1 h2 h3 (hev x (by simp[Op.operands])) hs
   ·simp[AOp.map,Aak]at hs
  ·simp[AOp.map,Aak]at hs
 case field t x f=>
  simp only[Aaw]at hs
  split at hs
  ·rename_i fs h1
   split at hs
   ·rename_i fd h2
    split at hs
    ·rename_i n h3 h4
     exact Aua hr h1 h2 h3 h4 (hev x (by simp[Op.operands])) hs
    ·rename_i h3
     exact At9 hr h1 h2 h3 (hev x (by simp[Op.operands])) hs
    ·simp[AOp.map,Aak]at hs
   ·simp[AOp.map,Aak]at hs
  ·simp[AOp.map,Aak]at hs
 case indexAddr t x i=>
  simp only[Aaw]at hs
  split at hs
  ·rename_i e he
   split at hs
   ·rename_i n hn
    exact Aqc hr (Acv he) hn (hev x (by simp[Op.operands])) (hev i (by simp[Op.operands])) hs
   ·simp[AOp.map,Aak]at hs
  ·split at hs
   ·rename_i len e h1
    split at hs
    ·rename_i n hn
     exact Ao3 hr h1 hn (hev x (by simp[Op.operands])) (hev i (by simp[Op.operands])) hs
    ·simp[AOp.map,Aak]at hs
   ·simp[AOp.map,Aak]at hs
 case index t x i=>
  simp only[Aaw]at hs
  split at hs
  ·rename_i h1
   exact Aub hr h1 (hev x (by simp[Op.operands])) (hev i (by simp[Op.operands])) hs
  ·rename_i len e h1
   split at hs
   ·rename_i agg n h2 h3
    exact Aud hr h1 h2 h3 (hev x (by simp[Op.operands])) (hev i (by simp[Op.operands])) hs
   ·simp[AOp.map,Aak]at hs
  ·simp[AOp.map,Aak]at hs
 case range t x=>
  simp only[Aaw]at hs
  split at hs
  ·rename_i h1
   exact Aza hr h1 (hev x (by simp[Op.operands])) hs
  ·simp[AOp.map,Aak]at hs
 case next x str=>
  simp only[Aaw]at hs
  split at hs
  ·rename_i hstr
   have:=Aue (P:=P) (ty:=type) hr (hev x (by simp[Op.operands])) hs
   simpa[execOp,hstr]using this
  ·simp[AOp.map,Aak]at hs
 case typeAssert x xt u ok=>
  simp only[Aaw]at hs
  split at hs
  ·simp[AOp.map,Aak]at hs
  ·rename_i d hd h1
   split at hs
   ·rename_i z hz
    exact Ao2 hr h1 (fun ms h=>hd ms h) hz (Afb (Af6 hz)) (hev x (by simp[Op.operands])) hs
   ·simp[AOp.map,Aak]at hs
  ·simp[AOp.map,Aak]at hs
 case extract x i=>
  simp only[Aaw]at hs
  exact Amj hr (hev x (by simp[Op.operands])) hs
 case makeMap t r=>
  cases r with
  |none=>simp only[Aaw,Option.isNone_none,if_true,AOp.map]at hs;exact Aqu hr hs
  |some x=>simp[Aaw,AOp.map,Aak]at hs
 case lookup t m k ok=>
  simp only[Aaw]at hs
  split at hs
  ·rename_i kt et hm
   split at hs
   ·rename_i d z hd hz
    exact Aum hr hm hd hz (Afb (Af6 hz)) (hev m (by simp[Op.operands])) (hev k (by simp[Op.operands])) hs
   ·simp[AOp.map,Aak]at hs
  ·simp[AOp.map,Aak]at hs
 case mapUpdate t m k x=>
  simp only[Aaw]at hs
  split at hs
  ·rename_i kt et hm
   split at hs
   ·rename_i d hd
    exact Ant hr hm hd (hev m (by simp[Op.operands])) (hev k (by simp[Op.operands])) (hev x (by simp[Op.operands])) hs
   ·simp[AOp.map,Aak]at hs
  ·simp[AOp.map,Aak]at hs
 case insert t m k x=>
  simp only[Aaw]at hs
  split at hs
  ·rename_i kt et hm
   split at hs
   ·rename_i d hd
    exact Ant hr hm hd (hev m (by simp[Op.operands])) (hev k (by simp[Op.operands])) (hev x (by simp[Op.operands])) hs
   ·simp[AOp.map,Aak]at hs
  ·simp[AOp.map,Aak]at hs
 case call c=>
  obtain⟨callee,args,tys⟩:=c
  obtain⟨args⟩:=args
  obtain⟨tys⟩:=tys
  simp only[Aaw]at hs
  split at hs
  ·simp[AOp.map,Aak]at hs
  ·simp[AOp.map,Aak]at hs
  ·simp[AOp.map,Aak]at hs
  ·split at hs
   ·rename_i _ _ x t
    have hx:=hev x (by simp[Op.operands,Call.operands])
    split at hs
    ·rename_i e h1
     have:=Azg (P:=P) (t:=t) (ty:=type) hr h1 hx hs
     simpa[execOp,resolve,invoke,builtin]using this
    ·simp[AOp.map,Aak]at hs
   ·simp[AOp.map,Aak]at hs
  ·split at hs
   ·rename_i _ _ x t
    have hx:=hev x (by simp[Op.operands,Call.operands])
    split at hs
    ·rename_i h1
     have:=Aqd (P:=P) (t:=t) (ty:=type) hr h1 (.inl ⟨rfl,rfl⟩) hx hs
     simpa[execOp,resolve,invoke,builtin]using this
    ·rename_i e h1
     have:=Aqd (P:=P) (t:=t) (ty:=type) hr h1 (.inr ⟨⟨_,rfl⟩,rfl⟩) hx hs
     simpa[execOp,resolve,invoke,builtin]using this
    ·simp[AOp.map,Aak]at hs
   ·simp[AOp.map,Aak]at hs
  ·split at hs
   ·rename_i _ _ s x t u
    have hsv:=hev s (by simp[Op.operands,Call.operands])
    have hx:=hev x (by simp[Op.operands,Call.operands])
    split at hs
    ·rename_i e e2 he hu
     split at hs
     ·rename_i z n b hz hn hb
      split at hs
      ·rename_i hc
       have:=Ay4 (P:=P) (t:=t) (u:=u) (ty:=type) hr (Acv he) hu hz hn hb hc.1 hc.2.1 hc.2.2 hsv hx hs
       simpa[execOp,resolve,invoke,builtin]using this
      ·simp[AOp.map,Aak]at hs
     ·simp[AOp.map,Aak]at hs
    ·rename_i e he hu
     split at hs
     ·rename_i z b hz hn hb
      split at hs
      ·rename_i hc
       simp only[Bool.and_eq_true,decide_eq_true_eq,beq_iff_eq]at hc
       have:=At5 (P:=P) (t:=t) (u:=u) (ty:=type) hr (Acv he) hu hz hn hb hc.1.1 hc.2 hsv hx hs
       simpa[execOp,resolve,invoke,builtin]using this
      ·simp[AOp.map,Aak]at hs
     ·simp[AOp.map,Aak]at hs
    ·rename_i e he hu
     split at hs
     ·rename_i z n b hz hn hb
      split at hs
      ·rename_i hc
       have:=Auh (P:=P) (t:=t) (u:=u) (ty:=type) hr (Acv he) hu hz hn hb hc.1 hc.2.2 hsv hx hs
       simpa[execOp,resolve,invoke,builtin]using this
      ·simp[AOp.map,Aak]at hs
     ·simp[AOp.map,Aak]at hs
    ·simp[AOp.map,Aak]at hs
   ·simp[AOp.map,Aak]at hs
  ·split at hs
   ·rename_i _ x y
    have:=Awp (P:=P) (mx:=true) (ts:=tys.toArray) (ty:=type) hr (hev x (by simp[Op.operands,Call.operands])) (hev y (by simp[Op.operands,Call.operands])) hs
    simpa[execOp,resolve,invoke,builtin]using this
   ·rename_i _ x y z w'
    have:=Aqe (P:=P) (mx:=true) (ts:=tys.toArray) (ty:=type) hr (hev x (by simp[Op.operands,Call.operands])) (hev y (by simp[Op.operands,Call.operands])) (hev z (by simp[Op.operands,Call.operands])) (hev w' (by simp[Op.operands,Call.operands])) hs
    simpa[execOp,resolve,invoke,builtin]using this
   ·simp[AOp.map,Aak]at hs
  ·split at hs
   ·rename_i _ x y
    have:=Awp (P:=P) (mx:=false) (ts:=tys.toArray) (ty:=type) hr (hev x (by simp[Op.operands,Call.operands])) (hev y (by simp[Op.operands,Call.operands])) hs
    simpa[execOp,resolve,invoke,builtin]using this
   ·rename_i _ x y z w'
    have:=Aqe (P:=P) (mx:=false) (ts:=tys.toArray) (ty:=type) hr (hev x (by simp[Op.operands,Call.operands])) (hev y (by simp[Op.operands,Call.operands])) (hev z (by simp[Op.operands,Call.operands])) (hev w' (by simp[Op.operands,Call.operands])) hs
    simpa[execOp,resolve,invoke,builtin]using this
   ·simp[AOp.map,Aak]at hs
  ·split at hs
   ·rename_i _ _ d s t u
    have hdv:=hev d (by simp[Op.operands,Call.operands])
    have hsv:=hev s (by simp[Op.operands,Call.operands])
    split at hs
    ·rename_i e e2 he hu
     split at hs
     ·rename_i n hn
      have:=Aug (P:=P) (t:=t) (u:=u) (ty:=type) (e2:=e2) hr (Acv he) hn hdv hsv hs
      simpa[execOp,resolve,invoke,builtin]using this
     ·simp[AOp.map,Aak]at hs
    ·simp[AOp.map,Aak]at hs
   ·simp[AOp.map,Aak]at hs
  ·split at hs
   ·rename_i _ _ x t
    have hxv:=hev x (by simp[Op.operands,Call.operands])
    split at hs
    ·rename_i e he
     split at hs
     ·rename_i z n hz hn
      split at hs
      ·rename_i hc
       have:=Azb (P:=P) (t:=t) (ty:=type) hr (Acv he) hz hn hc.1 hc.2 (Adc hz) hxv hs
       simpa[execOp,resolve,invoke,builtin]using this
      ·simp[AOp.map,Aak]at hs
     ·simp[AOp.map,Aak]at hs
    ·simp[AOp.map,Aak]at hs
   ·simp[AOp.map,Aak]at hs
  ·simp[AOp.map,Aak]at hs
 all_goals (simp[Aaw,AOp.map,Aak]at hs)
end
end Go.AM
