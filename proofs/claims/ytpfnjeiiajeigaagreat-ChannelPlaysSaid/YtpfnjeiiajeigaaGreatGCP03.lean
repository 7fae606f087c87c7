/- Part of the proof. -/
import Derived.Test.YtpfnjeiiajeigaaGreatGCP02
set_option linter.unusedSimpArgs false
set_option linter.unusedVariables false
namespace Go.AM
inductive CKd
 |int (k:IntKind)
 |bool
 |str
 |sl (t:TypeId)
def A67(P:Program)(f:TypeId→Option (List CKd)):List Field→Nat→Option (List CKd)
 |[],_=>some []
 |fd::r,off=>if fd.offset=off then match f fd.type with
  |some l=>if P.cellsOf fd.type=l.length then(A67 P f r (off+l.length)).map (l++ ·)else none
  |none=>none
  else none
def ckT(P:Program):Nat→TypeId→Option (List CKd)
 |0,_=>none
 |d+1,t=>match P.underlying t with
  |some .bool=>some [.bool]
  |some (.int k)=>some [.int k]
  |some .string=>some [.str]
  |some (.slice _)=>some [.sl t]
  |some (.struct fs)=>match A67 P (ckT P d) fs.toList 0 with
   |some l=>if P.cellsOf t=l.length then some l else none
   |none=>none
  |some (.array n e)=>match ckT P d e with
   |some l=>if P.cellsOf e=l.length∧P.cellsOf t=n*l.length then some (List.replicate n l).flatten else none
   |none=>none
  |_=>none
def A6v(P:Program)(G:Gf):CKd→Value→Prop
 | .int k,v=>∃n,v=.int k n∧(Lit.int k n).wf=true
 | .bool,v=>∃b,v=.bool b
 | .str,v=>∃s,v=.string s∧s.size≤maxLen∧s.size≤reachBytes
 | .sl t,v=>AR P G t [v]
def Ace(P:Program)(G:Gf):List CKd→List Value→Prop
 |[],[]=>True
 |k::ks,v::vs=>A6v P G k v∧Ace P G ks vs
 |_,_=>False
section
variable {P:Program} {G:Gf}
theorem Ace.inv{k:CKd}{ks:List CKd}{cs:List Value}(h:Ace P G (k::ks) cs):∃v vs,cs=v::vs∧A6v P G k v∧Ace P G ks vs:=by
 cases cs with
 |nil=>exact h.elim
 |cons v vs=>exact⟨v,vs,rfl,h.1,h.2⟩
theorem Ace.end_{cs:List Value}(h:Ace P G [] cs):cs=[]:=by
 cases cs with
 |nil=>rfl
 |cons v vs=>exact h.elim
theorem Ace.app:∀{a b:List CKd} {c d:List Value},Ace P G a c→Ace P G b d→Ace P G (a++b) (c++d)
 |[],_,[],_,_,h=>h
 |_::_,_,_::_,_,h,k=>⟨h.1,Ace.app h.2 k⟩
theorem Ace.split:∀{a b:List CKd} {cs:List Value},Ace P G (a++b) cs→Ace P G a (cs.take a.length)∧Ace P G b (cs.drop a.length)
 |[],b,cs,h=>⟨by simp[Ace],by simpa using h⟩
 |k::a,b,v::cs,h=>by
  have:=Ace.split (a:=a) (b:=b) (cs:=cs) h.2
  exact⟨⟨h.1,this.1⟩,this.2⟩
theorem Ace.u8:∀{n:Nat} {cs:List Value},Ace P G (List.replicate n (.int .u8)) cs→∃l:List UInt8,l.length=n∧cs=cellsOf l
 |0,[],_=>⟨[],rfl,rfl⟩
 |n+1,v::cs,h=>by
  obtain⟨⟨m,rfl,hw⟩,h2⟩:=h
  obtain⟨l,h3,rfl⟩:=Ace.u8 h2
  simp only[Lit.wf,Bool.and_eq_true,decide_eq_true_eq,IntKind.min,IntKind.max,IntKind.signed,IntKind.bits]at hw
  obtain⟨m,rfl⟩:∃k:Nat,m=k:=⟨m.toNat,by simp at hw;omega⟩
  have hm:m % 256=m:=by simp at hw;omega
  exact⟨UInt8.ofNat m::l,by simp[h3],by simp[cellsOf,hm]⟩
theorem Arj{k:IntKind}(hk:k.signed=false){v:Value}(h:A6v P G (.int k) v):∃n:Nat,v=.int k n∧n<2 ^ k.bits:=by
 obtain⟨n,rfl,hw⟩:=h
 simp only[Lit.wf,Bool.and_eq_true,decide_eq_true_eq,IntKind.min,IntKind.max,hk,Bool.false_eq_true,if_false]at hw
 refine⟨n.toNat,by rw[Int.toNat_of_nonneg hw.1],?_⟩
 have h1:=hw.1
 have h2:=hw.2
 have:(n.toNat:Int)<((2 ^ k.bits:Nat):Int):=by
  rw[Int.toNat_of_nonneg h1]
  push_cast
  omega
 exact Int.ofNat_lt.1 this
theorem A00{v:Value}(h:A6v P G (.int .u8) v):∃n:Nat,v=.int .u8 n∧n<256:=Arj rfl h
theorem Alk{v:Value}(h:A6v P G (.int .u32) v):∃n:Nat,v=.int .u32 n∧n<4294967296:=Arj rfl h
theorem Aiv{v:Value}(h:A6v P G (.int .u64) v):∃n:Nat,v=.int .u64 n∧n<18446744073709551616:=Arj rfl h
theorem Aia{f:TypeId→Option (List CKd)}{cs:List Value}:∀(fs:List Field) (off:Nat) (ks:List CKd),A67 P f fs off=some ks→cs.length=off+ks.length→
 (∀fd∈fs,∀l,f fd.type=some l→P.cellsOf fd.type=l.length→Ace P G l ((cs.drop fd.offset).take (P.cellsOf fd.type)))→Ace P G ks (cs.drop off)
 |[],off,ks,h,hl,_=>by
  simp only[A67,Option.some.injEq]at h;subst h
  rw[List.drop_of_length_le (by simp at hl;omega)];trivial
 |fd::fs,off,ks,h,hl,hf=>by
  simp only[A67]at h
  split at h
  ·rename_i h1
   split at h
   ·rename_i l h2
    split at h
    ·rename_i h3
     simp only[Option.map_eq_some_iff]at h
     obtain⟨r,h4,rfl⟩:=h
     have h5:=hf fd (by simp) l h2 h3
     have h6:=Aia fs (off+l.length) r h4 (by rw[hl,List.length_append];omega) (fun x hx=>hf x (by simp[hx]))
     rw[h1,h3]at h5
     have:=h5.app h6
     rwa [←List.drop_drop,List.take_append_drop]at this
    ·cases h
   ·cases h
  ·cases h
theorem Ams{l:List CKd}{cs:List Value}:∀(n:Nat),(∀i,i<n→Ace P G l ((cs.drop (i*l.length)).take l.length))→Ace P G (List.replicate n l).flatten (cs.take (n*l.length))
 |0,_=>by simp[Ace]
 |n+1,h=>by
  have h1:=Ams n (fun i hi=>h i (by omega))
  rw[List.replicate_succ',List.flatten_append,Nat.add_mul,Nat.one_mul,List.take_add]
  simpa using h1.app (h n (by omega))
theorem AR.flat:∀{d:Nat} {t:TypeId} {ks:List CKd} {cs:List Value},ckT P d t=some ks→AR P G t cs→Ace P G ks cs
 |0,t,ks,cs,h,_=>by simp[ckT]at h
 |d+1,t,ks,cs,h,ha=>by
  have ha0:=ha
  cases ha with
  |bool hu=>simp only[ckT,hu,Option.some.injEq]at h;subst h;exact⟨⟨_,rfl⟩,trivial⟩
  |int hu hw=>simp only[ckT,hu,Option.some.injEq]at h;subst h;exact⟨⟨_,rfl,hw⟩,trivial⟩
  |str hu hs=>simp only[ckT,hu,Option.some.injEq]at h;subst h;exact⟨⟨_,rfl,hs⟩,trivial⟩
  |nil hu=>simp only[ckT,hu,Option.some.injEq]at h;subst h;exact⟨ha0,trivial⟩
  |zero hu _=>simp only[ckT,hu,Option.some.injEq]at h;subst h;exact⟨ha0,trivial⟩
  |sl hu=>simp only[ckT,hu,Option.some.injEq]at h;subst h;exact⟨ha0,trivial⟩
  |struct hu hl hf=>
   rename_i fs
   simp only[ckT,hu]at h
   split at h
   ·rename_i l h1
    split at h
    ·rename_i h2
     simp only[Option.some.injEq]at h;subst h
     have:=Aia (cs:=cs) (G:=G) fs.toList 0 _ h1 (by rw[hl,h2];omega) (fun fd hfd l hl' hz=>by
      obtain⟨i,hi,hfi⟩:=List.mem_iff_getElem.1 hfd
      have hi':i<fs.size:=by simpa using hi
      exact(hf i fd (by rw[Array.getElem?_eq_getElem hi',←hfi];simp)).flat hl')
     simpa using this
    ·cases h
   ·cases h
  |array hu hl hi=>
   rename_i e n
   simp only[ckT,hu]at h
   split at h
   ·rename_i l h1
    split at h
    ·rename_i h2
     simp only[Option.some.injEq]at h;subst h
     have:=Ams (P:=P) (G:=G) (l:=l) (cs:=cs) n (fun i hin=>by
      have:=hi i hin
      rw[h2.1]at this
      exact this.flat h1)
     rwa [List.take_of_length_le (by rw[hl,h2.2];omega)]at this
    ·cases h
   ·cases h
end
end Go.AM

namespace Go.AM.Fd
open Go.Proofs Go.AM.F
theorem Aoi(s:ByteArray):∃l:List UInt8,s=⟨l.toArray⟩:=⟨s.data.toList,by cases s;simp⟩
theorem Ah0{P:Program}{H:Aaa}{v:Value}{t e esz:Nat}(hu:P.underlying t=some (.slice e))(hz:P.cellsOf e=esz)(h:AR P H.get t [v]):∃rows,(Sl H esz v rows∧rows.length≤9223372036854775807)∧∀r∈rows,AR P H.get e r:=by
 obtain⟨rows,hs,hr⟩:=h.rows hu hz
 refine⟨rows,⟨hs,?_⟩,hr⟩
 have hl:=hs.len
 rcases h.slice_inv hu with h2|⟨x,hx,h2⟩|⟨b,n,k,c,u,h2,h3,h4,h5,_⟩
 ·cases h2;simp only[lenS]at hl;omega
 ·cases h2;simp only[lenS]at hl;omega
 ·cases h2
  simp only[slc,lenS]at hl
  have:maxLen=9223372036854775807:=by unfold maxLen;rfl
  omega
theorem Atw{H:Aaa}{v:Value}(h:AR Tryz.prog H.get 84 [v]):∃l,IL H v l∧l.length≤9223372036854775807:=by
 obtain⟨rows,⟨hs,hl⟩,hr⟩:=Ah0 (e:=3) (esz:=1) (by kernel_rfl) (by kernel_rfl) h
 obtain⟨l,rfl,_⟩:=Aci (f:=Agw) (Q:=fun _=>True) (l:=rows) (fun r hm=>by
  obtain⟨n,hb,_⟩:=(hr r hm).int_inv (by kernel_rfl)
  exact⟨n,hb,trivial⟩)
 exact⟨l,hs,by simpa using hl⟩
theorem Aps{H:Aaa}{v:Value}(h:AR Tryz.prog H.get 85 [v]):∃l,NL H v l∧l.length≤9223372036854775807:=by
 obtain⟨rows,⟨hs,hl⟩,hr⟩:=Ah0 (e:=120) (esz:=2) (by kernel_rfl) (by kernel_rfl) h
 obtain⟨l,rfl,_⟩:=Aci (f:=Afq) (Q:=fun _=>True) (l:=rows) (fun r hm=>by
  have h1:=(hr r hm).flat (d:=5) (ks:=[.int .i64,.bool]) (by kernel_rfl)
  obtain⟨a,as1,rfl,ha,h2⟩:=h1.inv
  obtain⟨b,bs,rfl,hb,h3⟩:=h2.inv
  have:=h3.end_;subst this
  obtain⟨n,rfl,_⟩:=ha
  obtain⟨m,rfl⟩:=hb
  exact⟨(n,m),rfl,trivial⟩)
 exact⟨l,hs,by simpa using hl⟩
theorem A85{H:Aaa}{v:Value}(h:AR Tryz.prog H.get 22 [v]):∃l,TL H v l∧l.length≤9223372036854775807∧∀x∈l,x.length≤9223372036854775807:=by
 obtain⟨rows,⟨hs,hl⟩,hr⟩:=Ah0 (e:=9) (esz:=1) (by kernel_rfl) (by kernel_rfl) h
 obtain⟨l,rfl,hq⟩:=Aci (f:=Akv) (Q:=fun x=>x.length≤9223372036854775807) (l:=rows) (fun r hm=>by
  obtain⟨b,hb,hz⟩:=(hr r hm).str_inv (by kernel_rfl)
  obtain⟨l,rfl⟩:=Aoi b
  have:maxLen=9223372036854775807:=by unfold maxLen;rfl
  exact⟨l,hb,by have:(⟨l.toArray⟩:ByteArray).size=l.length:=by simp[ByteArray.size]
                omega⟩)
 exact⟨l,hs,by simpa using hl,hq⟩
theorem Apt{H:Aaa}{t e:Nat}{v:Value}(h1:Program.underlying Tryz.prog t=some (.slice e))(h2:Program.cellsOf Tryz.prog e=2)(h3:ckT Tryz.prog 6 e=some [.str,.int .i64])(h:AR Tryz.prog H.get t [v]):∃l,PL H v l∧l.length≤9223372036854775807∧∀x∈l,x.1.length≤9223372036854775807:=by
 obtain⟨rows,⟨hs,hl⟩,hr⟩:=Ah0 (e:=e) (esz:=2) h1 h2 h
 obtain⟨l,rfl,hq⟩:=Aci (f:=Bdm) (Q:=fun x=>x.1.length≤9223372036854775807) (l:=rows) (fun r hm=>by
  have h1:=(hr r hm).flat h3
  obtain⟨a,as1,rfl,ha,h2⟩:=h1.inv
  obtain⟨b,bs,rfl,hb,h3⟩:=h2.inv
  have:=h3.end_;subst this
  obtain⟨s,rfl,hz⟩:=ha
  obtain⟨m,rfl,_⟩:=hb
  obtain⟨l,rfl⟩:=Aoi s
  have:maxLen=9223372036854775807:=by unfold maxLen;rfl
  exact⟨(l,m),rfl,by have:(⟨l.toArray⟩:ByteArray).size=l.length:=by simp[ByteArray.size]
                     simp only;omega⟩)
 exact⟨l,hs,by simpa using hl,hq⟩
theorem Axv{H:Aaa}{r:List Value}(h:AR Tryz.prog H.get 87 r):∃x:RV,r=x.row∧x.ok H∧x.r.n.length≤9223372036854775807∧x.r.path.length≤9223372036854775807∧x.r.pts.length≤9223372036854775807∧x.r.ov.length≤9223372036854775807∧x.r.fl.length≤9223372036854775807:=by
 have h1:=h.flat (d:=6) (ks:=[.str,.int .i64,.sl 84,.sl 85,.sl 84,.sl 85]) (by kernel_rfl)
 obtain⟨a,as1,rfl,ha,h2⟩:=h1.inv
 obtain⟨b,bs,rfl,hb,h3⟩:=h2.inv
 obtain⟨c,cs,rfl,hc,h4⟩:=h3.inv
 obtain⟨d,ds,rfl,hd,h5⟩:=h4.inv
 obtain⟨e,es,rfl,he,h6⟩:=h5.inv
 obtain⟨f,fs,rfl,hf,h7⟩:=h6.inv
 have:=h7.end_;subst this
 obtain⟨s,rfl,hz⟩:=ha
 obtain⟨m,rfl,_⟩:=hb
 obtain⟨l,rfl⟩:=Aoi s
 obtain⟨p,hp,lp⟩:=Atw hc
 obtain⟨q,hq,lq⟩:=Aps hd
 obtain⟨o,ho,lo⟩:=Atw he
 obtain⟨g,hg,lg⟩:=Aps hf
 have:maxLen=9223372036854775807:=by unfold maxLen;rfl
 have:(⟨l.toArray⟩:ByteArray).size=l.length:=by simp[ByteArray.size]
 exact⟨⟨⟨l,m,p,q,o,g⟩,c,d,e,f⟩,rfl,⟨hp,hq,ho,hg⟩,by simp only;omega,lp,lq,lo,lg⟩
theorem Bi1{H:Aaa}{cs:List Value}(h:AR Tryz.prog H.get 27 cs):∃u xs L,cs=V4.l u∧LyR H u xs L∧Aih 9223372036854775807 L:=by
 have h1:=h.flat (d:=6) (ks:=[.sl 22,.sl 23,.sl 24,.sl 25]) (by kernel_rfl)
 obtain⟨a,as1,rfl,ha,h2⟩:=h1.inv
 obtain⟨b,bs,rfl,hb,h3⟩:=h2.inv
 obtain⟨c,cs,rfl,hc,h4⟩:=h3.inv
 obtain⟨d,ds,rfl,hd,h5⟩:=h4.inv
 have:=h5.end_;subst this
 obtain⟨s,hs,ls,bs⟩:=A85 ha
 obtain⟨p,hp,lp,bp⟩:=Apt (e:=89) (by kernel_rfl) (by kernel_rfl) (by kernel_rfl) hb
 obtain⟨g,hg,lg,bg⟩:=Apt (e:=90) (by kernel_rfl) (by kernel_rfl) (by kernel_rfl) hc
 obtain⟨rows,⟨hr,lr⟩,hrow⟩:=Ah0 (e:=87) (esz:=6) (by kernel_rfl) (by kernel_rfl) hd
 obtain⟨xs,rfl,hx⟩:=Aci (f:=RV.row) (Q:=fun x:RV=>x.ok H∧x.r.n.length≤9223372036854775807∧x.r.path.length≤9223372036854775807∧x.r.pts.length≤9223372036854775807∧x.r.ov.length≤9223372036854775807∧x.r.fl.length≤9223372036854775807) (l:=rows) (fun r hm=>Axv (hrow r hm))
 refine⟨⟨a,b,c,d⟩,xs,⟨s,p,g,xs.map (·.r)⟩,rfl,⟨hs,hp,hg,hr,rfl,fun x hm=>(hx x hm).1⟩,⟨⟨ls,bs⟩,⟨lp,bp⟩,⟨lg,bg⟩,⟨by simpa using lr,fun x hm=>?_⟩⟩⟩
 obtain⟨y,hy,rfl⟩:=List.mem_map.1 hm
 exact(hx y hy).2
theorem Bi2{H:Aaa}{v:Value}(h:AV Tryz.prog H.get 27 v):∃u xs L,v=.agg (V4.l u).toArray∧LyR H u xs L∧Aih 9223372036854775807 L:=by
 obtain⟨cs,rfl⟩:=h.2.1 (by kernel_rfl)
 obtain⟨u,xs,L,h1,h2⟩:=Bi1 h.1
 have e:cs.toList=V4.l u:=by simpa[Value.cells]using h1
 exact⟨u,xs,L,by rw[←e],h2⟩
end Go.AM.Fd

set_option maxRecDepth 100000
set_option maxHeartbeats 0
namespace Go.AM.F
def Acj:TypeId→List Value
 |89=>[(.string ByteArray.empty),(.int .i64 0)]
 |4=>[(.bool false)]
 |39=>[(.int .u64 0)]
 |87=>[(.string ByteArray.empty),(.int .i64 0),(.slice none 0 0),(.slice none 0 0),(.slice none 0 0),(.slice none 0 0)]
 |3=>[(.int .i64 0)]
 |120=>[(.int .i64 0),(.bool false)]
 |210=>[(.map none)]
 |_=>[]
def Ack:TypeId→Value
 |_=>undef
def Acl:TypeId→List Nat
 |_=>[]
def Acm:Nat→TypeId→List Value
 |2,84=>[(.slice none 0 0),(.slice none 0 0)]
 |2,85=>[(.slice none 0 0),(.slice none 0 0)]
 |_,_=>[]
noncomputable def f30:Aao:=by
 refine(fun(_:Cz Acj Ack Acl Acm Go.Proofs.Tryz.prog 0 [0,1,2,3,4,7,13] 30 ?a)=>?a) ?h
 case h=>
 intro zc zv zk zr hc hv hk hr
 conv=>lhs;cbv;try simp only[hc,hv,hk,hr,Acj,Ack,Acl,Acm]
theorem Bai:Aap Go.Proofs.Tryz.prog 0 [0,1,2,3,4,7,13] 30=some f30:=by kernel_rfl
theorem Bjs:Aaf Go.Proofs.Tryz.prog 30 1=true:=by kernel_rfl
noncomputable def f31:Aao:=by
 refine(fun(_:Cz Acj Ack Acl Acm Go.Proofs.Tryz.prog 0 [0,1,2] 31 ?a)=>?a) ?h
 case h=>
 intro zc zv zk zr hc hv hk hr
 conv=>lhs;cbv;try simp only[hc,hv,hk,hr,Acj,Ack,Acl,Acm]
theorem Baj:Aap Go.Proofs.Tryz.prog 0 [0,1,2] 31=some f31:=by kernel_rfl
theorem Bjt:Aaf Go.Proofs.Tryz.prog 31 1=true:=by kernel_rfl
noncomputable def f32:Aao:=by
 refine(fun(_:Cz Acj Ack Acl Acm Go.Proofs.Tryz.prog 0 [0,1,2] 32 ?a)=>?a) ?h
 case h=>
 intro zc zv zk zr hc hv hk hr
 conv=>lhs;cbv;try simp only[hc,hv,hk,hr,Acj,Ack,Acl,Acm]
theorem Bak:Aap Go.Proofs.Tryz.prog 0 [0,1,2] 32=some f32:=by kernel_rfl
theorem Bju:Aaf Go.Proofs.Tryz.prog 32 1=true:=by kernel_rfl
noncomputable def f43:Aao:=by
 refine(fun(_:Cz Acj Ack Acl Acm Go.Proofs.Tryz.prog 0 [0,1,4] 43 ?a)=>?a) ?h
 case h=>
 intro zc zv zk zr hc hv hk hr
 conv=>lhs;cbv;try simp only[hc,hv,hk,hr,Acj,Ack,Acl,Acm]
theorem Bal:Aap Go.Proofs.Tryz.prog 0 [0,1,4] 43=some f43:=by kernel_rfl
theorem Bjv:Aaf Go.Proofs.Tryz.prog 43 2=true:=by kernel_rfl
noncomputable def f45:Aao:=by
 refine(fun(_:Cz Acj Ack Acl Acm Go.Proofs.Tryz.prog 0 [0,1,4] 45 ?a)=>?a) ?h
 case h=>
 intro zc zv zk zr hc hv hk hr
 conv=>lhs;cbv;try simp only[hc,hv,hk,hr,Acj,Ack,Acl,Acm]
theorem Bam:Aap Go.Proofs.Tryz.prog 0 [0,1,4] 45=some f45:=by kernel_rfl
theorem Bjw:Aaf Go.Proofs.Tryz.prog 45 2=true:=by kernel_rfl
noncomputable def f62:Aao:=by
 refine(fun(_:Cz Acj Ack Acl Acm Go.Proofs.Tryz.prog 0 [0,1,4,5,7,8,9,16] 62 ?a)=>?a) ?h
 case h=>
 intro zc zv zk zr hc hv hk hr
 conv=>lhs;cbv;try simp only[hc,hv,hk,hr,Acj,Ack,Acl,Acm]
theorem Ban:Aap Go.Proofs.Tryz.prog 0 [0,1,4,5,7,8,9,16] 62=some f62:=by kernel_rfl
theorem Bjx:Aaf Go.Proofs.Tryz.prog 62 2=true:=by kernel_rfl
noncomputable def f63:Aao:=by
 refine(fun(_:Cz Acj Ack Acl Acm Go.Proofs.Tryz.prog 0 [0,1,2,3] 63 ?a)=>?a) ?h
 case h=>
 intro zc zv zk zr hc hv hk hr
 conv=>lhs;cbv;try simp only[hc,hv,hk,hr,Acj,Ack,Acl,Acm]
theorem Bao:Aap Go.Proofs.Tryz.prog 0 [0,1,2,3] 63=some f63:=by kernel_rfl
theorem Bjy:Aaf Go.Proofs.Tryz.prog 63 2=true:=by kernel_rfl
noncomputable def f64:Aao:=by
 refine(fun(_:Cz Acj Ack Acl Acm Go.Proofs.Tryz.prog 0 [0,1,2,3,4,5,6,7,8,11,31,32,33,34,56] 64 ?a)=>?a) ?h
 case h=>
 intro zc zv zk zr hc hv hk hr
 conv=>lhs;cbv;try simp only[hc,hv,hk,hr,Acj,Ack,Acl,Acm]
theorem Bap:Aap Go.Proofs.Tryz.prog 0 [0,1,2,3,4,5,6,7,8,11,31,32,33,34,56] 64=some f64:=by kernel_rfl
theorem Bjz:Aaf Go.Proofs.Tryz.prog 64 2=true:=by kernel_rfl
noncomputable def f65:Aao:=by
 refine(fun(_:Cz Acj Ack Acl Acm Go.Proofs.Tryz.prog 0 [0,2,3,5,6,8,9,10,11,12,20,25,26,27,28] 65 ?a)=>?a) ?h
 case h=>
 intro zc zv zk zr hc hv hk hr
 conv=>lhs;cbv;try simp only[hc,hv,hk,hr,Acj,Ack,Acl,Acm]
theorem Baq:Aap Go.Proofs.Tryz.prog 0 [0,2,3,5,6,8,9,10,11,12,20,25,26,27,28] 65=some f65:=by kernel_rfl
theorem Bj0:Aaf Go.Proofs.Tryz.prog 65 1=true:=by kernel_rfl
noncomputable def f66:Aao:=by
 refine(fun(_:Cz Acj Ack Acl Acm Go.Proofs.Tryz.prog 0 [0,2,3,5,6,8,9,10,11,12,20,25,26,27,28] 66 ?a)=>?a) ?h
 case h=>
 intro zc zv zk zr hc hv hk hr
 conv=>lhs;cbv;try simp only[hc,hv,hk,hr,Acj,Ack,Acl,Acm]
theorem Bar:Aap Go.Proofs.Tryz.prog 0 [0,2,3,5,6,8,9,10,11,12,20,25,26,27,28] 66=some f66:=by kernel_rfl
theorem Bj1:Aaf Go.Proofs.Tryz.prog 66 1=true:=by kernel_rfl
noncomputable def f67:Aao:=by
 refine(fun(_:Cz Acj Ack Acl Acm Go.Proofs.Tryz.prog 0 [0,1,2,3,4,5,6,7,11,12,13] 67 ?a)=>?a) ?h
 case h=>
 intro zc zv zk zr hc hv hk hr
 have e0A:=(rfl:rfA Go.Proofs.Tryz.prog 67 0=rfA Go.Proofs.Tryz.prog 67 0);conv at e0A=>rhs;cbv
 have e0B:=(rfl:rfB Go.Proofs.Tryz.prog 67 0=rfB Go.Proofs.Tryz.prog 67 0);conv at e0B=>rhs;cbv
 conv=>lhs;cbv;try simp only[hc,hv,hk,hr,Acj,Ack,Acl,Acm];simp only[←e0A,←e0B]
theorem Bas:Aap Go.Proofs.Tryz.prog 0 [0,1,2,3,4,5,6,7,11,12,13] 67=some f67:=by kernel_rfl
theorem Bj2:Aaf Go.Proofs.Tryz.prog 67 3=true:=by kernel_rfl
noncomputable def At9:Abw:=by
 refine(fun(_:CzC Acj Ack Acl Acm Go.Proofs.Tryz.prog 0 14 [0,1,2,3,4,5,6,7,11,12,13] (rfA Go.Proofs.Tryz.prog 67 0) ?a)=>?a) ?h
 case h=>intro zc zv zk zr hc hv hk hr;conv=>lhs;cbv;try simp only[hc,hv,hk,hr,Acj,Ack,Acl,Acm]
theorem Aua:Acw Go.Proofs.Tryz.prog 0 14 [0,1,2,3,4,5,6,7,11,12,13] (rfA Go.Proofs.Tryz.prog 67 0)=some At9:=by kernel_rfl
noncomputable def Aub:Abw:=by
 refine(fun(_:CzC Acj Ack Acl Acm Go.Proofs.Tryz.prog 0 14 [0,1,2,3,4,5,6,7,11,12,13] (rfB Go.Proofs.Tryz.prog 67 0) ?a)=>?a) ?h
 case h=>intro zc zv zk zr hc hv hk hr;conv=>lhs;cbv;try simp only[hc,hv,hk,hr,Acj,Ack,Acl,Acm]
theorem Auc:Acw Go.Proofs.Tryz.prog 0 14 [0,1,2,3,4,5,6,7,11,12,13] (rfB Go.Proofs.Tryz.prog 67 0)=some Aub:=by kernel_rfl
theorem A3j:(Aix (rfA Go.Proofs.Tryz.prog 67 0)&&Aix (rfB Go.Proofs.Tryz.prog 67 0))=true:=by kernel_rfl
noncomputable def f75:Aao:=by
 refine(fun(_:Cz Acj Ack Acl Acm Go.Proofs.Tryz.prog 0 [0,1,4,5,7,8,9,16] 75 ?a)=>?a) ?h
 case h=>
 intro zc zv zk zr hc hv hk hr
 conv=>lhs;cbv;try simp only[hc,hv,hk,hr,Acj,Ack,Acl,Acm]
theorem Bat:Aap Go.Proofs.Tryz.prog 0 [0,1,4,5,7,8,9,16] 75=some f75:=by kernel_rfl
theorem Bj3:Aaf Go.Proofs.Tryz.prog 75 2=true:=by kernel_rfl
noncomputable def f76:Aao:=by
 refine(fun(_:Cz Acj Ack Acl Acm Go.Proofs.Tryz.prog 0 [0,1,4,5,7,8,9,16] 76 ?a)=>?a) ?h
 case h=>
 intro zc zv zk zr hc hv hk hr
 conv=>lhs;cbv;try simp only[hc,hv,hk,hr,Acj,Ack,Acl,Acm]
theorem Bau:Aap Go.Proofs.Tryz.prog 0 [0,1,4,5,7,8,9,16] 76=some f76:=by kernel_rfl
theorem Bj4:Aaf Go.Proofs.Tryz.prog 76 2=true:=by kernel_rfl
noncomputable def Bnl:Aao:=by
 refine(fun(_:Cz Acj Ack Acl Acm Go.Proofs.Tryz.prog 0 [0,1,2,3,4,6,7,8,9,16,23,24,25,26,30,31,32,41] 118 ?a)=>?a) ?h
 case h=>
 intro zc zv zk zr hc hv hk hr
 conv=>lhs;cbv;try simp only[hc,hv,hk,hr,Acj,Ack,Acl,Acm]
theorem A3k:Aap Go.Proofs.Tryz.prog 0 [0,1,2,3,4,6,7,8,9,16,23,24,25,26,30,31,32,41] 118=some Bnl:=by kernel_rfl
theorem Bav:Aaf Go.Proofs.Tryz.prog 118 1=true:=by kernel_rfl
noncomputable def f97:Aao:=by
 refine(fun(_:Cz Acj Ack Acl Acm Go.Proofs.Tryz.prog 0 [0,1,3,4,5,6,7,8,9,10,18] 97 ?a)=>?a) ?h
 case h=>
 intro zc zv zk zr hc hv hk hr
 conv=>lhs;cbv;try simp only[hc,hv,hk,hr,Acj,Ack,Acl,Acm]
theorem Baw:Aap Go.Proofs.Tryz.prog 0 [0,1,3,4,5,6,7,8,9,10,18] 97=some f97:=by kernel_rfl
theorem Bj5:Aaf Go.Proofs.Tryz.prog 97 2=true:=by kernel_rfl
noncomputable def f98:Aao:=by
 refine(fun(_:Cz Acj Ack Acl Acm Go.Proofs.Tryz.prog 0 [0,2] 98 ?a)=>?a) ?h
 case h=>
 intro zc zv zk zr hc hv hk hr
 conv=>lhs;cbv;try simp only[hc,hv,hk,hr,Acj,Ack,Acl,Acm]
theorem Bax:Aap Go.Proofs.Tryz.prog 0 [0,2] 98=some f98:=by kernel_rfl
theorem Bj6:Aaf Go.Proofs.Tryz.prog 98 1=true:=by kernel_rfl
noncomputable def f99:Aao:=by
 refine(fun(_:Cz Acj Ack Acl Acm Go.Proofs.Tryz.prog 0 [0,1,4] 99 ?a)=>?a) ?h
 case h=>
 intro zc zv zk zr hc hv hk hr
 conv=>lhs;cbv;try simp only[hc,hv,hk,hr,Acj,Ack,Acl,Acm]
theorem Bay:Aap Go.Proofs.Tryz.prog 0 [0,1,4] 99=some f99:=by kernel_rfl
theorem Bj7:Aaf Go.Proofs.Tryz.prog 99 2=true:=by kernel_rfl
noncomputable def Bnm:Aao:=by
 refine(fun(_:Cz Acj Ack Acl Acm Go.Proofs.Tryz.prog 0 [0,1,3,4,5,6,7,8,9,10,18] 100 ?a)=>?a) ?h
 case h=>
 intro zc zv zk zr hc hv hk hr
 conv=>lhs;cbv;try simp only[hc,hv,hk,hr,Acj,Ack,Acl,Acm]
theorem A3l:Aap Go.Proofs.Tryz.prog 0 [0,1,3,4,5,6,7,8,9,10,18] 100=some Bnm:=by kernel_rfl
theorem Baz:Aaf Go.Proofs.Tryz.prog 100 2=true:=by kernel_rfl
noncomputable def Bnn:Aao:=by
 refine(fun(_:Cz Acj Ack Acl Acm Go.Proofs.Tryz.prog 0 [0,1,2] 101 ?a)=>?a) ?h
 case h=>
 intro zc zv zk zr hc hv hk hr
 conv=>lhs;cbv;try simp only[hc,hv,hk,hr,Acj,Ack,Acl,Acm]
theorem A3m:Aap Go.Proofs.Tryz.prog 0 [0,1,2] 101=some Bnn:=by kernel_rfl
theorem Ba0:Aaf Go.Proofs.Tryz.prog 101 1=true:=by kernel_rfl
noncomputable def Bno:Aao:=by
 refine(fun(_:Cz Acj Ack Acl Acm Go.Proofs.Tryz.prog 0 [0,1,3,4] 102 ?a)=>?a) ?h
 case h=>
 intro zc zv zk zr hc hv hk hr
 conv=>lhs;cbv;try simp only[hc,hv,hk,hr,Acj,Ack,Acl,Acm]
theorem A3n:Aap Go.Proofs.Tryz.prog 0 [0,1,3,4] 102=some Bno:=by kernel_rfl
theorem Ba1:Aaf Go.Proofs.Tryz.prog 102 2=true:=by kernel_rfl
noncomputable def Bj8:Aao:=by
 refine(fun(_:Cz Acj Ack Acl Acm Go.Proofs.Tryz.prog 0 [0,1,4,6,16] 103 ?a)=>?a) ?h
 case h=>
 intro zc zv zk zr hc hv hk hr
 conv=>lhs;cbv;try simp only[hc,hv,hk,hr,Acj,Ack,Acl,Acm]
theorem A3o:Aap Go.Proofs.Tryz.prog 0 [0,1,4,6,16] 103=some Bj8:=by kernel_rfl
theorem Ba2:Aaf Go.Proofs.Tryz.prog 103 2=true:=by kernel_rfl
noncomputable def Bj9:Aao:=by
 refine(fun(_:Cz Acj Ack Acl Acm Go.Proofs.Tryz.prog 0 [0,1,4,6,16] 104 ?a)=>?a) ?h
 case h=>
 intro zc zv zk zr hc hv hk hr
 conv=>lhs;cbv;try simp only[hc,hv,hk,hr,Acj,Ack,Acl,Acm]
theorem A3p:Aap Go.Proofs.Tryz.prog 0 [0,1,4,6,16] 104=some Bj9:=by kernel_rfl
theorem Ba3:Aaf Go.Proofs.Tryz.prog 104 2=true:=by kernel_rfl
noncomputable def Bnp:Aao:=by
 refine(fun(_:Cz Acj Ack Acl Acm Go.Proofs.Tryz.prog 0 [0,1,2,3,4,5,6] 105 ?a)=>?a) ?h
 case h=>
 intro zc zv zk zr hc hv hk hr
 conv=>lhs;cbv;try simp only[hc,hv,hk,hr,Acj,Ack,Acl,Acm]
theorem A3q:Aap Go.Proofs.Tryz.prog 0 [0,1,2,3,4,5,6] 105=some Bnp:=by kernel_rfl
theorem Ba4:Aaf Go.Proofs.Tryz.prog 105 3=true:=by kernel_rfl
noncomputable def Bnq:Aao:=by
 refine(fun(_:Cz Acj Ack Acl Acm Go.Proofs.Tryz.prog 0 [0,1,2,4] 123 ?a)=>?a) ?h
 case h=>
 intro zc zv zk zr hc hv hk hr
 conv=>lhs;cbv;try simp only[hc,hv,hk,hr,Acj,Ack,Acl,Acm]
theorem A3r:Aap Go.Proofs.Tryz.prog 0 [0,1,2,4] 123=some Bnq:=by kernel_rfl
theorem Ba5:Aaf Go.Proofs.Tryz.prog 123 3=true:=by kernel_rfl
noncomputable def Bnr:Aao:=by
 refine(fun(_:Cz Acj Ack Acl Acm Go.Proofs.Tryz.prog 0 [0,1,4,5,7,8,9,16] 124 ?a)=>?a) ?h
 case h=>
 intro zc zv zk zr hc hv hk hr
 conv=>lhs;cbv;try simp only[hc,hv,hk,hr,Acj,Ack,Acl,Acm]
theorem A3t:Aap Go.Proofs.Tryz.prog 0 [0,1,4,5,7,8,9,16] 124=some Bnr:=by kernel_rfl
theorem Ba6:Aaf Go.Proofs.Tryz.prog 124 2=true:=by kernel_rfl
noncomputable def Bns:Aao:=by
 refine(fun(_:Cz Acj Ack Acl Acm Go.Proofs.Tryz.prog 0 [0,1,2,3,4] 125 ?a)=>?a) ?h
 case h=>
 intro zc zv zk zr hc hv hk hr
 conv=>lhs;cbv;try simp only[hc,hv,hk,hr,Acj,Ack,Acl,Acm]
theorem A3u:Aap Go.Proofs.Tryz.prog 0 [0,1,2,3,4] 125=some Bns:=by kernel_rfl
theorem Ba7:Aaf Go.Proofs.Tryz.prog 125 3=true:=by kernel_rfl
noncomputable def Bnt:Aao:=by
 refine(fun(_:Cz Acj Ack Acl Acm Go.Proofs.Tryz.prog 0 [0,1,2,3] 126 ?a)=>?a) ?h
 case h=>
 intro zc zv zk zr hc hv hk hr
 conv=>lhs;cbv;try simp only[hc,hv,hk,hr,Acj,Ack,Acl,Acm]
theorem A3v:Aap Go.Proofs.Tryz.prog 0 [0,1,2,3] 126=some Bnt:=by kernel_rfl
theorem Ba8:Aaf Go.Proofs.Tryz.prog 126 2=true:=by kernel_rfl
noncomputable def Bnu:Aao:=by
 refine(fun(_:Cz Acj Ack Acl Acm Go.Proofs.Tryz.prog 0 [0,1,2,3,5,6,8,9,10,11,12,13,14,15,16,17,18,26,31,32,33,34,42,49,50,51,52,105] 127 ?a)=>?a) ?h
 case h=>
 intro zc zv zk zr hc hv hk hr
 conv=>lhs;cbv;try simp only[hc,hv,hk,hr,Acj,Ack,Acl,Acm]
theorem A3w:Aap Go.Proofs.Tryz.prog 0 [0,1,2,3,5,6,8,9,10,11,12,13,14,15,16,17,18,26,31,32,33,34,42,49,50,51,52,105] 127=some Bnu:=by kernel_rfl
theorem Ba9:Aaf Go.Proofs.Tryz.prog 127 4=true:=by kernel_rfl
noncomputable def Bnv:Aao:=by
 refine(fun(_:Cz Acj Ack Acl Acm Go.Proofs.Tryz.prog 0 [0,1,2,3,5,9,10,11] 128 ?a)=>?a) ?h
 case h=>
 intro zc zv zk zr hc hv hk hr
 have e0A:=(rfl:rfA Go.Proofs.Tryz.prog 128 0=rfA Go.Proofs.Tryz.prog 128 0);conv at e0A=>rhs;cbv
 have e0B:=(rfl:rfB Go.Proofs.Tryz.prog 128 0=rfB Go.Proofs.Tryz.prog 128 0);conv at e0B=>rhs;cbv
 conv=>lhs;cbv;try simp only[hc,hv,hk,hr,Acj,Ack,Acl,Acm];simp only[←e0A,←e0B]
theorem A3x:Aap Go.Proofs.Tryz.prog 0 [0,1,2,3,5,9,10,11] 128=some Bnv:=by kernel_rfl
theorem Bba:Aaf Go.Proofs.Tryz.prog 128 1=true:=by kernel_rfl
noncomputable def Aon:Abw:=by
 refine(fun(_:CzC Acj Ack Acl Acm Go.Proofs.Tryz.prog 0 18 [0,1,2,3,5,9,10,11] (rfA Go.Proofs.Tryz.prog 128 0) ?a)=>?a) ?h
 case h=>intro zc zv zk zr hc hv hk hr;conv=>lhs;cbv;try simp only[hc,hv,hk,hr,Acj,Ack,Acl,Acm]
theorem Aq1:Acw Go.Proofs.Tryz.prog 0 18 [0,1,2,3,5,9,10,11] (rfA Go.Proofs.Tryz.prog 128 0)=some Aon:=by kernel_rfl
noncomputable def Aud:Abw:=by
 refine(fun(_:CzC Acj Ack Acl Acm Go.Proofs.Tryz.prog 0 18 [0,1,2,3,5,9,10,11] (rfB Go.Proofs.Tryz.prog 128 0) ?a)=>?a) ?h
 case h=>intro zc zv zk zr hc hv hk hr;conv=>lhs;cbv;try simp only[hc,hv,hk,hr,Acj,Ack,Acl,Acm]
theorem Aq2:Acw Go.Proofs.Tryz.prog 0 18 [0,1,2,3,5,9,10,11] (rfB Go.Proofs.Tryz.prog 128 0)=some Aud:=by kernel_rfl
theorem Axy:(Aix (rfA Go.Proofs.Tryz.prog 128 0)&&Aix (rfB Go.Proofs.Tryz.prog 128 0))=true:=by kernel_rfl
noncomputable def Bnw:Aao:=by
 refine(fun(_:Cz Acj Ack Acl Acm Go.Proofs.Tryz.prog 0 [0,1,2] 138 ?a)=>?a) ?h
 case h=>
 intro zc zv zk zr hc hv hk hr
 conv=>lhs;cbv;try simp only[hc,hv,hk,hr,Acj,Ack,Acl,Acm]
theorem A3y:Aap Go.Proofs.Tryz.prog 0 [0,1,2] 138=some Bnw:=by kernel_rfl
theorem Bbb:Aaf Go.Proofs.Tryz.prog 138 1=true:=by kernel_rfl
noncomputable def Bnx:Aao:=by
 refine(fun(_:Cz Acj Ack Acl Acm Go.Proofs.Tryz.prog 0 [0,1,3,8,18] 139 ?a)=>?a) ?h
 case h=>
 intro zc zv zk zr hc hv hk hr
 conv=>lhs;cbv;try simp only[hc,hv,hk,hr,Acj,Ack,Acl,Acm]
theorem A3z:Aap Go.Proofs.Tryz.prog 0 [0,1,3,8,18] 139=some Bnx:=by kernel_rfl
theorem Bbc:Aaf Go.Proofs.Tryz.prog 139 2=true:=by kernel_rfl
end Go.AM.F

namespace Go.AM.Fd
open Nat (reduceAdd reduceEqDiff reduceLT reduceLeDiff reduceMul reduceSub)
open Go.Proofs Go.AM.F
def WRr(H:Aaa)(e esz:Nat)(v:Value)(rows:List (List Value)):Prop:=WR H e esz v rows.length rows.flatten∧∀r∈rows,r.length=esz
theorem WRr.sl{H:Aaa}{e esz:Nat}{v:Value}{rows:List (List Value)}(h:WRr H e esz v rows):Sl H esz v rows:=h.1.sl h.2 rfl
theorem WRr.keeps{H K:Aaa}{e esz:Nat}{v:Value}{rows:List (List Value)}(h:WRr H e esz v rows)(k:Aac H K):WRr K e esz v rows:=⟨h.1.keeps k,h.2⟩
theorem WRr.pre{H:Aaa}{e esz:Nat}{v:Value}{rows:List (List Value)}(h:WRr H e esz v rows){kd:IntKind}{i:Nat}(hi:i≤rows.length):∃w,Aam (.slsl esz v none (some (.int kd (i:Nat))) none) H=some (w,H)∧Sl H esz w (rows.take i):=by
 have hr:∀r∈rows.take i,r.length=esz:=fun r hm=>h.2 r (List.mem_of_mem_take hm)
 rcases h.1 with⟨rfl,h1,h2⟩|⟨b,k,room,d,rfl,h1,h2,h3,h4⟩
 ·have:rows=[]:=List.eq_nil_of_length_eq_zero h1
  subst this
  have:i=0:=by simpa using hi
  subst this
  exact⟨_,Ad4 ⟨0,0,0,Abg 0 0,Adf kd 0 0 0 (Nat.le_refl _),Abg 0 0⟩,Sl.nil _ _⟩
 ·refine⟨_,Am6 h4 (Abg _ _) (Adf kd i rows.length k (by omega)) (Abg 0 i),⟨⟨_,_,by rw[List.length_take,Nat.min_eq_left hi,Nat.sub_zero];rfl⟩,hr,?_⟩⟩
  have hle:i*esz≤k*esz:=Nat.mul_le_mul_right _ (by omega)
  have hle2:i*esz≤rows.length*esz:=Nat.mul_le_mul_right _ hi
  simp only[Aa6,slc,h4,Nat.zero_mul,Nat.add_zero,Nat.zero_add,Nat.sub_zero]
  rw[if_pos (by omega),List.drop_zero]
  congr 1
  have e:rows.flatten=(rows.take i).flatten++(rows.drop i).flatten:=by rw[←List.flatten_append,List.take_append_drop]
  have hl:(rows.take i).flatten.length=i*esz:=by rw[Aco hr,List.length_take,Nat.min_eq_left hi]
  have e2:d.take (i*esz)=(d.take (rows.length*esz)).take (i*esz):=by rw[List.take_take,Nat.min_eq_left hle2]
  rw[e2,h3,e,←hl,List.take_left]
theorem t103(H:Aaa)(n:Nat)(hn:n≤1000000):∃w H',Aau Tryz.prog 0 103 [.slice none 0 0,.int .i64 (n:Nat)] H w H'∧WR H' 3 1 w 0 []∧Aac H H'∧Acy H.n w:=by
 refine Aaq A3o Ba2 ?_
 intro Q hq1 hq2
 have h0:¬((n:Nat):Int)<0:=by omega
 have hw0:IntKind.i64.wrap (0-((0:Nat):Int))=0:=rfl
 have hw:IntKind.i64.wrap ((n:Int)-0)=(n:Nat):=by rw[Aae (by omega) (by omega)];omega
 have hs:=Ad4 (H:=H) (esz:=1) (lo:=none) (hi:=some (.int .i64 0)) (mx:=none) ⟨0,0,0,Abg 0 0,Adf .i64 0 0 0 (Nat.le_refl _),Abg 0 0⟩
 by_cases hz:n=0
 ·subst hz
  have h1:¬(0:Int)<((0:Nat):Int):=by omega
  simp(disch:=first|assumption|omega|(simp only[LN]<;>omega)|(simp(disch:=first|assumption|omega|(simp only[LN]<;>omega))only[Aab,Aad];assumption))only[Bj8,Aah,P3,↓reduceIte,reduceAdd,reduceEqDiff,reduceCtorEq,Aak,reduceLT,Aat,reduceLeDiff,reduceMul,reduceSub,reduceIte,Apf,Al0,hw0,hw,Apg,lenS]
  exact hq2 _ _ ⟨.slice none 0 0,rfl,.inl ⟨rfl,rfl,rfl⟩,Aac.refl _,fun b hb=>by cases hb⟩
 ·have h1:(0:Int)<((n:Nat):Int):=by omega
  have hlen:(List.replicate n [Value.int .i64 0]).flatten.length=n*1:=by simp
  have ha:Aam (.appz 3 1 8 [Value.int .i64 0] (.slice none 0 0) (.int .i64 (n:Nat))) H=some (slc H.n 0 n n,H.alloc (.cells true true 1 (List.replicate n [Value.int .i64 0]).flatten 3)):=by
   simp only[Aam,Int.toNat_natCast,Alm,if_neg hz]
   rw[if_pos (by omega)]
   simp only[and_self,if_true]
   rw[if_pos (by omega)]
  have hs2:=Am6 (Aaa.Bp6 H (.cells true true 1 (List.replicate n [Value.int .i64 0]).flatten 3)) (o:=0) (n:=n) (k:=n) (lo:=none) (hi:=some (.int .i64 (0:Nat))) (mx:=none) (Abg _ _) (Adf .i64 0 n n (by omega)) (Abg 0 0)
  simp only[slc]at ha hs2
  simp(disch:=first|assumption|omega|(simp only[LN]<;>omega)|(simp(disch:=first|assumption|omega|(simp only[LN]<;>omega))only[Aab,Aad];assumption))only[Bj8,Aah,P3,↓reduceIte,reduceAdd,reduceEqDiff,reduceCtorEq,Aak,reduceLT,Aat,reduceLeDiff,reduceMul,reduceSub,reduceIte,Apf,Al0,hw0,hw,Apg,lenS,hs,ha,hs2]
  exact hq2 _ _ ⟨slc H.n 0 0 n,rfl,.inr ⟨H.n,n,true,_,rfl,Nat.zero_le _,hlen,by simp,Aaa.Bp6 H _⟩,(Aac.refl H).alloc _,fun b hb=>by cases hb;exact Nat.le_refl _⟩
theorem t65{H:Aaa}{V:Value}{vs:List (Value×List (List Value))}(hV:Sl H 1 V (vs.map fun x=>[x.1]))(hx:∀x∈vs,Sl H 1 x.1 x.2)(hl:vs.length≤1000)(hT:(vs.map (·.2.length)).sum≤1000000):
 ∃w H',Aau Tryz.prog 0 65 [V] H w H'∧WRr H' 3 1 w (vs.map (·.2)).flatten∧Aac H H'∧Acy H.n w:=by
 refine Aaq Baq Bj0 ?_
 intro Q hq1 hq2
 have iV:=Sl.is hV
 have lV:lenS V=vs.length:=by have:=Sl.len hV;simpa using this
 have el:∀{i:Nat} (hi:i<vs.length) {K:Aaa},Aac H K→nnS V=true∧Afp K 1 V i=some [vs[i].1]:=fun{i} hi {K} k=>by
  have:=Sl.at_ (hV.keeps k) (by omega) (i:=i) (by simpa using hi)
  simpa using this
 have tk:∀{i:Nat} (hi:i<vs.length),((vs.take (i+1)).map (·.2.length)).sum=((vs.take i).map (·.2.length)).sum+vs[i].2.length:=fun{i} hi=>by
  rw[List.take_succ_eq_append_getElem hi,List.map_append,List.sum_append];simp
 have tle:∀i,((vs.take i).map (·.2.length)).sum≤1000000:=fun i=>by
  have:vs=vs.take i++vs.drop i:=(List.take_append_drop i vs).symm
  rw[this,List.map_append,List.sum_append]at hT;omega
 simp(disch:=first|assumption|omega)only[f65,P3,seval,Aak,Aat,lV]
 rw[Aah]
 refine Aan (fun k fr K=>∃i x3 x9 x10,fr=[V,.slice none 0 0,.int .i64 (((vs.take i).map (·.2.length)).sum:Nat),x3,undef,undef,V,.int .i64 ((vs.length:Nat):Int),.int .i64 ((i:Nat):Int),x9,x10,undef,undef,undef,undef]∧K=H∧i≤vs.length∧k=vs.length-i) vs.length
  ⟨0,_,_,_,rfl,rfl,by omega,rfl⟩ ?_
 rintro Q' k fr K0 ⟨i,x3,x9,x10,rfl,rfl,hi,rfl⟩ hn hx1 hret
 by_cases hlt:i<vs.length
 ·obtain⟨na,ra⟩:=el hlt (Aac.refl _)
  have h0:(0:Int)≤(i:Int):=by omega
  have h1:(i:Int)<((vs.length:Nat):Int):=by omega
  have hw:IntKind.i64.wrap ((i:Int)+1)=((i+1:Nat):Int):=by rw[Aae (by omega) (by omega)];simp
  have lx:lenS vs[i].1 =vs[i].2.length:=Sl.len (hx _ (List.getElem_mem _))
  have ix:=Sl.is (hx _ (List.getElem_mem hlt))
  have hs:IntKind.i64.wrap ((((vs.take i).map (·.2.length)).sum:Nat)+(vs[i].2.length:Nat):Int)=((((vs.take (i+1)).map (·.2.length)).sum:Nat):Int):=by
   have:=tle (i+1);have:=tk hlt
   rw[Aae (by omega) (by omega)];omega
  have hneg:¬((((vs.take (i+1)).map (·.2.length)).sum:Nat):Int)<0:=by omega
  simp(disch:=first|assumption|omega)only[P4,seval,lV,ra,na,Aal,hw,lx,hs]
  exact hn _ _ _ ⟨i+1,_,_,_,rfl,rfl,by omega,rfl⟩ (by omega)
 ·have h1:¬(i:Int)<((vs.length:Nat):Int):=by omega
  have:i=vs.length:=by omega
  subst this
  simp(disch:=first|assumption|omega)only[P4,seval,lV]
  refine hx1 0 _ _ ?_
  simp(disch:=first|assumption|omega)only[P3,seval,Aak,Aat]
  refine Aag (t103 _ _ (tle _)) ?_
  rintro w K ⟨wr,kk,fw⟩
  simp(disch:=first|assumption|omega)only[P3,seval,Aak,Aat,lV]
  rw[Aah]
  refine Aan (fun k fr M=>∃i w x3 x5 x9 x10 x14,fr=[V,.slice none 0 0,.int .i64 (((vs.take vs.length).map (·.2.length)).sum:Nat),x3,w,x5,V,.int .i64 ((vs.length:Nat):Int),.int .i64 ((vs.length:Nat):Int),x9,x10,V,.int .i64 ((vs.length:Nat):Int),.int .i64 ((i:Nat):Int),x14]∧
   WR M 3 1 w ((vs.take i).map (·.2.length)).sum ((vs.take i).map (·.2)).flatten.flatten∧Aac K0 M∧Acy K0.n w∧i≤vs.length∧k=vs.length-i) vs.length
   ⟨0,w,_,_,_,_,_,rfl,wr,kk,fw,by omega,rfl⟩ ?_
  clear wr kk fw w K
  rintro Q2 k fr M ⟨i,w,x3,x5,x9,x10,x14,rfl,wr,kk,fw,hi,rfl⟩ hn2 hx2 hret2
  by_cases hlt:i<vs.length
  ·obtain⟨na,ra⟩:=el hlt kk
   have h0:(0:Int)≤(i:Int):=by omega
   have h1:(i:Int)<((vs.length:Nat):Int):=by omega
   have hw:IntKind.i64.wrap ((i:Int)+1)=((i+1:Nat):Int):=by rw[Aae (by omega) (by omega)];simp
   have sx:=(hx _ (List.getElem_mem hlt)).keeps kk
   have iw:=wr.is
   have t1:=tk hlt
   have t2:=tle (i+1)
   simp(disch:=first|assumption|omega)only[P4,seval,lV,ra,na,Aal]
   refine wr.appR (bytes:=8) sx.sh sx.el (Aco sx.row) (by omega) ?_
   intro w' M' wr' c' hb'
   simp(disch:=first|assumption|omega)only[P4,seval,hw]
   refine hn2 _ _ _ ⟨i+1,w',_,_,_,_,_,rfl,?_,kk.Bqa c' (fun x hx=>fw x (Abo.1 hx)),fun b hb=>?_,by omega,rfl⟩ (by omega)
   ·rw[t1]
    have e:((vs.take (i+1)).map (·.2)).flatten.flatten=((vs.take i).map (·.2)).flatten.flatten++vs[i].2.flatten:=by
     rw[List.take_succ_eq_append_getElem hlt,List.map_append,List.flatten_append,List.flatten_append];simp
    rw[e];exact wr'
   ·rcases hb' with e|e
    ·exact fw b (by rw[←e];exact hb)
    ·rw[e]at hb;cases hb;exact kk.n
  ·have h1:¬(i:Int)<((vs.length:Nat):Int):=by omega
   have:i=vs.length:=by omega
   subst this
   simp(disch:=first|assumption|omega)only[P4,seval,lV]
   refine hx2 2 _ _ ?_
   simp(disch:=first|assumption|omega)only[P4,seval]
   refine hq2 _ _ ⟨_,rfl,?_,kk,fw⟩
   rw[List.take_length]at wr
   refine⟨?_,fun r hr=>?_⟩
   ·have e:(vs.map (·.2)).flatten.length=(vs.map (·.2.length)).sum:=by simp[List.length_flatten,List.map_map,Function.comp_def]
    rw[e];exact wr
   ·obtain⟨l,hl,hm⟩:=List.mem_flatten.1 hr
    obtain⟨x,hxm,rfl⟩:=List.mem_map.1 hl
    exact(hx x hxm).row r hm
theorem t104(H:Aaa)(n:Nat)(hn:n≤1000000):∃w H',Aau Tryz.prog 0 104 [.slice none 0 0,.int .i64 (n:Nat)] H w H'∧WR H' 120 2 w 0 []∧Aac H H'∧Acy H.n w:=by
 refine Aaq A3p Ba3 ?_
 intro Q hq1 hq2
 have h0:¬((n:Nat):Int)<0:=by omega
 have hw0:IntKind.i64.wrap (0-((0:Nat):Int))=0:=rfl
 have hw:IntKind.i64.wrap ((n:Int)-0)=(n:Nat):=by rw[Aae (by omega) (by omega)];omega
 have hs:=Ad4 (H:=H) (esz:=2) (lo:=none) (hi:=some (.int .i64 0)) (mx:=none) ⟨0,0,0,Abg 0 0,Adf .i64 0 0 0 (Nat.le_refl _),Abg 0 0⟩
 by_cases hz:n=0
 ·subst hz
  have h1:¬(0:Int)<((0:Nat):Int):=by omega
  simp(disch:=first|assumption|omega|(simp only[LN]<;>omega)|(simp(disch:=first|assumption|omega|(simp only[LN]<;>omega))only[Aab,Aad];assumption))only[Bj9,Aah,P3,↓reduceIte,reduceAdd,reduceEqDiff,reduceCtorEq,Aak,reduceLT,Aat,reduceLeDiff,reduceMul,reduceSub,reduceIte,Apf,Al0,hw0,hw,Apg,lenS]
  exact hq2 _ _ ⟨.slice none 0 0,rfl,.inl ⟨rfl,rfl,rfl⟩,Aac.refl _,fun b hb=>by cases hb⟩
 ·have h1:(0:Int)<((n:Nat):Int):=by omega
  have hlen:(List.replicate n [Value.int .i64 0,Value.bool false]).flatten.length=n*2:=by simp
  have ha:Aam (.appz 120 2 16 [Value.int .i64 0,Value.bool false] (.slice none 0 0) (.int .i64 (n:Nat))) H=some (slc H.n 0 n n,H.alloc (.cells true true 2 (List.replicate n [Value.int .i64 0,Value.bool false]).flatten 120)):=by
   simp only[Aam,Int.toNat_natCast,Alm,if_neg hz]
   rw[if_pos (by omega)]
   simp only[and_self,if_true]
   rw[if_pos (by omega)]
  have hs2:=Am6 (Aaa.Bp6 H (.cells true true 2 (List.replicate n [Value.int .i64 0,Value.bool false]).flatten 120)) (o:=0) (n:=n) (k:=n) (lo:=none) (hi:=some (.int .i64 (0:Nat))) (mx:=none) (Abg _ _) (Adf .i64 0 n n (by omega)) (Abg 0 0)
  simp only[slc]at ha hs2
  simp(disch:=first|assumption|omega|(simp only[LN]<;>omega)|(simp(disch:=first|assumption|omega|(simp only[LN]<;>omega))only[Aab,Aad];assumption))only[Bj9,Aah,P3,↓reduceIte,reduceAdd,reduceEqDiff,reduceCtorEq,Aak,reduceLT,Aat,reduceLeDiff,reduceMul,reduceSub,reduceIte,Apf,Al0,hw0,hw,Apg,lenS,hs,ha,hs2]
  exact hq2 _ _ ⟨slc H.n 0 0 n,rfl,.inr ⟨H.n,n,true,_,rfl,Nat.zero_le _,hlen,by simp,Aaa.Bp6 H _⟩,(Aac.refl H).alloc _,fun b hb=>by cases hb;exact Nat.le_refl _⟩
theorem t66{H:Aaa}{V:Value}{vs:List (Value×List (List Value))}(hV:Sl H 1 V (vs.map fun x=>[x.1]))(hx:∀x∈vs,Sl H 2 x.1 x.2)(hl:vs.length≤1000)(hT:(vs.map (·.2.length)).sum≤1000000):
 ∃w H',Aau Tryz.prog 0 66 [V] H w H'∧WRr H' 120 2 w (vs.map (·.2)).flatten∧Aac H H'∧Acy H.n w:=by
 refine Aaq Bar Bj1 ?_
 intro Q hq1 hq2
 have iV:=Sl.is hV
 have lV:lenS V=vs.length:=by have:=Sl.len hV;simpa using this
 have el:∀{i:Nat} (hi:i<vs.length) {K:Aaa},Aac H K→nnS V=true∧Afp K 1 V i=some [vs[i].1]:=fun{i} hi {K} k=>by
  have:=Sl.at_ (hV.keeps k) (by omega) (i:=i) (by simpa using hi)
  simpa using this
 have tk:∀{i:Nat} (hi:i<vs.length),((vs.take (i+1)).map (·.2.length)).sum=((vs.take i).map (·.2.length)).sum+vs[i].2.length:=fun{i} hi=>by
  rw[List.take_succ_eq_append_getElem hi,List.map_append,List.sum_append];simp
 have tle:∀i,((vs.take i).map (·.2.length)).sum≤1000000:=fun i=>by
  have:vs=vs.take i++vs.drop i:=(List.take_append_drop i vs).symm
  rw[this,List.map_append,List.sum_append]at hT;omega
 simp(disch:=first|assumption|omega)only[f66,P3,seval,Aak,Aat,lV]
 rw[Aah]
 refine Aan (fun k fr K=>∃i x3 x9 x10,fr=[V,.slice none 0 0,.int .i64 (((vs.take i).map (·.2.length)).sum:Nat),x3,undef,undef,V,.int .i64 ((vs.length:Nat):Int),.int .i64 ((i:Nat):Int),x9,x10,undef,undef,undef,undef]∧K=H∧i≤vs.length∧k=vs.length-i) vs.length
  ⟨0,_,_,_,rfl,rfl,by omega,rfl⟩ ?_
 rintro Q' k fr K0 ⟨i,x3,x9,x10,rfl,rfl,hi,rfl⟩ hn hx1 hret
 by_cases hlt:i<vs.length
 ·obtain⟨na,ra⟩:=el hlt (Aac.refl _)
  have h0:(0:Int)≤(i:Int):=by omega
  have h1:(i:Int)<((vs.length:Nat):Int):=by omega
  have hw:IntKind.i64.wrap ((i:Int)+1)=((i+1:Nat):Int):=by rw[Aae (by omega) (by omega)];simp
  have lx:lenS vs[i].1 =vs[i].2.length:=Sl.len (hx _ (List.getElem_mem _))
  have ix:=Sl.is (hx _ (List.getElem_mem hlt))
  have hs:IntKind.i64.wrap ((((vs.take i).map (·.2.length)).sum:Nat)+(vs[i].2.length:Nat):Int)=((((vs.take (i+1)).map (·.2.length)).sum:Nat):Int):=by
   have:=tle (i+1);have:=tk hlt
   rw[Aae (by omega) (by omega)];omega
  have hneg:¬((((vs.take (i+1)).map (·.2.length)).sum:Nat):Int)<0:=by omega
  simp(disch:=first|assumption|omega)only[P4,seval,lV,ra,na,Aal,hw,lx,hs]
  exact hn _ _ _ ⟨i+1,_,_,_,rfl,rfl,by omega,rfl⟩ (by omega)
 ·have h1:¬(i:Int)<((vs.length:Nat):Int):=by omega
  have:i=vs.length:=by omega
  subst this
  simp(disch:=first|assumption|omega)only[P4,seval,lV]
  refine hx1 0 _ _ ?_
  simp(disch:=first|assumption|omega)only[P3,seval,Aak,Aat]
  refine Aag (t104 _ _ (tle _)) ?_
  rintro w K ⟨wr,kk,fw⟩
  simp(disch:=first|assumption|omega)only[P3,seval,Aak,Aat,lV]
  rw[Aah]
  refine Aan (fun k fr M=>∃i w x3 x5 x9 x10 x14,fr=[V,.slice none 0 0,.int .i64 (((vs.take vs.length).map (·.2.length)).sum:Nat),x3,w,x5,V,.int .i64 ((vs.length:Nat):Int),.int .i64 ((vs.length:Nat):Int),x9,x10,V,.int .i64 ((vs.length:Nat):Int),.int .i64 ((i:Nat):Int),x14]∧
   WR M 120 2 w ((vs.take i).map (·.2.length)).sum ((vs.take i).map (·.2)).flatten.flatten∧Aac K0 M∧Acy K0.n w∧i≤vs.length∧k=vs.length-i) vs.length
   ⟨0,w,_,_,_,_,_,rfl,wr,kk,fw,by omega,rfl⟩ ?_
  clear wr kk fw w K
  rintro Q2 k fr M ⟨i,w,x3,x5,x9,x10,x14,rfl,wr,kk,fw,hi,rfl⟩ hn2 hx2 hret2
  by_cases hlt:i<vs.length
  ·obtain⟨na,ra⟩:=el hlt kk
   have h0:(0:Int)≤(i:Int):=by omega
   have h1:(i:Int)<((vs.length:Nat):Int):=by omega
   have hw:IntKind.i64.wrap ((i:Int)+1)=((i+1:Nat):Int):=by rw[Aae (by omega) (by omega)];simp
   have sx:=(hx _ (List.getElem_mem hlt)).keeps kk
   have iw:=wr.is
   have t1:=tk hlt
   have t2:=tle (i+1)
   simp(disch:=first|assumption|omega)only[P4,seval,lV,ra,na,Aal]
   refine wr.appR (bytes:=16) sx.sh sx.el (Aco sx.row) (by omega) ?_
   intro w' M' wr' c' hb'
   simp(disch:=first|assumption|omega)only[P4,seval,hw]
   refine hn2 _ _ _ ⟨i+1,w',_,_,_,_,_,rfl,?_,kk.Bqa c' (fun x hx=>fw x (Abo.1 hx)),fun b hb=>?_,by omega,rfl⟩ (by omega)
   ·rw[t1]
    have e:((vs.take (i+1)).map (·.2)).flatten.flatten=((vs.take i).map (·.2)).flatten.flatten++vs[i].2.flatten:=by
     rw[List.take_succ_eq_append_getElem hlt,List.map_append,List.flatten_append,List.flatten_append];simp
    rw[e];exact wr'
   ·rcases hb' with e|e
    ·exact fw b (by rw[←e];exact hb)
    ·rw[e]at hb;cases hb;exact kk.n
  ·have h1:¬(i:Int)<((vs.length:Nat):Int):=by omega
   have:i=vs.length:=by omega
   subst this
   simp(disch:=first|assumption|omega)only[P4,seval,lV]
   refine hx2 2 _ _ ?_
   simp(disch:=first|assumption|omega)only[P4,seval]
   refine hq2 _ _ ⟨_,rfl,?_,kk,fw⟩
   rw[List.take_length]at wr
   refine⟨?_,fun r hr=>?_⟩
   ·have e:(vs.map (·.2)).flatten.length=(vs.map (·.2.length)).sum:=by simp[List.length_flatten,List.map_map,Function.comp_def]
    rw[e];exact wr
   ·obtain⟨l,hl,hm⟩:=List.mem_flatten.1 hr
    obtain⟨x,hxm,rfl⟩:=List.mem_map.1 hl
    exact(hx x hxm).row r hm
end Go.AM.Fd

namespace Go.AM.Fd
open Nat (reduceAdd reduceEqDiff reduceLT reduceLeDiff reduceMul reduceSub)
open Go.Proofs Go.AM.F
theorem t124{H:Aaa}{v:Value}{l:List Int}(h:IL H v l)(hl:l.length≤1000000)(x:Int):
 ∃w H',Aau Tryz.prog 0 124 [v,.int .i64 x] H w H'∧H'=H∧∃i:Int,w=.int .i64 i∧decide (0≤i)=l.contains x:=by
 refine Aaq A3t Ba6 ?_
 intro Q hq1 hq2
 have ia:=Sl.is h
 have la:=h.len
 simp(disch:=first|assumption|omega)only[Bnr,P3,seval,Aak,Aat,la]
 rw[Aah]
 refine Aan (fun k fr K=>∃i x3 x6 x7,fr=[v,.int .i64 x,.int .i64 0,x3,.int .i64 ((l.length:Nat):Int),.int .i64 ((i:Nat):Int),x6,x7]∧K=H∧i≤l.length∧(l.take i).contains x=false∧k=l.length-i) l.length
  ⟨0,_,_,_,rfl,rfl,by omega,by simp,rfl⟩ ?_
 rintro Q' k fr K ⟨i,x3,x6,x7,rfl,rfl,hi,hp,rfl⟩ hn hx hret
 by_cases hlt:i<l.length
 ·obtain⟨na,ra⟩:=h.at_ hlt
  have h0:(0:Int)≤(i:Int):=by omega
  have h1:(i:Int)<((lenS v:Nat):Int):=by omega
  have h3:(i:Int)<((l.length:Nat):Int):=by omega
  have hw:IntKind.i64.wrap ((i:Int)+1)=((i+1:Nat):Int):=by rw[Aae (by omega) (by omega)];simp
  have e1:l.getD i 0=l[i]:=by simp[List.getD,List.getElem?_eq_getElem hlt]
  have tk:x≠l[i]→(l.take (i+1)).contains x=false:=fun e=>by
   rw[List.take_succ_eq_append_getElem hlt]
   simp only[List.contains_eq_any_beq,List.any_append]at hp ⊢
   rw[hp];simpa using e
  have an:x=l[i]→l.contains x=true:=fun e=>by rw[e];simp
  rw[e1]at ra
  generalize l[i]=y at*
  by_cases hxy:x=y
  ·have e2:(x==y)=true:=by simpa using hxy
   simp(disch:=first|assumption|omega)only[P4,seval,la,ra,na,Aal,e2]
   exact hret _ _ (hq2 _ _ ⟨_,rfl,rfl,(i:Int),rfl,by rw[an hxy];simp⟩)
  ·have e2:(x==y)=false:=by simpa using hxy
   simp(disch:=first|assumption|omega)only[P4,seval,la,ra,na,Aal,e2,hw]
   exact hn _ _ _ ⟨i+1,_,_,_,rfl,rfl,by omega,tk hxy,rfl⟩ (by omega)
 ·have h3:¬(i:Int)<((l.length:Nat):Int):=by omega
  simp(disch:=first|assumption|omega)only[P4,seval,la]
  refine hx 0 _ _ ?_
  simp(disch:=first|assumption|omega)only[P4,seval]
  refine hq2 _ _ ⟨_,rfl,rfl,-1,rfl,?_⟩
  rw[List.take_of_length_le (by omega)]at hp
  rw[hp];rfl
theorem t99{H:Aaa}{v:Value}{l:List Int}(h:IL H v l)(hl:l.length≤1000000)(x:Int):
 ∃w H',Aau Tryz.prog 0 99 [v,.int .i64 x] H w H'∧w=.bool (l.contains x)∧H'=H:=by
 refine Aaq Bay Bj7 ?_
 intro Q hq1 hq2
 simp(disch:=first|assumption|omega)only[f99,P3,seval,Aak,Aat]
 refine Aag (t124 h hl x) ?_
 rintro _ _ ⟨rfl,i,rfl,hi⟩
 simp(disch:=first|assumption|omega)only[P4,seval]
 exact hq2 _ _ ⟨_,rfl,by rw[←hi];rfl,rfl⟩
theorem t75{H:Aaa}{v:Value}{l:List Int}(h:IL H v l)(hl:l.length≤1000000){g:FuncId}{fi ca:Array Value}{p:Int→Bool}
 (hF:∀x∈l,∃w K',Aau Tryz.prog 0 g (fi.toList++[Value.int .i64 x]++ca.toList) H w K'∧w=.bool (p x)∧K'=H):
 ∃w H',Aau Tryz.prog 0 75 [v,.func (.func g) fi ca] H w H'∧H'=H∧∃i:Int,w=.int .i64 i∧decide (0≤i)=l.any p:=by
 refine Aaq Bat Bj3 ?_
 intro Q hq1 hq2
 have ia:=Sl.is h
 have la:=h.len
 simp(disch:=first|assumption|omega)only[f75,P3,seval,Aak,Aat,la]
 rw[Aah]
 refine Aan (fun k fr K=>∃i x3 x6 x7,fr=[v,.func (.func g) fi ca,.int .i64 0,x3,.int .i64 ((l.length:Nat):Int),.int .i64 ((i:Nat):Int),x6,x7]∧K=H∧i≤l.length∧(l.take i).any p=false∧k=l.length-i) l.length
  ⟨0,_,_,_,rfl,rfl,by omega,by simp,rfl⟩ ?_
 rintro Q' k fr K ⟨i,x3,x6,x7,rfl,rfl,hi,hp,rfl⟩ hn hx hret
 by_cases hlt:i<l.length
 ·obtain⟨na,ra⟩:=h.at_ hlt
  have h0:(0:Int)≤(i:Int):=by omega
  have h1:(i:Int)<((lenS v:Nat):Int):=by omega
  have h3:(i:Int)<((l.length:Nat):Int):=by omega
  have hw:IntKind.i64.wrap ((i:Int)+1)=((i+1:Nat):Int):=by rw[Aae (by omega) (by omega)];simp
  have e1:l.getD i 0=l[i]:=by simp[List.getD,List.getElem?_eq_getElem hlt]
  have hf:=hF _ (List.getElem_mem hlt)
  have tk:(l.take (i+1)).any p=p l[i]:=by rw[List.take_succ_eq_append_getElem hlt,List.any_append,hp];simp
  have an:p l[i]=true→l.any p=true:=fun e=>List.any_eq_true.2 ⟨_,List.getElem_mem hlt,e⟩
  rw[e1]at ra
  generalize l[i]=x at*
  simp(disch:=first|assumption|omega)only[P4,seval,la,ra,na,Aal,Ag9,Adg,ia]
  refine Aag hf ?_
  rintro _ _ ⟨rfl,rfl⟩
  cases hpx:p x with
  |true=>
   simp(disch:=first|assumption|omega)only[P4,seval]
   exact hret _ _ (hq2 _ _ ⟨_,rfl,rfl,(i:Int),rfl,by rw[an hpx];simp⟩)
  |false=>
   simp(disch:=first|assumption|omega)only[P4,seval,hw]
   exact hn _ _ _ ⟨i+1,_,_,_,rfl,rfl,by omega,by rw[tk,hpx],rfl⟩ (by omega)
 ·have h3:¬(i:Int)<((l.length:Nat):Int):=by omega
  simp(disch:=first|assumption|omega)only[P4,seval,la]
  refine hx 0 _ _ ?_
  simp(disch:=first|assumption|omega)only[P4,seval]
  refine hq2 _ _ ⟨_,rfl,rfl,-1,rfl,?_⟩
  rw[List.take_of_length_le (by omega)]at hp
  rw[hp];rfl
theorem t43{H:Aaa}{v:Value}{l:List Int}(h:IL H v l)(hl:l.length≤1000000){g:FuncId}{fi ca:Array Value}{p:Int→Bool}
 (hF:∀x∈l,∃w K',Aau Tryz.prog 0 g (fi.toList++[Value.int .i64 x]++ca.toList) H w K'∧w=.bool (p x)∧K'=H):
 ∃w H',Aau Tryz.prog 0 43 [v,.func (.func g) fi ca] H w H'∧w=.bool (l.any p)∧H'=H:=by
 refine Aaq Bal Bjv ?_
 intro Q hq1 hq2
 simp(disch:=first|assumption|omega)only[f43,P3,seval,Aak,Aat]
 refine Aag (t75 h hl hF) ?_
 rintro _ _ ⟨rfl,i,rfl,hi⟩
 simp(disch:=first|assumption|omega)only[P4,seval]
 exact hq2 _ _ ⟨_,rfl,by rw[←hi];rfl,rfl⟩
theorem t76{H:Aaa}{v:Value}{l:List (Int×Bool)}(h:NL H v l)(hl:l.length≤1000000){g:FuncId}{fi ca:Array Value}{p:(Int×Bool)→Bool}
 (hF:∀x∈l,∃w K',Aau Tryz.prog 0 g (fi.toList++[Value.agg (Afq x).toArray]++ca.toList) H w K'∧w=.bool (p x)∧K'=H):
 ∃w H',Aau Tryz.prog 0 76 [v,.func (.func g) fi ca] H w H'∧H'=H∧∃i:Int,w=.int .i64 i∧decide (0≤i)=l.any p:=by
 refine Aaq Bau Bj4 ?_
 intro Q hq1 hq2
 have ia:=Sl.is h
 have la:=h.len
 simp(disch:=first|assumption|omega)only[f76,P3,seval,Aak,Aat,la]
 rw[Aah]
 refine Aan (fun k fr K=>∃i x3 x6 x7,fr=[v,.func (.func g) fi ca,.int .i64 0,x3,.int .i64 ((l.length:Nat):Int),.int .i64 ((i:Nat):Int),x6,x7]∧K=H∧i≤l.length∧(l.take i).any p=false∧k=l.length-i) l.length
  ⟨0,_,_,_,rfl,rfl,by omega,by simp,rfl⟩ ?_
 rintro Q' k fr K ⟨i,x3,x6,x7,rfl,rfl,hi,hp,rfl⟩ hn hx hret
 by_cases hlt:i<l.length
 ·obtain⟨na,ra⟩:=h.at_ hlt
  have h0:(0:Int)≤(i:Int):=by omega
  have h1:(i:Int)<((lenS v:Nat):Int):=by omega
  have h3:(i:Int)<((l.length:Nat):Int):=by omega
  have hw:IntKind.i64.wrap ((i:Int)+1)=((i+1:Nat):Int):=by rw[Aae (by omega) (by omega)];simp
  have e1:l.getD i (0,false)=l[i]:=by simp[List.getD,List.getElem?_eq_getElem hlt]
  have hf:=hF _ (List.getElem_mem hlt)
  have tk:(l.take (i+1)).any p=p l[i]:=by rw[List.take_succ_eq_append_getElem hlt,List.any_append,hp];simp
  have an:p l[i]=true→l.any p=true:=fun e=>List.any_eq_true.2 ⟨_,List.getElem_mem hlt,e⟩
  rw[e1]at ra
  generalize l[i]=x at*
  simp(disch:=first|assumption|omega)only[P4,seval,la,ra,na,Aal,Ag9,Adg,Afq]
  refine Aag hf ?_
  rintro _ _ ⟨rfl,rfl⟩
  cases hpx:p x with
  |true=>
   simp(disch:=first|assumption|omega)only[P4,seval]
   exact hret _ _ (hq2 _ _ ⟨_,rfl,rfl,(i:Int),rfl,by rw[an hpx];simp⟩)
  |false=>
   simp(disch:=first|assumption|omega)only[P4,seval,hw]
   exact hn _ _ _ ⟨i+1,_,_,_,rfl,rfl,by omega,by rw[tk,hpx],rfl⟩ (by omega)
 ·have h3:¬(i:Int)<((l.length:Nat):Int):=by omega
  simp(disch:=first|assumption|omega)only[P4,seval,la]
  refine hx 0 _ _ ?_
  simp(disch:=first|assumption|omega)only[P4,seval]
  refine hq2 _ _ ⟨_,rfl,rfl,-1,rfl,?_⟩
  rw[List.take_of_length_le (by omega)]at hp
  rw[hp];rfl
theorem t45{H:Aaa}{v:Value}{l:List (Int×Bool)}(h:NL H v l)(hl:l.length≤1000000){g:FuncId}{fi ca:Array Value}{p:(Int×Bool)→Bool}
 (hF:∀x∈l,∃w K',Aau Tryz.prog 0 g (fi.toList++[Value.agg (Afq x).toArray]++ca.toList) H w K'∧w=.bool (p x)∧K'=H):
 ∃w H',Aau Tryz.prog 0 45 [v,.func (.func g) fi ca] H w H'∧w=.bool (l.any p)∧H'=H:=by
 refine Aaq Bam Bjw ?_
 intro Q hq1 hq2
 simp(disch:=first|assumption|omega)only[f45,P3,seval,Aak,Aat]
 refine Aag (t76 h hl hF) ?_
 rintro _ _ ⟨rfl,i,rfl,hi⟩
 simp(disch:=first|assumption|omega)only[P4,seval]
 exact hq2 _ _ ⟨_,rfl,by rw[←hi];rfl,rfl⟩
theorem t62{H:Aaa}{v:Value}{l:List RV}(h:RL H v l)(hl:l.length≤1000000){g:FuncId}{fi ca:Array Value}{p:RV→Bool}
 (hF:∀x∈l,∃w K',Aau Tryz.prog 0 g (fi.toList++[Value.agg x.row.toArray]++ca.toList) H w K'∧w=.bool (p x)∧K'=H):
 ∃w H',Aau Tryz.prog 0 62 [v,.func (.func g) fi ca] H w H'∧H'=H∧∃i:Int,w=.int .i64 i∧decide (0≤i)=l.any p:=by
 refine Aaq Ban Bjx ?_
 intro Q hq1 hq2
 have ia:=Sl.is h
 have la:=h.len
 simp(disch:=first|assumption|omega)only[f62,P3,seval,Aak,Aat,la]
 rw[Aah]
 refine Aan (fun k fr K=>∃i x3 x6 x7,fr=[v,.func (.func g) fi ca,.int .i64 0,x3,.int .i64 ((l.length:Nat):Int),.int .i64 ((i:Nat):Int),x6,x7]∧K=H∧i≤l.length∧(l.take i).any p=false∧k=l.length-i) l.length
  ⟨0,_,_,_,rfl,rfl,by omega,by simp,rfl⟩ ?_
 rintro Q' k fr K ⟨i,x3,x6,x7,rfl,rfl,hi,hp,rfl⟩ hn hx hret
 by_cases hlt:i<l.length
 ·obtain⟨na,ra⟩:=h.at_ hlt
  have h0:(0:Int)≤(i:Int):=by omega
  have h1:(i:Int)<((lenS v:Nat):Int):=by omega
  have h3:(i:Int)<((l.length:Nat):Int):=by omega
  have hw:IntKind.i64.wrap ((i:Int)+1)=((i+1:Nat):Int):=by rw[Aae (by omega) (by omega)];simp
  have e1:l.getD i rv0=l[i]:=by simp[List.getD,List.getElem?_eq_getElem hlt]
  have hf:=hF _ (List.getElem_mem hlt)
  have tk:(l.take (i+1)).any p=p l[i]:=by rw[List.take_succ_eq_append_getElem hlt,List.any_append,hp];simp
  have an:p l[i]=true→l.any p=true:=fun e=>List.any_eq_true.2 ⟨_,List.getElem_mem hlt,e⟩
  rw[e1]at ra
  generalize l[i]=x at*
  simp(disch:=first|assumption|omega)only[P4,seval,la,ra,na,Aal,Ag9,Adg,RV.row]
  refine Aag hf ?_
  rintro _ _ ⟨rfl,rfl⟩
  cases hpx:p x with
  |true=>
   simp(disch:=first|assumption|omega)only[P4,seval]
   exact hret _ _ (hq2 _ _ ⟨_,rfl,rfl,(i:Int),rfl,by rw[an hpx];simp⟩)
  |false=>
   simp(disch:=first|assumption|omega)only[P4,seval,hw]
   exact hn _ _ _ ⟨i+1,_,_,_,rfl,rfl,by omega,by rw[tk,hpx],rfl⟩ (by omega)
 ·have h3:¬(i:Int)<((l.length:Nat):Int):=by omega
  simp(disch:=first|assumption|omega)only[P4,seval,la]
  refine hx 0 _ _ ?_
  simp(disch:=first|assumption|omega)only[P4,seval]
  refine hq2 _ _ ⟨_,rfl,rfl,-1,rfl,?_⟩
  rw[List.take_of_length_le (by omega)]at hp
  rw[hp];rfl
end Go.AM.Fd

namespace Go.AM.Fd
open Nat (reduceAdd reduceEqDiff reduceLT reduceLeDiff reduceMul reduceSub)
open Go.Proofs Go.AM.F
theorem fnc(f:Fn)(a b:Array Value):(Value.func f a b).cells.toList=[.func f a b]:=rfl
theorem fna(f:Fn)(a b:Array Value):(Value.func f a b).oneCell'=true:=rfl
def trk(r:Ro):List Int:=r.path++r.ov
def nds(r:Ro):List (Int×Bool):=r.pts++r.fl
theorem Ale{α:Type}[BEq α][LawfulBEq α]{l:List α}{i:Nat}(h:i<l.length)(hn:(l.take i).Nodup)(hc:(l.take i).contains l[i]=false):(l.take (i+1)).Nodup:=by
 rw[List.take_succ_eq_append_getElem h,List.nodup_append]
 refine⟨hn,by simp,fun a ha b hb=>?_⟩
 simp only[List.mem_singleton]at hb
 subst hb
 rintro rfl
 simp at hc
 exact hc ha
theorem t98(H:Aaa)(n:Int):∃w H',Aau Tryz.prog 0 98 [.int .i64 n] H w H'∧w=.int .i64 n∧H'=H:=by
 refine Aaq Bax Bj6 ?_
 intro Q hq1 hq2
 simp(disch:=first|assumption|omega)only[f98,P4,seval]
 exact hq2 _ _ ⟨_,rfl,rfl,rfl⟩
theorem Bpm(H:Aaa)(x:Int×Bool):∃w H',Aau Tryz.prog 0 101 [.agg (Afq x).toArray] H w H'∧w=.int .i64 x.1∧H'=H:=by
 suffices h':∃w H',Aau Tryz.prog 0 101 [.agg (Afq x).toArray] H w H'∧w=.int .i64 x.1∧Aac H H' by
  obtain⟨_,_,a,rfl,k⟩:=h'
  exact⟨_,_,a.gc0 k (.inr (.int _ _)),rfl,rfl⟩
 refine Aaq A3m Ba0 ?_
 intro Q hq1 hq2
 have o1:one1 (Value.int .i64 x.1)=True:=by simp[one1,Aax]
 simp(disch:=first|assumption|omega)only[Bnn,P4,seval,Afq,o1]
 exact hq2 _ _ ⟨_,rfl,rfl,(Aac.refl H).alloc _⟩
theorem t123{H:Aaa}{a b:Nat}{oa ob ra rb:Bool}{ta tb:Nat}{x:Int}(ga:H.get a=some (.cells oa ra 1 [.func (.func 98) #[] #[]] ta))(gb:H.get b=some (.cells ob rb 1 [.int .i64 x] tb))(y:Int):
 ∃w H',Aau Tryz.prog 0 123 [.int .i64 y,ptr a 0,ptr b 0] H w H'∧w=.bool (x==y)∧H'=H:=by
 refine Aaq A3r Ba5 ?_
 intro Q hq1 hq2
 simp(disch:=first|assumption|omega)only[Bnq,P4,seval,ga,gb,Af4]
 refine Aag (t98 H x) ?_
 rintro _ _ ⟨rfl,rfl⟩
 simp(disch:=first|assumption|omega)only[P4,seval,ga,gb,Af4]
 refine⟨Aaa.Bp9 ga,Aag (t98 _ y) ?_⟩
 rintro _ _ ⟨rfl,rfl⟩
 simp(disch:=first|assumption|omega)only[P4,seval]
 exact hq2 _ _ ⟨_,rfl,rfl,rfl⟩
theorem t125{H:Aaa}{a b:Nat}{oa ob ra rb:Bool}{ta tb:Nat}{x:Int×Bool}(ga:H.get a=some (.cells oa ra 1 [.func (.func 101) #[] #[]] ta))(gb:H.get b=some (.cells ob rb 2 (Afq x) tb))(y:Int×Bool):
 ∃w H',Aau Tryz.prog 0 125 [.agg (Afq y).toArray,ptr a 0,ptr b 0] H w H'∧w=.bool (x.1==y.1)∧H'=H:=by
 refine gcb ?_
 refine Aaq A3u Ba7 ?_
 intro Q hq1 hq2
 have fx:=fun K=>Bpm K x
 have fy:=fun K=>Bpm K y
 have la:=Aaa.Bp9 ga
 have lb:=Aaa.Bp9 gb
 have o1:one1 (Value.int .i64 y.1)=True:=by simp[one1,Aax]
 simp only[Afq]at gb fx fy
 simp(disch:=first|assumption|omega|(simp only[LN]<;>omega)|(simp(disch:=first|assumption|omega|(simp only[LN]<;>omega))only[Aab,Aad];assumption))only[Bns,P4,seval,ga,gb,Afq,Af4]
 refine Aag (fx _) ?_
 rintro _ _ ⟨rfl,rfl⟩
 simp(disch:=first|assumption|omega|(simp only[LN]<;>omega)|(simp(disch:=first|assumption|omega|(simp only[LN]<;>omega))only[Aab,Aad];assumption))only[P4,seval,ga,gb,Af4]
 refine Aag (fy _) ?_
 rintro _ _ ⟨rfl,rfl⟩
 simp(disch:=first|assumption|omega)only[P4,seval]
 exact hq2 _ _ ⟨_,rfl,rfl,(Aac.refl H).alloc _⟩
theorem t97{H:Aaa}{v:Value}{l:List Int}(h:WRr H 3 1 v (l.map Agw))(hl:l.length≤1000000):
 ∃w H',Aau Tryz.prog 0 97 [v,.func (.func 98) #[] #[]] H w H'∧w=.bool (!decide l.Nodup)∧H'=H:=by
 refine gcb ?_
 refine Aaq Baw Bj5 ?_
 intro Q hq1 hq2
 have hI:IL H v l:=h.sl
 have ia:=Sl.is hI
 have la:=hI.len
 have gk:=Aaa.Bp6 H (.cells true false 1 [.func (.func 98) #[] #[]] 184)
 simp(disch:=first|assumption|omega)only[f97,P3,seval,Aak,Aat,la,fnc,fna]
 rw[Aah]
 refine Aan (fun k fr K=>∃i x4 x5 x9 x10,fr=[v,.func (.func 98) #[] #[],ptr H.n 0,.bool false,x4,x5,v,.int .i64 ((l.length:Nat):Int),.int .i64 ((i:Nat):Int),x9,x10]∧
  Aac (H.alloc (.cells true false 1 [.func (.func 98) #[] #[]] 184)) K∧i≤l.length∧(l.take i).Nodup∧k=l.length-i) l.length
  ⟨0,_,_,_,_,rfl,Aac.refl _,by omega,by simp,rfl⟩ ?_
 rintro Q' k fr K ⟨i,x4,x5,x9,x10,rfl,kk,hi,hp,rfl⟩ hn hx hret
 have kH:Aac H K:=((Aac.refl H).alloc _).trans kk
 by_cases hlt:i<l.length
 ·obtain⟨na,ra⟩:=(hI.keeps kH).at_ hlt
  have h0:(0:Int)≤(i:Int):=by omega
  have h1:(i:Int)<((lenS v:Nat):Int):=by omega
  have h3:(i:Int)<((l.length:Nat):Int):=by omega
  have hw:IntKind.i64.wrap ((i:Int)+1)=((i+1:Nat):Int):=by rw[Aae (by omega) (by omega)];simp
  have e1:l.getD i 0=l[i]:=by simp[List.getD,List.getElem?_eq_getElem hlt]
  have nd:=Ale hlt hp
  have nt:=Ah3 (d:=0) hlt
  rw[e1]at ra nt
  generalize l[i]=x at*
  have kA:=(Aac.refl K).alloc (.cells true false 1 [.int .i64 x] 3)
  obtain⟨w,e2,s2⟩:=(h.keeps (kH.trans kA)).pre (kd:=.i64) (i:=i) (by simpa using hi)
  have gk2:=(kk.trans kA).at_ gk
  have gx:=Aaa.Bp6 K (.cells true false 1 [.int .i64 x] 3)
  have s2':IL (K.alloc (.cells true false 1 [.int .i64 x] 3)) w (l.take i):=by unfold IL;rw[List.map_take];exact s2
  simp(disch:=first|assumption|omega)only[P4,seval,la,ra,na,Aal,e2]
  refine Aag (t43 s2' (by rw[List.length_take];omega) (p:=fun y=>x==y) (fun y _=>t123 gk2 gx y)) ?_
  rintro _ _ ⟨rfl,rfl⟩
  have ec:((l.take i).any fun y=>x==y)=(l.take i).contains x:=by rw[List.contains_eq_any_beq]
  rw[ec]
  cases hc:(l.take i).contains x with
  |true=>
   simp(disch:=first|assumption|omega)only[P4,seval]
   exact hret _ _ (hq2 _ _ ⟨_,rfl,by simp[nt hc,Afi],kH.trans kA⟩)
  |false=>
   simp(disch:=first|assumption|omega)only[P4,seval,hw]
   exact hn _ _ _ ⟨i+1,_,_,_,_,rfl,kk.trans kA,by omega,nd hc,rfl⟩ (by omega)
 ·have h3:¬(i:Int)<((l.length:Nat):Int):=by omega
  simp(disch:=first|assumption|omega)only[P4,seval,la]
  refine hx 0 _ _ ?_
  simp(disch:=first|assumption|omega)only[P4,seval]
  refine hq2 _ _ ⟨_,rfl,?_,kH⟩
  rw[List.take_of_length_le (by omega)]at hp
  simp[hp,Afi]
theorem t100{H:Aaa}{v:Value}{l:List (Int×Bool)}(h:WRr H 120 2 v (l.map Afq))(hl:l.length≤1000000):
 ∃w H',Aau Tryz.prog 0 100 [v,.func (.func 101) #[] #[]] H w H'∧w=.bool (!decide (l.map (·.1)).Nodup)∧H'=H:=by
 refine gcb ?_
 refine Aaq A3l Baz ?_
 intro Q hq1 hq2
 have hI:NL H v l:=h.sl
 have ia:=Sl.is hI
 have la:=hI.len
 have gk:=Aaa.Bp6 H (.cells true false 1 [.func (.func 101) #[] #[]] 186)
 simp(disch:=first|assumption|omega)only[Bnm,P3,seval,Aak,Aat,la,fnc,fna]
 rw[Aah]
 refine Aan (fun k fr K=>∃i x4 x5 x9 x10,fr=[v,.func (.func 101) #[] #[],ptr H.n 0,.bool false,x4,x5,v,.int .i64 ((l.length:Nat):Int),.int .i64 ((i:Nat):Int),x9,x10]∧
  Aac (H.alloc (.cells true false 1 [.func (.func 101) #[] #[]] 186)) K∧i≤l.length∧((l.map (·.1)).take i).Nodup∧k=l.length-i) l.length
  ⟨0,_,_,_,_,rfl,Aac.refl _,by omega,by simp,rfl⟩ ?_
 rintro Q' k fr K ⟨i,x4,x5,x9,x10,rfl,kk,hi,hp,rfl⟩ hn hx hret
 have kH:Aac H K:=((Aac.refl H).alloc _).trans kk
 by_cases hlt:i<l.length
 ·obtain⟨na,ra⟩:=(hI.keeps kH).at_ hlt
  have h0:(0:Int)≤(i:Int):=by omega
  have h1:(i:Int)<((lenS v:Nat):Int):=by omega
  have h3:(i:Int)<((l.length:Nat):Int):=by omega
  have hw:IntKind.i64.wrap ((i:Int)+1)=((i+1:Nat):Int):=by rw[Aae (by omega) (by omega)];simp
  have e1:l.getD i (0,false)=l[i]:=by simp[List.getD,List.getElem?_eq_getElem hlt]
  have hlt2:i<(l.map (·.1)).length:=by simpa using hlt
  have nd:=Ale hlt2 hp
  have nt:=Ah3 (d:=0) hlt2
  have e3:(l.map (·.1)).getD i 0=l[i].1 :=by simp[List.getD,List.getElem?_eq_getElem hlt]
  have e4:(l.map (·.1))[i]=l[i].1 :=by simp
  rw[e1]at ra
  rw[e3]at nt
  rw[e4]at nd
  generalize l[i]=x at*
  have o1:one1 (Value.int .i64 x.1)=True:=by simp[one1,Aax]
  have o2:one1 (Value.bool x.2)=True:=by simp[one1,Al7]
  have kA:=(Aac.refl K).alloc (.cells true false 2 [.int .i64 x.1,.bool x.2] 120)
  obtain⟨w,e2,s2⟩:=(h.keeps (kH.trans kA)).pre (kd:=.i64) (i:=i) (by simpa using hi)
  have gk2:=(kk.trans kA).at_ gk
  have gx:=Aaa.Bp6 K (.cells true false 2 [.int .i64 x.1,.bool x.2] 120)
  have s2':NL (K.alloc (.cells true false 2 [.int .i64 x.1,.bool x.2] 120)) w (l.take i):=by unfold NL;rw[List.map_take];exact s2
  simp(disch:=first|assumption|omega|(simp only[LN]<;>omega)|(simp(disch:=first|assumption|omega|(simp only[LN]<;>omega))only[Aab,Aad];assumption))only[P4,seval,la,ra,na,Aai,o1,o2,e2]
  refine Aag (t45 s2' (by rw[List.length_take];omega) (p:=fun y=>x.1==y.1) (fun y _=>t125 gk2 gx y)) ?_
  rintro _ _ ⟨rfl,rfl⟩
  have ec:((l.take i).any fun y=>x.1==y.1)=((l.map (·.1)).take i).contains x.1:=by rw[List.contains_eq_any_beq,←List.map_take,List.any_map];rfl
  rw[ec]
  cases hc:((l.map (·.1)).take i).contains x.1 with
  |true=>
   simp(disch:=first|assumption|omega)only[P4,seval]
   exact hret _ _ (hq2 _ _ ⟨_,rfl,by simp[nt hc,Afi],kH.trans kA⟩)
  |false=>
   simp(disch:=first|assumption|omega)only[P4,seval,hw]
   exact hn _ _ _ ⟨i+1,_,_,_,_,rfl,kk.trans kA,by omega,nd hc,rfl⟩ (by omega)
 ·have h3:¬(i:Int)<((l.length:Nat):Int):=by omega
  simp(disch:=first|assumption|omega)only[P4,seval,la]
  refine hx 0 _ _ ?_
  simp(disch:=first|assumption|omega)only[P4,seval]
  refine hq2 _ _ ⟨_,rfl,?_,kH⟩
  rw[List.take_of_length_le (by simp;omega)]at hp
  simp[hp,Afi]
theorem t126{H:Aaa}{b:Nat}{ob rb:Bool}{tb:Nat}{p:Int}(gb:H.get b=some (.cells ob rb 1 [.int .i64 p] tb))(x:Int×Bool):
 ∃w H',Aau Tryz.prog 0 126 [.agg (Afq x).toArray,ptr b 0] H w H'∧w=.bool (x.1==p)∧H'=H:=by
 refine gcb ?_
 refine Aaq A3v Ba8 ?_
 intro Q hq1 hq2
 have o1:one1 (Value.int .i64 x.1)=True:=by simp[one1,Aax]
 have lb:=Aaa.Bp9 gb
 simp(disch:=first|assumption|omega)only[Bnt,P4,seval,Afq,o1,gb]
 exact hq2 _ _ ⟨_,rfl,rfl,(Aac.refl H).alloc _⟩
theorem Bpn{H:Aaa}{v:Value}{l:List (Int×Bool)}(h:NL H v l)(hl:l.length≤1000000)(p:Int):
 ∃w H',Aau Tryz.prog 0 102 [v,.int .i64 p] H w H'∧w=.bool (l.any fun x=>x.1==p)∧H'=H:=by
 refine gcb ?_
 refine Aaq A3n Ba1 ?_
 intro Q hq1 hq2
 have kA:=(Aac.refl H).alloc (.cells true false 1 [.int .i64 p] 3)
 have gx:=Aaa.Bp6 H (.cells true false 1 [.int .i64 p] 3)
 simp(disch:=first|assumption|omega)only[Bno,P4,seval]
 refine Aag (t45 (h.keeps kA) hl (p:=fun x=>x.1==p) (fun y _=>t126 gx y)) ?_
 rintro _ _ ⟨rfl,rfl⟩
 simp(disch:=first|assumption|omega)only[P4,seval]
 exact hq2 _ _ ⟨_,rfl,rfl,kA⟩
end Go.AM.Fd

namespace Go.AM.Fd
open Nat (reduceAdd reduceEqDiff reduceLT reduceLeDiff reduceMul reduceSub)
open Go.Proofs Go.AM.F
structure Ah4 (L:Ly):Prop where
 s:L.s.length≤64
 p:L.p.length≤32
 g:L.g.length≤32
 r:L.r.length≤64
theorem Apz{L:Ly}(h:Agy L=true):Afc L=false:=by simp[Afc,h]
theorem Ame{L:Ly}(h:Agy L=false):Ah4 L:=by
 simp only[Agy,Bool.or_eq_false_iff,decide_eq_false_iff_not]at h
 exact⟨by omega,by omega,by omega,by omega⟩
theorem Aih.fit2{L:Ly}(h:Aih 9223372036854775807 L)(k:Ah4 L):Af7 L:=
 ⟨⟨by have:=k.s;omega,h.s.2⟩,⟨by have:=k.p;omega,h.p.2⟩,⟨by have:=k.g;omega,h.g.2⟩,⟨by have:=k.r;omega,h.r.2⟩⟩
set_option maxHeartbeats 1000000 in
theorem Be1{H:Aaa}{u:V4}{xs:List RV}{L:Ly}(h:LyR H u xs L)(hf:Aih 9223372036854775807 L):∃w H',Aau Tryz.prog 0 61 [.agg u.l.toArray] H w H'∧w=.bool (Afc L)∧H'=H:=by
 cases hfl:Agy L with
 |false=>exact t61 h (hf.fit2 (Ame hfl))
 |true=>
 refine gcb ?_
 refine Aaq Azy A98 ?_
 intro Q hq1 hq2
 rw[Apz hfl]at hq1 hq2
 have os:=Sl.one h.s
 have op:=Sl.one h.p
 have og:=Sl.one h.g
 have or:=Sl.one h.r
 have is:=Sl.is h.s
 have ip:=Sl.is h.p
 have ig:=Sl.is h.g
 have ir:=Sl.is h.r
 have ls:=h.s.len
 have lp:=h.p.len
 have lg:=h.g.len
 have lr:=h.r.len
 rw[h.rlen]at lr
 obtain⟨us,up,ug,ur⟩:=u
 simp only[V4.l]at*
 have kk:Aac H (H.alloc (.cells true false 4 [us,up,ug,ur] 27)):=(Aac.refl H).alloc _
 simp only[Agy,Bool.or_eq_true,decide_eq_true_eq]at hfl
 by_cases h1:64<L.s.length
 ·have e1:(64:Int)<((L.s.length:Nat):Int):=by omega
  simp(disch:=first|assumption|omega)only[f61,P4,seval,os,op,og,or,ls,lp,lg,lr]
  exact hq2 _ _ ⟨_,rfl,rfl,kk⟩
 have e1:¬(64:Int)<((L.s.length:Nat):Int):=by omega
 by_cases h2:32<L.p.length
 ·have e2:(32:Int)<((L.p.length:Nat):Int):=by omega
  simp(disch:=first|assumption|omega)only[f61,P4,seval,os,op,og,or,ls,lp,lg,lr]
  exact hq2 _ _ ⟨_,rfl,rfl,kk⟩
 have e2:¬(32:Int)<((L.p.length:Nat):Int):=by omega
 by_cases h3:32<L.g.length
 ·have e3:(32:Int)<((L.g.length:Nat):Int):=by omega
  simp(disch:=first|assumption|omega)only[f61,P4,seval,os,op,og,or,ls,lp,lg,lr]
  exact hq2 _ _ ⟨_,rfl,rfl,kk⟩
 have e3:¬(32:Int)<((L.g.length:Nat):Int):=by omega
 have e4:(64:Int)<((L.r.length:Nat):Int):=by omega
 simp(disch:=first|assumption|omega)only[f61,P4,seval,os,op,og,or,ls,lp,lg,lr]
 exact hq2 _ _ ⟨_,rfl,rfl,kk⟩
theorem Ap0{H:Aaa}{a b:Value}(T:Nat)(ha:a.oneCell'=true)(hb:b.oneCell'=true):Sl (H.alloc (.cells true false 1 [a,b] T)) 1 (slc H.n 0 2 2) [[a],[b]]:=
 ⟨⟨_,_,rfl⟩,by simp,by rw[Ach rfl rfl];rfl⟩
theorem Be2{a b:Value}(ha:isS a=true)(hb:isS b=true):Aa4 [.slice none 0 0,.slice none 0 0] [(0,1,a),(1,1,b)]=some [a,b]:=by
 cases a with
 |slice p n k=>cases b with
  |slice q m j=>rfl
  |_=>cases hb
 |_=>cases ha
theorem t31{H:Aaa}{x:RV}(h:x.ok H)(hl:x.r.path.length+x.r.ov.length≤1000000):
 ∃w H',Aau Tryz.prog 0 31 [.agg x.row.toArray] H w H'∧WRr H' 3 1 w ((trk x.r).map Agw)∧Aac H H'∧Acy H.n w:=by
 refine Aaq Baj Bjt ?_
 intro Q hq1 hq2
 have o1:one1 (Value.int .i64 x.r.g)=True:=by simp[one1,Aax]
 have o2:one1 (Value.string ⟨x.r.n.toArray⟩)=True:=by simp[one1,Abe]
 have o3:=Aas (Sl.is h.p)
 have o4:=Aas (Sl.is h.q)
 have o5:=Aas (Sl.is h.o)
 have o6:=Aas (Sl.is h.f)
 have op:=Sl.one h.p
 have oo:=Sl.one h.o
 have fl:=Be2 (Sl.is h.p) (Sl.is h.o)
 have al:[x.vp,x.vo].all Value.oneCell'=true:=by simp[op,oo]
 have k1:=(Aac.refl H).alloc (.cells true false 6 x.row 87)
 have k2:=k1.alloc (.cells true false 1 [x.vp,x.vo] 84)
 have hV:=Ap0 (H:=H.alloc (.cells true false 6 x.row 87)) 84 op oo
 have hp:Sl _ 1 x.vp (x.r.path.map Agw):=h.p.keeps k2
 have ho:Sl _ 1 x.vo (x.r.ov.map Agw):=h.o.keeps k2
 obtain⟨⟨xn,xg,xp,xq,xo,xf⟩,vp,vq,vo,vf⟩:=x
 simp only[RV.row]at*
 simp(disch:=first|assumption|omega)only[f31,P4,seval,o1,o2,o3,o4,o5,o6,op,oo,fl,al]
 refine Aag (t65 (vs:=[(vp,xp.map Agw),(vo,xo.map Agw)]) hV (by
  intro y hy
  simp only[List.mem_cons,List.not_mem_nil,or_false]at hy
  rcases hy with rfl|rfl
  ·exact hp
  ·exact ho) (by simp) (by simpa using hl)) ?_
 rintro w K ⟨s,k,f⟩
 simp(disch:=first|assumption|omega)only[P4,seval]
 refine hq2 _ _ ⟨w,rfl,?_,k2.trans k,fun b hb=>Nat.le_trans k2.n (f b hb)⟩
 simpa[trk]using s
theorem t32{H:Aaa}{x:RV}(h:x.ok H)(hl:x.r.pts.length+x.r.fl.length≤1000000):
 ∃w H',Aau Tryz.prog 0 32 [.agg x.row.toArray] H w H'∧WRr H' 120 2 w ((nds x.r).map Afq)∧Aac H H'∧Acy H.n w:=by
 refine Aaq Bak Bju ?_
 intro Q hq1 hq2
 have o1:one1 (Value.int .i64 x.r.g)=True:=by simp[one1,Aax]
 have o2:one1 (Value.string ⟨x.r.n.toArray⟩)=True:=by simp[one1,Abe]
 have o3:=Aas (Sl.is h.p)
 have o4:=Aas (Sl.is h.q)
 have o5:=Aas (Sl.is h.o)
 have o6:=Aas (Sl.is h.f)
 have op:=Sl.one h.q
 have oo:=Sl.one h.f
 have fl:=Be2 (Sl.is h.q) (Sl.is h.f)
 have al:[x.vq,x.vf].all Value.oneCell'=true:=by simp[op,oo]
 have k1:=(Aac.refl H).alloc (.cells true false 6 x.row 87)
 have k2:=k1.alloc (.cells true false 1 [x.vq,x.vf] 85)
 have hV:=Ap0 (H:=H.alloc (.cells true false 6 x.row 87)) 85 op oo
 have hp:Sl _ 2 x.vq (x.r.pts.map Afq):=h.q.keeps k2
 have ho:Sl _ 2 x.vf (x.r.fl.map Afq):=h.f.keeps k2
 obtain⟨⟨xn,xg,xp,xq,xo,xf⟩,vp,vq,vo,vf⟩:=x
 simp only[RV.row]at*
 simp(disch:=first|assumption|omega)only[f32,P4,seval,o1,o2,o3,o4,o5,o6,op,oo,fl,al]
 refine Aag (t66 (vs:=[(vq,xq.map Afq),(vf,xf.map Afq)]) hV (by
  intro y hy
  simp only[List.mem_cons,List.not_mem_nil,or_false]at hy
  rcases hy with rfl|rfl
  ·exact hp
  ·exact ho) (by simp) (by simpa using hl)) ?_
 rintro w K ⟨s,k,f⟩
 simp(disch:=first|assumption|omega)only[P4,seval]
 refine hq2 _ _ ⟨w,rfl,?_,k2.trans k,fun b hb=>Nat.le_trans k2.n (f b hb)⟩
 simpa[nds]using s
end Go.AM.Fd

namespace Go.AM.Fd
open Nat (reduceAdd reduceEqDiff reduceLT reduceLeDiff reduceMul reduceSub)
open Go.Proofs Go.AM.F
def ptB(L:Ly)(r:Ro)(i:Nat):Bool:=
 ((trk r).contains (L.p.getD i ([],0)).2 ==r.pts.any (fun x=>x.1==(i:Int)))&& !((trk r).contains (L.p.getD i ([],0)).2 &&r.fl.any (fun x=>x.1==(i:Int)))
def Aq8(L:Ly)(r:Ro):Bool:=r.path.isEmpty|| !decide (trk r).Nodup||(trk r).contains (L.g.getD r.g.toNat ([],0)).2 || !decide ((nds r).map (·.1)).Nodup
def Abp(L:Ly)(r:Ro):Bool:= !Aq8 L r&&(List.range L.p.length).all (ptB L r)
theorem Agi{L:Ly}{r:Ro}(h:Aq8 L r=true):Abp L r=false:=by simp[Abp,h]
theorem Aul{L:Ly}{r:Ro}{i:Nat}(hi:i<L.p.length)(h:ptB L r i=false):Abp L r=false:=by
 have:(List.range L.p.length).all (ptB L r)=false:=List.all_eq_false.2 ⟨i,List.mem_range.2 hi,by simp[h]⟩
 simp[Abp,this]
structure Air (L:Ly) (r:Ro):Prop where
 g:0≤r.g∧r.g<L.g.length
 p:r.path.length≤16
 o:r.ov.length≤16
 q:r.pts.length≤16
 f:r.fl.length≤16
theorem A5s{L:Ly}{r:Ro}(h:roB L r=true):Air L r:=by
 simp only[roB,Ah2,inB,Bool.and_eq_true,decide_eq_true_eq]at h
 exact⟨by omega,by omega,by omega,by omega,by omega⟩
set_option maxHeartbeats 4000000 in
theorem t64{H:Aaa}{u:V4}{xs:List RV}{L:Ly}{x:RV}(h:LyR H u xs L)(hx:x.ok H)(hr:Air L x.r)(hL:Ah4 L):
 ∃w H',Aau Tryz.prog 0 64 [.agg u.l.toArray,.agg x.row.toArray] H w H'∧w=.bool (Abp L x.r)∧H'=H:=by
 refine gcb ?_
 refine Aaq Bap Bjz ?_
 intro Q hq1 hq2
 have lp':=hL.p
 have lg':=hL.g
 have lP:=hr.p
 have lO:=hr.o
 have lQ:=hr.q
 have lF:=hr.f
 have os:=Sl.one h.s
 have op:=Sl.one h.p
 have og:=Sl.one h.g
 have or:=Sl.one h.r
 have is:=Sl.is h.s
 have ip:=Sl.is h.p
 have ig:=Sl.is h.g
 have ir:=Sl.is h.r
 have lp:=h.p.len
 have lg:=h.g.len
 have q1:one1 (Value.int .i64 x.r.g)=True:=by simp[one1,Aax]
 have q2:one1 (Value.string ⟨x.r.n.toArray⟩)=True:=by simp[one1,Abe]
 have q3:=Aas (Sl.is hx.p)
 have q4:=Aas (Sl.is hx.q)
 have q5:=Aas (Sl.is hx.o)
 have q6:=Aas (Sl.is hx.f)
 have lpt:=hx.p.len
 have ipt:=Sl.is hx.p
 obtain⟨n,hn⟩:∃n:Nat,x.r.g=(n:Int):=⟨x.r.g.toNat,by have:=hr.g.1;omega⟩
 have hnl:n<L.g.length:=by have:=hr.g.2;omega
 have gt:x.r.g.toNat=n:=by omega
 -- the two boxes
 obtain⟨K0,hK0⟩:∃X,X=(H.alloc (.cells true false 4 u.l 27)).alloc (.cells true false 6 x.row 87):=⟨_,rfl⟩
 have k0:Aac H K0:=by rw[hK0];exact((Aac.refl H).alloc _).alloc _
 have n0:K0.n=H.n+2:=by rw[hK0];rfl
 have gl:K0.get H.n=some (.cells true false 4 u.l 27):=by rw[hK0];exact((Aac.refl _).alloc _).at_ (Aaa.Bp6 H _)
 have gr:K0.get (H.n+1)=some (.cells true false 6 x.row 87):=by rw[hK0];exact Aaa.Bp6 (H.alloc _) _
 have x0:=hx.keeps k0
 have row:x.row=[.string ⟨x.r.n.toArray⟩,.int .i64 x.r.g,x.vp,x.vq,x.vo,x.vf]:=rfl
 have tT:=t31 x0 (by omega)
 simp only[V4.l,row]at hK0 gl gr tT ⊢
 have hbad:Abp L x.r=false→∀{K:Aaa} {fr:List Value},Aac H K→Acx f64.res fr K=some (.bool false)→Q .ret fr K:=fun e K fr k hres=>hq2 _ _ ⟨_,hres,by rw[e],k⟩
 simp(disch:=first|assumption|omega|(simp only[LN]<;>omega)|(simp(disch:=first|assumption|omega|(simp only[LN]<;>omega))only[Aab,Aad];assumption))only[f64,P4,seval,q1,q2,q3,q4,q5,q6,os,op,og,or,lpt]
 simp only[←hK0]
 refine Aag tT ?_
 rintro t K1 ⟨ht,k1,ft⟩
 have hti:IL K1 t (trk x.r):=ht.sl
 have trl:(trk x.r).length≤32:=by simp[trk];omega
 have gl1:=k1.at_ gl
 have gr1:=k1.at_ gr
 have n1:=k1.n
 have pe:x.r.path.isEmpty=(((x.r.path.length:Nat):Int)==0):=by
  cases x.r.path with
  |nil=>rfl
  |cons a b=>simp;omega
 cases hpe:(((x.r.path.length:Nat):Int)==0)with
 |true=>
  simp(disch:=first|assumption|omega)only[P4,seval,gr1,lpt,hpe]
  exact hbad (Agi (by simp[Aq8,pe,hpe])) (k0.trans k1) rfl
 |false=>
 simp(disch:=first|assumption|omega)only[P4,seval,gr1,lpt,hpe]
 refine Aaw (t97 ht (by omega)) ?_
 cases hnd:decide (trk x.r).Nodup with
 |false=>
  simp(disch:=first|assumption|omega)only[P4,seval]
  exact hbad (Agi (by simp only[Aq8,hnd];simp)) (k0.trans k1) rfl
 |true=>
 obtain⟨ng,rg⟩:=(h.g.keeps (k0.trans k1)).at_ hnl
 have t0:(Int.toNat (n:Int))=n:=by omega
 have g1:(0:Int)≤(n:Int):=by omega
 have g2:(n:Int)<((L.g.length:Nat):Int):=by omega
 simp(disch:=first|assumption|omega)only[P4,seval,gl1,gr1,hn,ng,rg,lg,Aal,Aai]
 refine Aaw (t99 hti (by omega) _) ?_
 cases hc:(trk x.r).contains (L.g.getD n ([],0)).2 with
 |true=>
  simp(disch:=first|assumption|omega)only[P4,seval]
  exact hbad (Agi (by simp only[Aq8,gt,hc];simp)) (k0.trans k1) rfl
 |false=>
 have tN:=t32 (hx.keeps (k0.trans k1)) (by omega)
 simp only[row]at tN
 simp(disch:=first|assumption|omega|(simp only[LN]<;>omega)|(simp(disch:=first|assumption|omega|(simp only[LN]<;>omega))only[Aab,Aad];assumption))only[P4,seval,gr1]
 refine Aag tN ?_
 rintro nv K2 ⟨hnv,k2,fnv⟩
 have ndl:(nds x.r).length≤32:=by simp[nds];omega
 simp(disch:=first|assumption|omega)only[P4,seval]
 refine Aaw (t100 hnv (by omega)) ?_
 cases hnn:decide ((nds x.r).map (·.1)).Nodup with
 |false=>
  simp(disch:=first|assumption|omega)only[P4,seval]
  exact hbad (Agi (by simp only[Aq8,hnn];simp)) ((k0.trans k1).trans k2) rfl
 |true=>
 have kH:Aac H K2:=(k0.trans k1).trans k2
 have hgood:Aq8 L x.r=false:=by simp only[Aq8,pe,hpe,hnd,gt,hc,hnn];rfl
 have gl2:=k2.at_ gl1
 have gr2:=k2.at_ gr1
 have n2:=k2.n
 simp(disch:=first|assumption|omega)only[P3,seval,Aak,Aat,gl2,gr2,lp]
 rw[Aah]
 refine Aan (fun k fr K=>∃A B i x6 x7 x8 x13 x14,fr=[A,B,ptr H.n 0,ptr (H.n+1) 0,.bool false,t,x6,x7,x8,.bool false,u.p,.int .i64 ((L.p.length:Nat):Int),.int .i64 ((i:Nat):Int),x13,x14]∧
  Aac K2 K∧i≤L.p.length∧(List.range i).all (ptB L x.r)=true∧k=L.p.length-i) L.p.length
  ⟨_,_,0,_,_,_,_,_,rfl,Aac.refl _,by omega,by simp,rfl⟩ ?_
 rintro Q' k fr K ⟨A,B,i,x6,x7,x8,x13,x14,rfl,kk,hi,hp,rfl⟩ hn' hx' hret
 by_cases hlt:i<L.p.length
 ·obtain⟨na,ra⟩:=(h.p.keeps (kH.trans kk)).at_ hlt
  have h0:(0:Int)≤(i:Int):=by omega
  have h1:(i:Int)<((L.p.length:Nat):Int):=by omega
  have hw:IntKind.i64.wrap ((i:Int)+1)=((i+1:Nat):Int):=by rw[Aae (by omega) (by omega)];simp
  have pdef:ptB L x.r i=(((trk x.r).contains (L.p.getD i ([],0)).2 ==x.r.pts.any (fun x=>x.1==(i:Int)))&& !((trk x.r).contains (L.p.getD i ([],0)).2 &&x.r.fl.any (fun x=>x.1==(i:Int)))):=rfl
  have bad:=fun e=>Aul (L:=L) (r:=x.r) hlt e
  have good:ptB L x.r i=true→(List.range (i+1)).all (ptB L x.r)=true:=fun e=>by rw[List.range_succ,List.all_append,hp];simp[e]
  generalize L.p.getD i ([],0)=z at*
  have w1:one1 (Value.int .i64 z.2)=True:=by simp[one1,Aax]
  have w2:one1 (Value.string ⟨z.1.toArray⟩)=True:=by simp[one1,Abe]
  have kA:=(Aac.refl K).alloc (.cells true false 2 [.string ⟨z.1.toArray⟩,.int .i64 z.2] 89)
  have gx:=Aaa.Bp6 K (.cells true false 2 [.string ⟨z.1.toArray⟩,.int .i64 z.2] 89)
  obtain⟨K3,hK3⟩:∃X,X=K.alloc (.cells true false 2 [.string ⟨z.1.toArray⟩,.int .i64 z.2] 89):=⟨_,rfl⟩
  have gr3:=(kk.trans kA).at_ gr2
  rw[←hK3]at gr3
  have hti3:IL K3 t (trk x.r):=by rw[hK3];exact((hti.keeps k2).keeps kk).keeps kA
  have hq3:NL K3 x.vq x.r.pts:=by rw[hK3];exact((hx.keeps kH).keeps (kk.trans kA)).q
  have hf3:NL K3 x.vf x.r.fl:=by rw[hK3];exact((hx.keeps kH).keeps (kk.trans kA)).f
  have k3:Aac K2 K3:=by rw[hK3];exact kk.trans kA
  rw[←hK3]at gx
  simp(disch:=first|assumption|omega|(simp only[LN]<;>omega)|(simp(disch:=first|assumption|omega|(simp only[LN]<;>omega))only[Aab,Aad];assumption))only[P4,seval,lp,ra,na,Aai,w1,w2]
  simp only[←hK3]
  refine Aaw (t99 hti3 (by omega) _) ?_
  simp(disch:=first|assumption|omega)only[P4,seval,gr3]
  refine Aaw (Bpn hq3 (by omega) _) ?_
  cases hin:(trk x.r).contains z.2 with
  |true=>
   cases hpt:x.r.pts.any (fun x=>x.1==(i:Int))with
   |true=>
    simp(disch:=first|assumption|omega)only[P4,seval,gr3]
    refine Aaw (Bpn hf3 (by omega) _) ?_
    cases hfl:x.r.fl.any (fun x=>x.1==(i:Int))with
    |true=>
     simp(disch:=first|assumption|omega)only[P4,seval]
     refine hret _ _ (hbad (bad (by rw[pdef,hin,hpt,hfl];rfl)) (kH.trans k3) rfl)
    |false=>
     simp(disch:=first|assumption|omega)only[P4,seval,hw]
     exact hn' _ _ _ ⟨_,_,i+1,_,_,_,_,_,rfl,k3,by omega,good (by rw[pdef,hin,hpt,hfl];rfl),rfl⟩ (by omega)
   |false=>
    simp(disch:=first|assumption|omega)only[P4,seval]
    refine hret _ _ (hbad (bad (by rw[pdef,hin,hpt];rfl)) (kH.trans k3) rfl)
  |false=>
   cases hpt:x.r.pts.any (fun x=>x.1==(i:Int))with
   |true=>
    simp(disch:=first|assumption|omega)only[P4,seval]
    refine hret _ _ (hbad (bad (by rw[pdef,hin,hpt];rfl)) (kH.trans k3) rfl)
   |false=>
    simp(disch:=first|assumption|omega)only[P4,seval,hw]
    exact hn' _ _ _ ⟨_,_,i+1,_,_,_,_,_,rfl,k3,by omega,good (by rw[pdef,hin,hpt];rfl),rfl⟩ (by omega)
 ·have h1:¬(i:Int)<((L.p.length:Nat):Int):=by omega
  have:i=L.p.length:=by omega
  subst this
  simp(disch:=first|assumption|omega)only[P4,seval,lp]
  refine hx' 1 _ _ ?_
  simp(disch:=first|assumption|omega)only[P4,seval]
  refine hq2 _ _ ⟨_,rfl,?_,kH.trans kk⟩
  simp[Abp,hgood,hp,Afi]
end Go.AM.Fd

namespace Go.AM.Fd
open Nat (reduceAdd reduceEqDiff reduceLT reduceLeDiff reduceMul reduceSub)
open Go.Proofs Go.AM.F
theorem Aa8{L:Ly}(h:Afc L=true):Ah4 L:=by
 simp only[Afc,Bool.and_eq_true,Bool.not_eq_true']at h
 exact Ame h.1
theorem Aim{L:Ly}(h:Afc L=true){r:Ro}(hr:r∈L.r):Air L r:=by
 simp only[Afc,Bool.and_eq_true]at h
 exact A5s (List.all_eq_true.1 h.2.2.2 r hr)
theorem t63{H:Aaa}{u:V4}{xs:List RV}{L:Ly}{x:RV}{b:Nat}{ob rb:Bool}{tb:Nat}(h:LyR H u xs L)(hx:x.ok H)(hr:Air L x.r)(hL:Ah4 L)(gb:H.get b=some (.cells ob rb 4 u.l tb)):
 ∃w H',Aau Tryz.prog 0 63 [.agg x.row.toArray,ptr b 0] H w H'∧w=.bool (!Abp L x.r)∧H'=H:=by
 refine gcb ?_
 refine Aaq Bao Bjy ?_
 intro Q hq1 hq2
 have os:=Sl.one h.s
 have op:=Sl.one h.p
 have og:=Sl.one h.g
 have or:=Sl.one h.r
 have q1:one1 (Value.int .i64 x.r.g)=True:=by simp[one1,Aax]
 have q2:one1 (Value.string ⟨x.r.n.toArray⟩)=True:=by simp[one1,Abe]
 have q3:=Aas (Sl.is hx.p)
 have q4:=Aas (Sl.is hx.q)
 have q5:=Aas (Sl.is hx.o)
 have q6:=Aas (Sl.is hx.f)
 have lb:=Aaa.Bp9 gb
 have kA:=(Aac.refl H).alloc (.cells true false 6 x.row 87)
 have hf:=t64 (h.keeps kA) (hx.keeps kA) hr hL
 have row:x.row=[.string ⟨x.r.n.toArray⟩,.int .i64 x.r.g,x.vp,x.vq,x.vo,x.vf]:=rfl
 simp only[V4.l,row]at*
 simp(disch:=first|assumption|omega|(simp only[LN]<;>omega)|(simp(disch:=first|assumption|omega|(simp only[LN]<;>omega))only[Aab,Aad];assumption))only[f63,P4,seval,q1,q2,q3,q4,q5,q6,os,op,og,or,gb]
 refine Aag hf ?_
 rintro _ _ ⟨rfl,rfl⟩
 simp(disch:=first|assumption|omega)only[P4,seval]
 exact hq2 _ _ ⟨_,rfl,rfl,kA⟩
def Aar(L:Ly):Int:=if Afc L then(if L.r.all (Abp L)then 0 else 50)else 2
theorem Aor{α:Type}(p:α→Bool)(l:List α):(l.any fun x=> !p x)= !l.all p:=by
 induction l with
 |nil=>rfl
 |cons a l ih=>simp[ih]
theorem t30{H:Aaa}{u:V4}{xs:List RV}{L:Ly}(h:LyR H u xs L)(hf:Aih 9223372036854775807 L):
 ∃w H',Aau Tryz.prog 0 30 [.agg u.l.toArray] H w H'∧H'=H∧∃i,w=.tuple #[.int .i64 (Aar L),.int .i64 i]:=by
 suffices h':∃w H',Aau Tryz.prog 0 30 [.agg u.l.toArray] H w H'∧Aac H H'∧∃i,w=.tuple #[.int .i64 (Aar L),.int .i64 i] by
  obtain⟨_,_,a,k,i,rfl⟩:=h'
  exact⟨_,_,a.gc0 k (.inr (.tuple _ _ rfl (fun i a b=>by
   match i,a with
   |0,_=>exact .int _ _
   |1,_=>exact .int _ _))),rfl,_,rfl⟩
 refine Aaq Bai Bjs ?_
 intro Q hq1 hq2
 have os:=Sl.one h.s
 have op:=Sl.one h.p
 have og:=Sl.one h.g
 have or:=Sl.one h.r
 have kA:=(Aac.refl H).alloc (.cells true false 4 u.l 27)
 have gA:=Aaa.Bp6 H (.cells true false 4 u.l 27)
 have hm:=Be1 (h.keeps kA) hf
 have hA:=h.keeps kA
 simp only[V4.l]at*
 simp(disch:=first|assumption|omega|(simp only[LN]<;>omega)|(simp(disch:=first|assumption|omega|(simp only[LN]<;>omega))only[Aab,Aad];assumption))only[f30,P4,seval,os,op,og,or]
 refine Aag hm ?_
 rintro _ X ⟨rfl,hX⟩
 rw[hX]
 unfold Aar at hq1 hq2
 cases hmay:Afc L with
 |false=>
  rw[hmay]at hq1 hq2
  simp(disch:=first|assumption|omega)only[P4,seval]
  exact hq2 _ _ ⟨_,rfl,kA,_,rfl⟩
 |true=>
 rw[hmay]at hq1 hq2
 have hl:=Aa8 hmay
 have hrl:=h.rlen
 simp(disch:=first|assumption|omega)only[P4,seval]
 refine Aag (t62 hA.r (by have:=hl.r;omega) (p:=fun y=> !Abp L y.r) (fun y hy=>t63 hA (hA.ok y hy) (Aim hmay (by rw[←h.e];exact List.mem_map_of_mem hy)) hl (by simpa only[V4.l]using gA))) ?_
 rintro _ X ⟨hX,i,rfl,hi⟩
 rw[hX]
 have hany:decide (0≤i)= !L.r.all (Abp L):=by
  rw[hi,←h.e,List.all_map]
  exact Aor _ _
 by_cases h0:0≤i
 ·have e:L.r.all (Abp L)=false:=by simpa[h0]using hany
  rw[e]at hq1 hq2
  simp(disch:=first|assumption|omega)only[P4,seval]
  exact hq2 _ _ ⟨_,rfl,kA,_,rfl⟩
 ·have e:L.r.all (Abp L)=true:=by simpa[h0]using hany
  rw[e]at hq1 hq2
  simp(disch:=first|assumption|omega)only[P4,seval]
  exact hq2 _ _ ⟨_,rfl,kA,_,rfl⟩
end Go.AM.Fd

set_option maxRecDepth 8000
namespace Go.AM.Fd
open Nat (reduceAdd reduceEqDiff reduceLT reduceLeDiff reduceMul reduceSub)
open Go.Proofs Go.AM.F
def Aum:Int→Value:=fun n=>.int .i64 n
def Afm:List (Int×Bool)→List (Int×Value)
 |[]=>[]
 |x::l=>Aoa x.1 (.bool x.2) (Afm l)
def Abq(p:Int)(l:List (Int×Bool)):Option Bool:=(l.find? fun x=>x.1==p).map (·.2)
theorem Ajw(p:Int):∀l,Ad7 p (Afm l)=(Abq p l).map .bool
 |[]=>rfl
 |x::l=>by
  simp only[Afm,Ak5,Ajw p l,Abq,List.find?_cons]
  by_cases h:p=x.1
  ·have e:(x.1==p)=true:=by simp[h]
   rw[if_pos h,e];rfl
  ·have e:(x.1==p)=false:=by simp;exact fun e=>h e.symm
   rw[if_neg h,e]
theorem t139{v:Value}{l:List (Int×Bool)}(J:Nat→Aaa→Prop){b p:Nat}(hl:l.length≤1000000)
 (hr:∀k H,J k H→H.get p=some (.cells true false 1 [v] 85)∧NL H v l)
 (hy:∀k H,(h:k<l.length)→J (k+1) H→∃w H',Ae1 Tryz.prog 0 b [.int .i64 (k:Nat),.agg (Afq l[k]).toArray] H w H'∧w=.bool true∧J k H')
 {H:Aaa} (h0:J l.length H):∃w H',Aau Tryz.prog 0 139 [.chan (some b),ptr p 0] H w H'∧J 0 H':=by
 refine Aaq A3z Bbc ?_
 intro Q hq1 hq2
 obtain⟨g1,s1⟩:=hr _ _ h0
 have iv:=Sl.is s1
 have lv:=s1.len
 have hw0:IntKind.i64.wrap (((l.length:Nat):Int)-1)=(l.length:Int)-1:=by rw[Aae (by omega) (by omega)]
 simp(disch:=first|assumption|omega)only[Bnx,P3,seval,Aak,Aat,g1,lv,hw0]
 rw[Aah]
 refine Aan (fun k fr H=>∃x3 x4,fr=[.chan (some b),ptr p 0,.int .i64 ((k:Int)-1),x3,x4]∧J k H∧k≤l.length) l.length
  ⟨_,_,rfl,h0,Nat.le_refl _⟩ ?_
 rintro Q' k fr H ⟨x3,x4,rfl,hJ,hk⟩ hn hx hret
 cases k with
 |zero=>
  have e:¬(0:Int)≤((0:Nat):Int)-1:=by omega
  simp(disch:=first|assumption|omega)only[P4,seval]
  refine hx 0 _ _ ?_
  exact hq1 _ _ ⟨_,rfl,hJ⟩
 |succ k=>
  have e0:(((k+1:Nat):Int)-1)=(k:Int):=by omega
  obtain⟨g1,s1⟩:=hr _ _ hJ
  obtain⟨na,ra⟩:=s1.at_ (i:=k) (by omega)
  have h0:(0:Int)≤(k:Int):=by omega
  have h1:(k:Int)<((l.length:Nat):Int):=by omega
  have e1:l.getD k (0,false)=l[k]:=by simp[List.getD,List.getElem?_eq_getElem (show k<l.length by omega)]
  rw[e1]at ra
  have hy':=hy k H (by omega) hJ
  simp only[Afq]at hy'
  have hw:IntKind.i64.wrap ((k:Int)-1)=(k:Int)-1:=by rw[Aae (by omega) (by omega)]
  simp(disch:=first|assumption|omega)only[P4,seval,e0,g1,lv,na,ra,Aai,Abu]
  refine Ae3 hy' ?_
  rintro _ H2 ⟨rfl,hJ2⟩
  simp(disch:=first|assumption|omega)only[P4,seval,hw]
  exact hn k _ _ ⟨_,_,rfl,hJ2,by omega⟩ (by omega)
theorem t138{H:Aaa}{v:Value}(hv:v.oneCell'=true):∃w H',Aau Tryz.prog 0 138 [v] H w H'∧w=.func (.func 139) #[] #[ptr H.n 0]∧H'=H.alloc (.cells true false 1 [v] 85):=by
 refine Aaq A3y Bbb ?_
 intro Q hq1 hq2
 have hc:v.cells.toList=[v]:=by rw[Afy hv]
 simp(disch:=first|assumption|omega)only[Bnw,P4,seval,hc,hv]
 exact hq2 _ _ ⟨_,rfl,rfl,rfl⟩
structure SJ (B:Aaa) (L:Alj) (v:Value) (l:List (Int×Bool)) (mb vb bb rb:Nat) (k:Nat) (H:Aaa):Prop where
 keep:Aac B H
 mvar:H.get vb=some (.cells true false 1 [.map (some mb)] 210)
 box:H.get bb=some (.cells true false 1 [v] 85)
 rec_:H.get rb=some (.loop true .ready none L)
 map:MP Aum H mb (Afm (l.drop k))
 sl:NL H v l
theorem SJ.round{B:Aaa}{v:Value}{l:List (Int×Bool)}{mb vb bb rb:Nat}{x0 x1 x2 x4 x5 x6 x7:Value}{k:Nat}{H:Aaa}(hk:k<l.length)(o1:B.n≤mb)(o2:mb<vb)(o3:vb<bb)(o4:bb<rb)(fr:Acy (vb+1) v)(lo:∀b,blk v=some b→b<bb)
 (h:SJ B ⟨18,[0,1,2,3,5,9,10,11],[x0,x1,x2,ptr vb 0,x4,x5,x6,x7],#[10,11],rfA Tryz.prog 128 0,rfB Tryz.prog 128 0⟩ v l mb vb bb rb (k+1) H):
 ∃w H',Ae1 Tryz.prog 0 rb [.int .i64 (k:Nat),.agg (Afq l[k]).toArray] H w H'∧w=.bool true∧SJ B ⟨18,[0,1,2,3,5,9,10,11],[x0,x1,x2,ptr vb 0,x4,x5,x6,x7],#[10,11],rfA Tryz.prog 128 0,rfB Tryz.prog 128 0⟩ v l mb vb bb rb k H':=by
 obtain⟨L,hL⟩:∃L:Alj,(⟨18,[0,1,2,3,5,9,10,11],[x0,x1,x2,ptr vb 0,x4,x5,x6,x7],#[10,11],rfA Tryz.prog 128 0,rfB Tryz.prog 128 0⟩:Alj)=L:=⟨_,rfl⟩
 refine Aiz (R:=fun w H'=>w=.bool true∧SJ B _ v l mb vb bb rb k H') h.rec_ Aq1 Aq2 Axy rfl rfl ?_
 show W Tryz.prog 0 Aon _ [x0,x1,x2,ptr vb 0,x4,x5,.int .i64 (k:Nat),.agg (Afq l[k]).toArray] H
 rw[hL]at h ⊢
 have hd:l.drop k=l[k]::l.drop (k+1):=List.drop_eq_getElem_cons hk
 generalize l[k]=x at*
 have q1:one1 (Value.int .i64 x.1)=True:=by simp[one1,Aax]
 have hrl:=Aaa.Bp9 h.rec_
 have hml:=h.map.lt
 simp only[Afq]at*
 simp(disch:=first|assumption|omega|(simp only[LN]<;>omega)|(simp(disch:=first|assumption|omega|(simp only[LN]<;>omega))only[Aab,Aad];assumption))only[Aon,P4,seval,q1]
 refine⟨none,L,h.rec_,?_⟩
 obtain⟨H1,hH1⟩:∃X,X=H.set rb (.loop true .busy none L):=⟨_,rfl⟩
 have n1:H1.n=H.n:=by rw[hH1];rfl
 have c2:Chg [rb] H H1:=by rw[hH1];exact Chg.set H hrl _
 have gr1:H1.get rb=some (.loop true .busy none L):=by rw[hH1];exact Aaa.Bp7 h.rec_ _
 rw[←hH1,←n1]
 have kA:=(Aac.refl H1).alloc (.cells true false 2 [.int .i64 x.1,.bool x.2] 120)
 have gx2:=Aaa.Bp6 H1 (.cells true false 2 [.int .i64 x.1,.bool x.2] 120)
 obtain⟨H2,hH2⟩:∃X,X=H1.alloc (.cells true false 2 [.int .i64 x.1,.bool x.2] 120):=⟨_,rfl⟩
 rw[←hH2]at kA gx2 ⊢
 have n2:H2.n=H1.n+1:=by rw[hH2];rfl
 have gm:H2.get vb=some (.cells true false 1 [.map (some mb)] 210):=kA.at_ (c2.at_ h.mvar (by simp;omega))
 have mp2:MP Aum H2 mb (Afm (l.drop (k+1))):=h.map.get (by rw[kA.get mb (by omega),c2.get mb (by omega) (by simp;omega)])
 obtain⟨o,s1,s2⟩:=Ayp Ayn mp2 x.1 (x:=.bool x.2) rfl
 have s1':Aam (.mset (.int .i64) (.map (some mb)) (.int .i64 x.1) (.bool x.2)) H2=some (undef,H2.set mb o):=s1
 simp(disch:=first|assumption|omega)only[Aud,P4,seval,gm,gx2,Asf,s1']
 have c3:Chg [mb] H2 (H2.set mb o):=Chg.set H2 (by omega) _
 have gr3:(H2.set mb o).get rb=some (.loop true .busy none L):=c3.at_ (kA.at_ gr1) (by simp;omega)
 unfold Aha
 rw[gr3]
 refine⟨rfl,?_⟩
 obtain⟨H3,hH3⟩:∃X,X=H2.set mb o:=⟨_,rfl⟩
 rw[←hH3]at c3 gr3 s2 ⊢
 have n3:H3.n=H2.n:=by rw[hH3];rfl
 have c4:Chg [rb] H3 (H3.set rb (.loop true .ready none L)):=Chg.set H3 (by omega) _
 refine⟨?_,c4.at_ (c3.at_ gm (by simp;omega)) (by simp;omega),c4.at_ (c3.at_ (kA.at_ (c2.at_ h.box (by simp;omega))) (by simp;omega)) (by simp;omega),Aaa.Bp7 gr3 _,?_,?_⟩
 ·exact(((h.keep.Bqa c2 (by simp;omega)).trans kA).Bqa c3 (by simp;omega)).Bqa c4 (by simp;omega)
 ·rw[hd]
  exact MP.get s2 (c4.get mb (by omega) (by simp;omega))
 ·have hb:∀b,blk v=some b→b≠rb∧b≠mb:=fun b e=>by have:=fr b e;have:=lo b e;omega
  exact Sl.chg (Sl.chg (Sl.keeps (Sl.chg h.sl c2 (fun b e=>by have:=hb b e;simp;omega)) kA) c3 (fun b e=>by have:=hb b e;simp;omega)) c4 (fun b e=>by have:=hb b e;simp;omega)
set_option maxHeartbeats 1000000 in
theorem Bpo{H:Aaa}{x:RV}(hx:x.ok H)(hl:x.r.pts.length+x.r.fl.length≤1000000):
 ∃w H',Aau Tryz.prog 0 128 [.agg x.row.toArray] H w H'∧Aac H H'∧∃mb,w=.map (some mb)∧H.n≤mb∧MP Aum H' mb (Afm (nds x.r)):=by
 refine Aaq A3x Bba ?_
 intro Q hq1 hq2
 have q1:one1 (Value.int .i64 x.r.g)=True:=by simp[one1,Aax]
 have q2:one1 (Value.string ⟨x.r.n.toArray⟩)=True:=by simp[one1,Abe]
 have q3:=Aas (Sl.is hx.p)
 have q4:=Aas (Sl.is hx.q)
 have q5:=Aas (Sl.is hx.o)
 have q6:=Aas (Sl.is hx.f)
 have row:x.row=[.string ⟨x.r.n.toArray⟩,.int .i64 x.r.g,x.vp,x.vq,x.vo,x.vf]:=rfl
 obtain⟨K0,hK0⟩:∃X,X=((H.alloc (.cells true false 6 x.row 87)).alloc (.obj true (.map #[] 0))).alloc (.cells true false 1 [.map (some (H.n+1))] 210):=⟨_,rfl⟩
 have n0:K0.n=H.n+3:=by rw[hK0];rfl
 have k0:Aac H K0:=by rw[hK0];exact(((Aac.refl H).alloc _).alloc _).alloc _
 have g0:K0.get (H.n+2)=some (.cells true false 1 [.map (some (H.n+1))] 210):=by rw[hK0];exact Aaa.Bp6 ((H.alloc _).alloc _) _
 have m0:MP Aum K0 (H.n+1) []:=by
  have:=MP.new (enc:=Aum) (H.alloc (.cells true false 6 x.row 87))
  refine this.get ?_
  rw[hK0]
  exact((Aac.refl ((H.alloc (.cells true false 6 x.row 87)).alloc (.obj true (.map #[] 0)))).alloc _).get _ (by simp[Aaa.alloc])
 have tN:=t32 (hx.keeps k0) hl
 simp only[row]at*
 simp(disch:=first|assumption|omega|(simp only[LN]<;>omega)|(simp(disch:=first|assumption|omega|(simp only[LN]<;>omega))only[Aab,Aad];assumption))only[Bnv,P4,seval,q1,q2,q3,q4,q5,q6,Ape,Asg]
 simp only[←hK0]
 refine Aag tN ?_
 rintro v K1 ⟨hv,k1,fv⟩
 have n1:=k1.n
 have hvs:NL K1 v (nds x.r):=hv.sl
 have ndl:(nds x.r).length≤1000000:=by simp[nds];omega
 have ov:=Sl.one hvs
 simp(disch:=first|assumption|omega)only[P4,seval]
 refine Aag (t138 ov) ?_
 rintro _ K2 ⟨rfl,hK2⟩
 have kB:=(Aac.refl K1).alloc (.cells true false 1 [v] 85)
 have gB:=Aaa.Bp6 K1 (.cells true false 1 [v] 85)
 rw[←hK2]at kB gB
 have n2:K2.n=K1.n+1:=by rw[hK2];rfl
 simp(disch:=first|assumption|omega)only[P4,seval]
 refine Ai0 rfl (Af1 (by kernel_rfl)) ?_
 obtain⟨L,hL⟩:∃L:Alj,L=⟨18,[0,1,2,3,5,9,10,11],[.agg #[.string ⟨x.r.n.toArray⟩,.int .i64 x.r.g,x.vp,x.vq,x.vo,x.vf],ptr H.n 0,.map none,ptr (H.n+2) 0,undef,.func (.func 139) #[] #[ptr K1.n 0],undef,undef],#[10,11],rfA Tryz.prog 128 0,rfB Tryz.prog 128 0⟩:=⟨_,rfl⟩
 have kL:=(Aac.refl K2).alloc (.loop true .ready none L)
 have gL:=Aaa.Bp6 K2 (.loop true .ready none L)
 have kH:Aac H K2:=(k0.trans k1).trans kB
 have h0:SJ H L v (nds x.r) (H.n+1) (H.n+2) K1.n K2.n (nds x.r).length (K2.alloc (.loop true .ready none L)):=
  ⟨kH.trans kL,kL.at_ (kB.at_ (k1.at_ g0)),kL.at_ gB,gL,by
   rw[List.drop_length]
   exact m0.get (by rw[kL.get _ (by omega),kB.get _ (by omega),k1.get _ (by omega)]),(hvs.keeps kB).keeps kL⟩
 have lo:∀b,blk v=some b→b<K1.n:=fun b e=>hv.1.lt e
 have rd:∀k X,(hk:k<(nds x.r).length)→SJ H L v (nds x.r) (H.n+1) (H.n+2) K1.n K2.n (k+1) X→∃w H',Ae1 Tryz.prog 0 K2.n [.int .i64 (k:Nat),.agg (Afq (nds x.r)[k]).toArray] X w H'∧w=.bool true∧SJ H L v (nds x.r) (H.n+1) (H.n+2) K1.n K2.n k H':=by
  rw[hL]
  intro k X hk hJ
  exact hJ.round hk (by omega) (by omega) (by omega) (by omega) (fun b e=>by have:=fv b e;omega) lo
 obtain⟨w,K3,a3,j3⟩:=t139 (SJ H L v (nds x.r) (H.n+1) (H.n+2) K1.n K2.n) ndl (fun k X hJ=>⟨hJ.box,hJ.sl⟩) rd h0
 rw[hL]at a3 j3
 refine⟨_,_,a3,Aee j3.rec_ ?_⟩
 have hrl:=Aaa.Bp9 j3.rec_
 have c4:Chg [K2.n] K3 (K3.set K2.n .dead):=Chg.set K3 hrl _
 obtain⟨K4,hK4⟩:∃X,X=K3.set K2.n .dead:=⟨_,rfl⟩
 rw[←hK4]at c4 ⊢
 have g4:=c4.at_ j3.mvar (by simp;omega)
 simp(disch:=first|assumption|omega)only[P4,seval,g4]
 refine hq2 _ _ ⟨_,rfl,j3.keep.Bqa c4 (by simp;have:=kH.n;omega),H.n+1,rfl,by omega,?_⟩
 exact MP.get (by simpa using j3.map) (c4.get _ (by have:=j3.map.lt;omega) (by simp;omega))
end Go.AM.Fd

set_option maxRecDepth 8000
namespace Go.AM.Fd
open Nat (reduceAdd reduceEqDiff reduceLT reduceLeDiff reduceMul reduceSub)
open Go.Proofs Go.AM.F
def cPt(L:Ly)(a b:Ro)(p:Nat):Bool:=
 let x:=Abq p (nds a);let y:=Abq p (nds b);let s:=(L.p.getD p ([],0)).2
 (x.isSome&&y.isSome||x.isSome&&(trk b).contains s||y.isSome&&(trk a).contains s)&& !(x==y)
def Adk(L:Ly)(a b:Ro):Bool:=a.g==b.g||(trk a).any (fun s=>(trk b).contains s)||(List.range L.p.length).any (cPt L a b)
theorem Aun{H:Aaa}{mb:Nat}{l:List (Int×Bool)}(h:MP Aum H mb (Afm l))(p:Nat):
 Aam (.mget (.int .i64) (.bool false) true (.map (some mb)) (.int .i64 (p:Nat))) H=some (.tuple #[.bool ((Abq p l).getD false),.bool (Abq p l).isSome],H):=by
 have:=Ayo Ayn h (p:Int) (.bool false) true
 rw[Ajw]at this
 refine this.trans ?_
 cases Abq (p:Int) l<;>rfl
set_option maxHeartbeats 8000000 in
theorem t127{u:V4}{xs:List RV}{L:Ly}{a b:RV}(J Jx:Aaa→Prop){rb pa pb pl:Nat}(la:Air L a.r)(lb:Air L b.r)(hL:Ah4 L)
 (hr:∀H,J H→rb<H.n∧H.get pa=some (.cells true false 6 a.row 87)∧H.get pb=some (.cells true false 6 b.row 87)∧H.get pl=some (.cells true false 4 u.l 27)∧LyR H u xs L∧a.ok H∧b.ok H)
 (hk:∀H H',J H→Aac H H'→J H')
 (hy:∀H v,J H→∃w H',Ae1 Tryz.prog 0 rb [.bool v] H w H'∧w=.bool (!v)∧(v=true→Jx H')∧(v=false→J H'∧Chg [rb] H H'))
 {H:Aaa} (h0:J H):∃w H',Aau Tryz.prog 0 127 [.chan (some rb),ptr pa 0,ptr pb 0,ptr pl 0] H w H'∧(Adk L a.r b.r=true→Jx H')∧(Adk L a.r b.r=false→J H'):=by
 refine Aaq A3w Ba9 ?_
 intro Q hq1 hq2
 obtain⟨lr,ga,gb,gl,hly,oa,ob⟩:=hr _ h0
 have lP:=la.p
 have lO:=la.o
 have lQ:=la.q
 have lF:=la.f
 have mP:=lb.p
 have mO:=lb.o
 have mQ:=lb.q
 have mF:=lb.f
 have rowa:a.row=[.string ⟨a.r.n.toArray⟩,.int .i64 a.r.g,a.vp,a.vq,a.vo,a.vf]:=rfl
 have rowb:b.row=[.string ⟨b.r.n.toArray⟩,.int .i64 b.r.g,b.vp,b.vq,b.vo,b.vf]:=rfl
 have ga':=ga
 have gb':=gb
 rw[rowa]at ga'
 rw[rowb]at gb'
 have stop:Adk L a.r b.r=true→∀{K:Aaa} {fr:List Value},Jx K→Q .ret fr K:=fun e K fr j=>hq2 _ _ ⟨_,rfl,fun _=>j,fun e2=>by rw[e]at e2;cases e2⟩
 simp(disch:=first|assumption|omega)only[Bnu,P4,seval,ga',gb',Abu]
 refine Ae3 (hy _ _ h0) ?_
 rintro _ K ⟨rfl,y1,y2⟩
 cases hg:(a.r.g==b.r.g)with
 |true=>
  simp(disch:=first|assumption|omega)only[P4,seval]
  exact stop (by simp only[Adk,hg,Bool.true_or]) (y1 hg)
 |false=>
 obtain⟨jK,cK⟩:=y2 hg
 clear y1 y2 ga gb gl hly oa ob ga' gb'
 obtain⟨lr1,ga,gb,gl,hly,oa,ob⟩:=hr _ jK
 have ga':=ga
 have gb':=gb
 rw[rowa]at ga'
 rw[rowb]at gb'
 have tT:=t31 oa (by omega)
 have tU:=fun K' (k:Aac K K')=>t31 (ob.keeps k) (by omega)
 rw[rowa]at tT
 simp only[rowb]at tU
 simp(disch:=first|assumption|omega|(simp only[LN]<;>omega)|(simp(disch:=first|assumption|omega|(simp only[LN]<;>omega))only[Aab,Aad];assumption))only[P4,seval,ga',gb']
 refine Aag tT ?_
 rintro t K1 ⟨ht,k1,ft⟩
 have gb1:=k1.at_ gb'
 have lb1:=Aaa.Bp9 gb
 have n1:=k1.n
 simp(disch:=first|assumption|omega|(simp only[LN]<;>omega)|(simp(disch:=first|assumption|omega|(simp only[LN]<;>omega))only[Aab,Aad];assumption))only[P4,seval,gb1]
 refine⟨gb'.symm,Aag (tU _ k1) ?_⟩
 rintro w K2 ⟨hw,k2,fw⟩
 have k12:=k1.trans k2
 have hti:IL K2 t (trk a.r):=ht.sl.keeps k2
 have hwi:IL K2 w (trk b.r):=hw.sl
 have tl:(trk a.r).length≤32:=by simp[trk];omega
 have wl:(trk b.r).length≤32:=by simp[trk];omega
 have j2:=hk _ _ jK k12
 have ftw:∀{S T:Aaa} {l:List Int} {z:Value},z=t∨z=w→Chg [rb] S T→IL S z l→IL T z l:=fun hz c h=>Sl.chg h c (fun y e=>by
  have:K.n≤y:=by
   rcases hz with rfl|rfl
   ·exact ft y e
   ·have:=fw y e;omega
  simp;omega)
 have iT:=Sl.is hti
 have lT:=hti.len
 clear tT tU gb1 lb1 ga gb gl hly oa ob ga' gb'
 simp(disch:=first|assumption|omega)only[P3,seval,Aak,Aat,lT]
 rw[Aah]
 refine Aan (fun k fr M=>∃i x6 x7 x8 x9 x10 x11 x12 x13 x14 x15 x16 x21 x22 x23 x24 x25 x26 x27,fr=[.chan (some rb),ptr pa 0,ptr pb 0,ptr pl 0,t,w,x6,x7,x8,x9,x10,x11,x12,x13,x14,x15,x16,.bool false,t,.int .i64 (((trk a.r).length:Nat):Int),.int .i64 ((i:Nat):Int),x21,x22,x23,x24,x25,x26,x27]∧
  J M∧K2.n≤M.n∧IL M t (trk a.r)∧IL M w (trk b.r)∧i≤(trk a.r).length∧((trk a.r).take i).any (fun s=>(trk b.r).contains s)=false∧k=(trk a.r).length - i) (trk a.r).length
  ⟨0,_,_,_,_,_,_,_,_,_,_,_,_,_,_,_,_,_,_,rfl,j2,Nat.le_refl _,hti,hwi,by omega,by simp,rfl⟩ ?_
 rintro Q' k fr M ⟨i,x6,x7,x8,x9,x10,x11,x12,x13,x14,x15,x16,x21,x22,x23,x24,x25,x26,x27,rfl,jM,nM,hti,hwi,hi,hp,rfl⟩ hn hx hret
 by_cases hlt:i<(trk a.r).length
 ·obtain⟨na,ra⟩:=hti.at_ hlt
  have h0:(0:Int)≤(i:Int):=by omega
  have h1:(i:Int)<(((trk a.r).length:Nat):Int):=by omega
  have hw1:IntKind.i64.wrap ((i:Int)+1)=((i+1:Nat):Int):=by rw[Aae (by omega) (by omega)];simp
  have e1:(trk a.r).getD i 0=(trk a.r)[i]:=by simp[List.getD,List.getElem?_eq_getElem hlt]
  have tk:((trk a.r).take (i+1)).any (fun s=>(trk b.r).contains s)=(trk b.r).contains (trk a.r)[i]:=by rw[List.take_succ_eq_append_getElem hlt,List.any_append,hp];simp
  have an:(trk b.r).contains (trk a.r)[i]=true→Adk L a.r b.r=true:=fun e=>by
   have:(trk a.r).any (fun s=>(trk b.r).contains s)=true:=List.any_eq_true.2 ⟨_,List.getElem_mem hlt,e⟩
   simp only[Adk,this,Bool.or_true,Bool.true_or]
  rw[e1]at ra
  generalize(trk a.r)[i]=s at*
  simp(disch:=first|assumption|omega)only[P4,seval,lT,na,ra,Aal]
  refine Aaw (t99 hwi (by omega) s) ?_
  simp(disch:=first|assumption|omega)only[P4,seval,Abu]
  refine Ae3 (hy _ _ jM) ?_
  rintro _ M2 ⟨rfl,y1,y2⟩
  cases hc:(trk b.r).contains s with
  |true=>
   simp(disch:=first|assumption|omega)only[P4,seval]
   exact hret _ _ (stop (an hc) (y1 hc))
  |false=>
   obtain⟨jM2,c2⟩:=y2 hc
   simp(disch:=first|assumption|omega)only[P4,seval,hw1]
   exact hn _ _ _ ⟨i+1,_,_,_,_,_,_,_,_,_,_,_,_,_,_,_,_,_,_,rfl,jM2,Nat.le_trans nM c2.n,ftw (.inl rfl) c2 hti,ftw (.inr rfl) c2 hwi,by omega,by rw[tk,hc],rfl⟩ (by omega)
 have h1:¬(i:Int)<(((trk a.r).length:Nat):Int):=by omega
 rw[List.take_of_length_le (by omega)]at hp
 simp(disch:=first|assumption|omega)only[P4,seval,lT]
 refine hx 0 _ _ ?_
 clear hn hret
 obtain⟨lr2,ga,gb,gl,hly,oa,ob⟩:=hr _ jM
 have ga':=ga
 have gb':=gb
 rw[rowa]at ga'
 rw[rowb]at gb'
 have tT:=Bpo oa (by omega)
 have tU:=fun K' (k:Aac M K')=>Bpo (ob.keeps k) (by omega)
 rw[rowa]at tT
 simp only[rowb]at tU
 simp(disch:=first|assumption|omega|(simp only[LN]<;>omega)|(simp(disch:=first|assumption|omega|(simp only[LN]<;>omega))only[Aab,Aad];assumption))only[P4,seval,ga',gb']
 refine Aag tT ?_
 rintro _ M1 ⟨km1,ma,rfl,nma,hma⟩
 have gb1:=km1.at_ gb'
 have lb1:=Aaa.Bp9 gb
 simp(disch:=first|assumption|omega|(simp only[LN]<;>omega)|(simp(disch:=first|assumption|omega|(simp only[LN]<;>omega))only[Aab,Aad];assumption))only[P4,seval,gb1]
 refine⟨gb'.symm,Aag (tU _ km1) ?_⟩
 rintro _ M2 ⟨km2,mb,rfl,nmb,hmb⟩
 --LOOP2
 have km12:=km1.trans km2
 have jM2:=hk _ _ jM km12
 have hti2:IL M2 t (trk a.r):=hti.keeps km12
 have hwi2:IL M2 w (trk b.r):=hwi.keeps km12
 have hma2:MP Aum M2 ma (Afm (nds a.r)):=hma.get (km2.get _ hma.lt)
 have l1:=km1.n
 have l2:=km2.n
 have hKM:K.n≤M.n:=Nat.le_trans k12.n nM
 have gl2:=km12.at_ gl
 have lpp:=hL.p
 have ip:=Sl.is hly.p
 have lp:=hly.p.len
 clear tT tU gb1 lb1 ga gb oa ob ga' gb'
 simp only[V4.l]at gl2
 have lrb:rb<K.n:=lr1
 refine⟨trivial,?_⟩
 simp(disch:=first|assumption|omega)only[P3,seval,Aak,Aat,gl2,lp]
 rw[Aah]
 clear hti hwi jM gl hly hx hi hlt h1
 refine Aan (fun k fr X=>∃j y6 y9 y10 y11 y12 y13 y14 y15 y16 y17 y20 y21 y22 y26 y27,fr=[.chan (some rb),ptr pa 0,ptr pb 0,ptr pl 0,t,w,y6,.map (some ma),.map (some mb),y9,y10,y11,y12,y13,y14,y15,y16,y17,t,.int .i64 (((trk a.r).length:Nat):Int),y20,y21,y22,u.p,.int .i64 ((L.p.length:Nat):Int),.int .i64 ((j:Nat):Int),y26,y27]∧
  J X∧M2.n≤X.n∧IL X t (trk a.r)∧IL X w (trk b.r)∧MP Aum X ma (Afm (nds a.r))∧MP Aum X mb (Afm (nds b.r))∧j≤L.p.length∧(List.range j).any (cPt L a.r b.r)=false∧k=L.p.length-j) L.p.length
  ⟨0,_,_,_,_,_,_,_,_,_,_,_,_,_,_,_,rfl,jM2,Nat.le_refl _,hti2,hwi2,hma2,hmb,by omega,by simp,rfl⟩ ?_
 rintro Q' k fr X ⟨j,y6,y9,y10,y11,y12,y13,y14,y15,y16,y17,y20,y21,y22,y26,y27,rfl,jX,nX,hti,hwi,hma,hmb,hi,hp2,rfl⟩ hn hx hret
 obtain⟨_,_,_,_,hly,_,_⟩:=hr _ jX
 by_cases hlt:j<L.p.length
 ·obtain⟨na,ra⟩:=hly.p.at_ hlt
  have h0:(0:Int)≤(j:Int):=by omega
  have h1:(j:Int)<((L.p.length:Nat):Int):=by omega
  have hw1:IntKind.i64.wrap ((j:Int)+1)=((j+1:Nat):Int):=by rw[Aae (by omega) (by omega)];simp
  have pdef:cPt L a.r b.r j=((((Abq j (nds a.r)).isSome&&(Abq j (nds b.r)).isSome||(Abq j (nds a.r)).isSome&&(trk b.r).contains (L.p.getD j ([],0)).2)||(Abq j (nds b.r)).isSome&&(trk a.r).contains (L.p.getD j ([],0)).2)&& !(Abq j (nds a.r)==Abq j (nds b.r))):=rfl
  have bad:cPt L a.r b.r j=true→Adk L a.r b.r=true:=fun e=>by
   have:(List.range L.p.length).any (cPt L a.r b.r)=true:=List.any_eq_true.2 ⟨j,List.mem_range.2 hlt,e⟩
   simp only[Adk,this,Bool.or_true]
  have good:cPt L a.r b.r j=false→(List.range (j+1)).any (cPt L a.r b.r)=false:=fun e=>by rw[List.range_succ,List.any_append,hp2];simp[e]
  have sa:=fun(Y:Aaa) (k:Aac X Y)=>Aun (hma.get (k.get _ hma.lt)) j
  have sb:=fun(Y:Aaa) (k:Aac X Y)=>Aun (hmb.get (k.get _ hmb.lt)) j
  generalize L.p.getD j ([],0)=z at*
  have w1:one1 (Value.int .i64 z.2)=True:=by simp[one1,Aax]
  have w2:one1 (Value.string ⟨z.1.toArray⟩)=True:=by simp[one1,Abe]
  have kA:=(Aac.refl X).alloc (.cells true false 2 [.string ⟨z.1.toArray⟩,.int .i64 z.2] 89)
  have gx:=Aaa.Bp6 X (.cells true false 2 [.string ⟨z.1.toArray⟩,.int .i64 z.2] 89)
  obtain⟨X1,hX1⟩:∃Y,Y=X.alloc (.cells true false 2 [.string ⟨z.1.toArray⟩,.int .i64 z.2] 89):=⟨_,rfl⟩
  rw[←hX1]at kA gx
  have jX1:=hk _ _ jX kA
  have ht1:IL X1 t (trk a.r):=hti.keeps kA
  have hw2:IL X1 w (trk b.r):=hwi.keeps kA
  have ca:=sa _ kA
  have cb:=sb _ kA
  have nX1:X.n≤X1.n:=kA.n
  have nxt:∀X2,J X2→Chg [rb] X1 X2→cPt L a.r b.r j=false→∀z6 z9 z10 z11 z12 z13 z14 z15 z16 z17 z20 z21 z22 z26 z27,∃j' y6 y9 y10 y11 y12 y13 y14 y15 y16 y17 y20 y21 y22 y26 y27,[.chan (some rb),ptr pa 0,ptr pb 0,ptr pl 0,t,w,z6,.map (some ma),.map (some mb),z9,z10,z11,z12,z13,z14,z15,z16,z17,t,.int .i64 (((trk a.r).length:Nat):Int),z20,z21,z22,u.p,.int .i64 ((L.p.length:Nat):Int),.int .i64 ((j+1:Nat):Int),z26,z27]=[.chan (some rb),ptr pa 0,ptr pb 0,ptr pl 0,t,w,y6,.map (some ma),.map (some mb),y9,y10,y11,y12,y13,y14,y15,y16,y17,t,.int .i64 (((trk a.r).length:Nat):Int),y20,y21,y22,u.p,.int .i64 ((L.p.length:Nat):Int),.int .i64 ((j':Nat):Int),y26,y27]∧
   J X2∧M2.n≤X2.n∧IL X2 t (trk a.r)∧IL X2 w (trk b.r)∧MP Aum X2 ma (Afm (nds a.r))∧MP Aum X2 mb (Afm (nds b.r))∧j'≤L.p.length∧(List.range j').any (cPt L a.r b.r)=false∧L.p.length-(j+1)=L.p.length-j':=by
   intro X2 jX2 c2 hc
   intros
   have hma1:=hma.get (kA.get _ hma.lt)
   have hmb1:=hmb.get (kA.get _ hmb.lt)
   exact⟨j+1,_,_,_,_,_,_,_,_,_,_,_,_,_,_,_,rfl,jX2,by have:=c2.n;omega,ftw (.inl rfl) c2 ht1,ftw (.inr rfl) c2 hw2,hma1.get (c2.get _ hma1.lt (by simp;omega)),hmb1.get (c2.get _ hmb1.lt (by simp;omega)),by omega,good hc,rfl⟩
  clear sa sb
  simp(disch:=first|assumption|omega|(simp only[LN]<;>omega)|(simp(disch:=first|assumption|omega|(simp only[LN]<;>omega))only[Aab,Aad];assumption))only[P4,seval,lp,na,ra,Aai,w1,w2]
  simp only[←hX1]
  generalize Abq (j:Int) (nds a.r)=x at*
  generalize Abq (j:Int) (nds b.r)=y at*
  cases x with
  |none=>
   cases y with
   |none=>
    have hc:=True.intro
    simp only[Option.getD_none,Option.isSome_none]at ca cb
    simp(disch:=first|assumption|omega)only[P4,seval,Afg,ca,cb,gx,Abu]
    refine Ae3 (hy _ _ jX1) ?_
    rintro _ X2 ⟨rfl,y1,y2⟩
    obtain⟨jX2,c2⟩:=y2 rfl
    simp(disch:=first|assumption|omega)only[P4,seval,hw1]
    exact hn _ _ _ (nxt X2 jX2 c2 (by rw[pdef];first|rfl|(rw[hc];rfl)|(simp only[hc];simp)) _ _ _ _ _ _ _ _ _ _ _ _ _ _ _) (by omega)
   |some q=>
    simp only[Option.getD_none,Option.isSome_none,Option.getD_some,Option.isSome_some]at ca cb
    simp(disch:=first|assumption|omega)only[P4,seval,Afg,ca,cb,gx,Abu]
    refine Aaw (t99 ht1 (by omega) z.2) ?_
    cases hc:(trk a.r).contains z.2 with
    |true=>
     simp(disch:=first|assumption|omega)only[P4,seval,Abu]
     refine Ae3 (hy _ _ jX1) ?_
     rintro _ X2 ⟨rfl,y1,y2⟩
     simp(disch:=first|assumption|omega)only[P4,seval]
     exact hret _ _ (stop (bad (by rw[pdef];first|rfl|(rw[hc];rfl)|(simp only[hc];simp))) (y1 rfl))
    |false=>
     simp(disch:=first|assumption|omega)only[P4,seval,Abu]
     refine Ae3 (hy _ _ jX1) ?_
     rintro _ X2 ⟨rfl,y1,y2⟩
     obtain⟨jX2,c2⟩:=y2 rfl
     simp(disch:=first|assumption|omega)only[P4,seval,hw1]
     exact hn _ _ _ (nxt X2 jX2 c2 (by rw[pdef];first|rfl|(rw[hc];rfl)|(simp only[hc];simp)) _ _ _ _ _ _ _ _ _ _ _ _ _ _ _) (by omega)
  |some p=>
   cases y with
   |none=>
    simp only[Option.getD_none,Option.isSome_none,Option.getD_some,Option.isSome_some]at ca cb
    simp(disch:=first|assumption|omega)only[P4,seval,Afg,ca,cb,gx,Abu]
    refine Aaw (t99 hw2 (by omega) z.2) ?_
    cases hc:(trk b.r).contains z.2 with
    |true=>
     simp(disch:=first|assumption|omega)only[P4,seval,Abu]
     refine Ae3 (hy _ _ jX1) ?_
     rintro _ X2 ⟨rfl,y1,y2⟩
     simp(disch:=first|assumption|omega)only[P4,seval]
     exact hret _ _ (stop (bad (by rw[pdef];first|rfl|(rw[hc];rfl)|(simp only[hc];simp))) (y1 rfl))
    |false=>
     simp(disch:=first|assumption|omega)only[P4,seval,Abu]
     refine Ae3 (hy _ _ jX1) ?_
     rintro _ X2 ⟨rfl,y1,y2⟩
     obtain⟨jX2,c2⟩:=y2 rfl
     simp(disch:=first|assumption|omega)only[P4,seval,hw1]
     exact hn _ _ _ (nxt X2 jX2 c2 (by rw[pdef];first|rfl|(rw[hc];rfl)|(simp only[hc];simp)) _ _ _ _ _ _ _ _ _ _ _ _ _ _ _) (by omega)
   |some q=>
    simp only[Option.getD_some,Option.isSome_some]at ca cb
    have hc:=True.intro
    cases p with
    |true=>
     cases q with
     |true=>
      simp(disch:=first|assumption|omega)only[P4,seval,Afg,ca,cb,gx,Abu]
      refine Ae3 (hy _ _ jX1) ?_
      rintro _ X2 ⟨rfl,y1,y2⟩
      obtain⟨jX2,c2⟩:=y2 rfl
      simp(disch:=first|assumption|omega)only[P4,seval,hw1]
      exact hn _ _ _ (nxt X2 jX2 c2 (by rw[pdef];first|rfl|(rw[hc];rfl)|(simp only[hc];simp)) _ _ _ _ _ _ _ _ _ _ _ _ _ _ _) (by omega)
     |false=>
      simp(disch:=first|assumption|omega)only[P4,seval,Afg,ca,cb,gx,Abu]
      refine Ae3 (hy _ _ jX1) ?_
      rintro _ X2 ⟨rfl,y1,y2⟩
      simp(disch:=first|assumption|omega)only[P4,seval]
      exact hret _ _ (stop (bad (by rw[pdef];first|rfl|(rw[hc];rfl)|(simp only[hc];simp))) (y1 rfl))
    |false=>
     cases q with
     |true=>
      simp(disch:=first|assumption|omega)only[P4,seval,Afg,ca,cb,gx,Abu]
      refine Ae3 (hy _ _ jX1) ?_
      rintro _ X2 ⟨rfl,y1,y2⟩
      simp(disch:=first|assumption|omega)only[P4,seval]
      exact hret _ _ (stop (bad (by rw[pdef];first|rfl|(rw[hc];rfl)|(simp only[hc];simp))) (y1 rfl))
     |false=>
      simp(disch:=first|assumption|omega)only[P4,seval,Afg,ca,cb,gx,Abu]
      refine Ae3 (hy _ _ jX1) ?_
      rintro _ X2 ⟨rfl,y1,y2⟩
      obtain⟨jX2,c2⟩:=y2 rfl
      simp(disch:=first|assumption|omega)only[P4,seval,hw1]
      exact hn _ _ _ (nxt X2 jX2 c2 (by rw[pdef];first|rfl|(rw[hc];rfl)|(simp only[hc];simp)) _ _ _ _ _ _ _ _ _ _ _ _ _ _ _) (by omega)
 ·have h1:¬(j:Int)<((L.p.length:Nat):Int):=by omega
  have:j=L.p.length:=by omega
  subst this
  simp(disch:=first|assumption|omega)only[P4,seval,lp]
  refine hx 2 _ _ ?_
  refine hq1 _ _ ⟨_,rfl,fun e=>?_,fun _=>jX⟩
  simp only[Adk,hg,hp,hp2]at e
  cases e
end Go.AM.Fd

set_option maxRecDepth 8000
namespace Go.AM.Fd
open Nat (reduceAdd reduceEqDiff reduceLT reduceLeDiff reduceMul reduceSub)
open Go.Proofs Go.AM.F
theorem Be3(i:Nat)(fr:List Value)(H:Aaa):Acx [.c1 i] fr H=Aqm (fr.getD i undef) H:=by
 simp only[Acx,Agl,RX.get]
 cases Aqm (fr.getD i undef) H<;>rfl
theorem Auo{H:Aaa}{b:Nat}{own room:Bool}{T:Nat}{v:Value}(h:H.get b=some (.cells own room 1 [v] T)):Aqm (ptr b 0) H=some v:=by
 rw[Ayy];simp only[Ago,h];rfl
def Ari(H:Aaa)(u:V4)(a b:RV):Aaa:=((H.alloc (.cells true false 4 u.l 27)).alloc (.cells true false 6 a.row 87)).alloc (.cells true false 6 b.row 87)
theorem Aup(H:Aaa)(u:V4)(a b:RV):Aac H (Ari H u a b):=(((Aac.refl H).alloc _).alloc _).alloc _
theorem Be4(H:Aaa)(u:V4)(a b:RV):(Ari H u a b).n=H.n+3:=rfl
theorem A0b(H:Aaa)(u:V4)(a b:RV):(Ari H u a b).get H.n=some (.cells true false 4 u.l 27):=(((Aac.refl (H.alloc _)).alloc _).alloc _).at_ (Aaa.Bp6 H _)
theorem A0c(H:Aaa)(u:V4)(a b:RV):(Ari H u a b).get (H.n+1)=some (.cells true false 6 a.row 87):=((Aac.refl ((H.alloc (.cells true false 4 u.l 27)).alloc _)).alloc _).at_ (Aaa.Bp6 (H.alloc _) _)
theorem A0d(H:Aaa)(u:V4)(a b:RV):(Ari H u a b).get (H.n+2)=some (.cells true false 6 b.row 87):=Aaa.Bp6 ((H.alloc _).alloc _) _
theorem RV.ones{H:Aaa}{x:RV}(h:x.ok H):x.vp.oneCell'=true∧x.vq.oneCell'=true∧x.vo.oneCell'=true∧x.vf.oneCell'=true:=⟨Sl.one h.p,Sl.one h.q,Sl.one h.o,Sl.one h.f⟩
theorem t105{H:Aaa}{u:V4}{xs:List RV}{L:Ly}{a b:RV}(h:LyR H u xs L)(oa:a.ok H)(ob:b.ok H):
 ∃w H',Aau Tryz.prog 0 105 [.agg u.l.toArray,.agg a.row.toArray,.agg b.row.toArray] H w H'∧w=.func (.func 127) #[] #[ptr (H.n+1) 0,ptr (H.n+2) 0,ptr H.n 0]∧H'=Ari H u a b:=by
 refine Aaq A3q Ba4 ?_
 intro Q hq1 hq2
 have os:=Sl.one h.s
 have op:=Sl.one h.p
 have og:=Sl.one h.g
 have or:=Sl.one h.r
 obtain⟨a3,a4,a5,a6⟩:=RV.ones oa
 obtain⟨b3,b4,b5,b6⟩:=RV.ones ob
 have a1:one1 (Value.int .i64 a.r.g)=True:=by simp[one1,Aax]
 have a2:one1 (Value.string ⟨a.r.n.toArray⟩)=True:=by simp[one1,Abe]
 have b1:one1 (Value.int .i64 b.r.g)=True:=by simp[one1,Aax]
 have b2:one1 (Value.string ⟨b.r.n.toArray⟩)=True:=by simp[one1,Abe]
 have rowa:a.row=[.string ⟨a.r.n.toArray⟩,.int .i64 a.r.g,a.vp,a.vq,a.vo,a.vf]:=rfl
 have rowb:b.row=[.string ⟨b.r.n.toArray⟩,.int .i64 b.r.g,b.vp,b.vq,b.vo,b.vf]:=rfl
 unfold Ari at hq1 hq2
 simp only[V4.l,rowa,rowb]at*
 simp(disch:=first|assumption|omega)only[Bnp,P4,seval,os,op,og,or,a1,a2,a3,a4,a5,a6,b1,b2,b3,b4,b5,b6]
 exact hq2 _ _ ⟨_,rfl,rfl,rfl⟩
structure CJ (K:Aaa) (L:Alj) (X:Aaa):Prop where
 keep:Aac K X
 rec_:X.get K.n=some (.loop true .ready none L)
structure CX (H:Aaa) (vb rb:Nat) (L:Alj) (X:Aaa):Prop where
 keep:Aac H X
 var:X.get vb=some (.cells true false 1 [.bool true] 4)
 rec_:X.get rb=some (.loop true .done (some .ret) L)
theorem CJ.round{H K:Aaa}{vb:Nat}{x0 x1 x2 x3 x4 x5 x7 x8 x9 x10:Value}{X:Aaa}(hvH:H.n≤vb)(hv:vb<K.n)(hHK:Aac H K)(gv:K.get vb=some (.cells true false 1 [.bool false] 4))(v:Bool)
 (h:CJ K ⟨14,[0,1,2,3,4,5,6,7,11,12,13],[x0,x1,x2,x3,x4,x5,ptr vb 0,x7,x8,x9,x10],#[12],rfA Tryz.prog 67 0,rfB Tryz.prog 67 0⟩ X):
 ∃w H',Ae1 Tryz.prog 0 K.n [.bool v] X w H'∧w=.bool (!v)∧(v=true→CX H vb K.n ⟨14,[0,1,2,3,4,5,6,7,11,12,13],[x0,x1,x2,x3,x4,x5,ptr vb 0,x7,x8,x9,x10],#[12],rfA Tryz.prog 67 0,rfB Tryz.prog 67 0⟩ H')∧
  (v=false→CJ K ⟨14,[0,1,2,3,4,5,6,7,11,12,13],[x0,x1,x2,x3,x4,x5,ptr vb 0,x7,x8,x9,x10],#[12],rfA Tryz.prog 67 0,rfB Tryz.prog 67 0⟩ H'∧Chg [K.n] X H'):=by
 obtain⟨L,hL⟩:∃L:Alj,(⟨14,[0,1,2,3,4,5,6,7,11,12,13],[x0,x1,x2,x3,x4,x5,ptr vb 0,x7,x8,x9,x10],#[12],rfA Tryz.prog 67 0,rfB Tryz.prog 67 0⟩:Alj)=L:=⟨_,rfl⟩
 refine Aiz (R:=fun w H'=>w=.bool (!v)∧(v=true→CX H vb K.n _ H')∧(v=false→CJ K _ H'∧Chg [K.n] X H')) h.rec_ Aua Auc A3j rfl rfl ?_
 show W Tryz.prog 0 At9 _ [x0,x1,x2,x3,x4,x5,ptr vb 0,x7,x8,.bool v,x10] X
 rw[hL]at h ⊢
 have hrl:=Aaa.Bp9 h.rec_
 simp(disch:=first|assumption|omega)only[At9,P4,seval]
 refine⟨none,L,h.rec_,?_⟩
 obtain⟨X1,hX1⟩:∃Y,Y=X.set K.n (.loop true .busy none L):=⟨_,rfl⟩
 have n1:X1.n=X.n:=by rw[hX1];rfl
 have c1:Chg [K.n] X X1:=by rw[hX1];exact Chg.set X hrl _
 have gr1:X1.get K.n=some (.loop true .busy none L):=by rw[hX1];exact Aaa.Bp7 h.rec_ _
 have k1:Aac K X1:=h.keep.Bqa c1 (by simp)
 have gv1:=k1.at_ gv
 rw[←hX1]
 cases v with
 |true=>
  simp(disch:=first|assumption|omega)only[Aub,P4,seval,gv1]
  have hvl:=Aaa.Bp9 gv1
  have c2:Chg [vb] X1 (X1.set vb (.cells true false 1 [.bool true] 4)):=Chg.set X1 hvl _
  have gr2:=c2.at_ gr1 (by simp;omega)
  unfold Aha
  rw[gr2]
  refine⟨rfl,fun _=>⟨?_,?_,Aaa.Bp7 gr2 _⟩,fun e=>by cases e⟩
  ·exact(((hHK.trans k1).Bqa c2 (by simp;omega)).set (by have:=hHK.n;omega) (by show K.n<X1.n;omega) _)
  ·rw[Aaa.Bp8 _ (by omega) (by show K.n<X1.n;omega)]
   exact Aaa.Bp7 gv1 _
 |false=>
  simp(disch:=first|assumption|omega)only[Aub,P4,seval]
  unfold Aha
  rw[gr1]
  have c2:Chg [K.n] X1 (X1.set K.n (.loop true .ready none L)):=Chg.set X1 (by omega) _
  refine⟨rfl,fun e=>(by cases e),fun _=>⟨⟨k1.Bqa c2 (by simp),Aaa.Bp7 gr1 _⟩,c1.trans c2 (by simp)⟩⟩
set_option maxHeartbeats 1000000 in
theorem t67{H:Aaa}{u:V4}{xs:List RV}{L:Ly}{a b:RV}(h:LyR H u xs L)(oa:a.ok H)(ob:b.ok H)(la:Air L a.r)(lb:Air L b.r)(hL:Ah4 L):
 ∃w H',Aau Tryz.prog 0 67 [.agg u.l.toArray,.agg a.row.toArray,.agg b.row.toArray] H w H'∧w=.bool (Adk L a.r b.r)∧H'=H:=by
 suffices h':∃w H',Aau Tryz.prog 0 67 [.agg u.l.toArray,.agg a.row.toArray,.agg b.row.toArray] H w H'∧w=.bool (Adk L a.r b.r)∧Aac H H' by
  obtain⟨_,_,r,rfl,k⟩:=h'
  exact⟨_,_,r.gc0 k (.inr (.bool _)),rfl,rfl⟩
 refine Aaq Bas Bj2 ?_
 intro Q hq1 hq2
 have os:=Sl.one h.s
 have op:=Sl.one h.p
 have og:=Sl.one h.g
 have or:=Sl.one h.r
 obtain⟨a3,a4,a5,a6⟩:=RV.ones oa
 obtain⟨b3,b4,b5,b6⟩:=RV.ones ob
 have a1:one1 (Value.int .i64 a.r.g)=True:=by simp[one1,Aax]
 have a2:one1 (Value.string ⟨a.r.n.toArray⟩)=True:=by simp[one1,Abe]
 have b1:one1 (Value.int .i64 b.r.g)=True:=by simp[one1,Aax]
 have b2:one1 (Value.string ⟨b.r.n.toArray⟩)=True:=by simp[one1,Abe]
 have rowa:a.row=[.string ⟨a.r.n.toArray⟩,.int .i64 a.r.g,a.vp,a.vq,a.vo,a.vf]:=rfl
 have rowb:b.row=[.string ⟨b.r.n.toArray⟩,.int .i64 b.r.g,b.vp,b.vq,b.vo,b.vf]:=rfl
 have hul:u.l=[u.s,u.p,u.g,u.r]:=rfl
 obtain⟨K0,hK0⟩:∃X,X=(Ari H u a b).alloc (.cells true false 1 [.bool false] 4):=⟨_,rfl⟩
 have k0:Aac H K0:=by rw[hK0];exact(Aup H u a b).alloc _
 have n0:K0.n=H.n+4:=by rw[hK0];rfl
 have gv0:K0.get (H.n+3)=some (.cells true false 1 [.bool false] 4):=by rw[hK0];exact Aaa.Bp6 (Ari H u a b) _
 have tR:=t105 (h.keeps k0) (oa.keeps k0) (ob.keeps k0)
 have hK0':=hK0
 unfold Ari at hK0'
 simp only[hul,rowa,rowb]at tR hK0' ⊢
 simp(disch:=first|assumption|omega|(simp only[LN]<;>omega)|(simp(disch:=first|assumption|omega|(simp only[LN]<;>omega))only[Aab,Aad];assumption))only[f67,P4,seval,os,op,og,or,a1,a2,a3,a4,a5,a6,b1,b2,b3,b4,b5,b6]
 simp only[←hK0']
 refine Aag tR ?_
 rintro _ K ⟨rfl,hK⟩
 have k1:Aac K0 K:=by rw[hK];exact Aup _ _ _ _
 have n1:K.n=H.n+7:=by rw[hK,Be4,n0]
 have kH:Aac H K:=k0.trans k1
 have gvK:=k1.at_ gv0
 simp(disch:=first|assumption|omega)only[P4,seval]
 refine Ai0 rfl (Af1 (by kernel_rfl)) ?_
 obtain⟨L0,hL0⟩:∃L:Alj,L=⟨14,[0,1,2,3,4,5,6,7,11,12,13],[.agg #[u.s,u.p,u.g,u.r],.agg #[.string ⟨a.r.n.toArray⟩,.int .i64 a.r.g,a.vp,a.vq,a.vo,a.vf],.agg #[.string ⟨b.r.n.toArray⟩,.int .i64 b.r.g,b.vp,b.vq,b.vo,b.vf],
  ptr H.n 0,ptr (H.n+1) 0,ptr (H.n+2) 0,ptr (H.n+3) 0,undef,.func (.func 127) #[] #[ptr (K0.n+1) 0,ptr (K0.n+2) 0,ptr K0.n 0],undef,undef],#[12],rfA Tryz.prog 67 0,rfB Tryz.prog 67 0⟩:=⟨_,rfl⟩
 have kL:=(Aac.refl K).alloc (.loop true .ready none L0)
 have j0:CJ K L0 (K.alloc (.loop true .ready none L0)):=⟨kL,Aaa.Bp6 K _⟩
 have gl1:=A0b K0 u a b
 have ga1:=A0c K0 u a b
 have gb1:=A0d K0 u a b
 rw[←hK]at gl1 ga1 gb1
 have rd:∀X v,CJ K L0 X→∃w H',Ae1 Tryz.prog 0 K.n [.bool v] X w H'∧w=.bool (!v)∧(v=true→CX H (H.n+3) K.n L0 H')∧(v=false→CJ K L0 H'∧Chg [K.n] X H'):=by
  rw[hL0]
  intro X v hJ
  exact hJ.round (by omega) (by omega) kH gvK v
 obtain⟨w,X,r,r1,r2⟩:=t127 (u:=u) (xs:=xs) (L:=L) (a:=a) (b:=b) (CJ K L0) (CX H (H.n+3) K.n L0) (rb:=K.n) (pa:=K0.n+1) (pb:=K0.n+2) (pl:=K0.n) la lb hL
  (fun X hJ=>⟨Aaa.Bp9 hJ.rec_,hJ.keep.at_ ga1,hJ.keep.at_ gb1,hJ.keep.at_ gl1,h.keeps (kH.trans hJ.keep),oa.keeps (kH.trans hJ.keep),ob.keeps (kH.trans hJ.keep)⟩)
  (fun X Y hJ k=>⟨hJ.keep.trans k,k.at_ hJ.rec_⟩) rd j0
 rw[hL0]at r r1 r2
 refine⟨w,X,r,?_⟩
 cases hc:Adk L a.r b.r with
 |true=>
  obtain⟨q1,q2,q3⟩:=r1 hc
  have hrl:=Aaa.Bp9 q3
  refine Aqy q3 ?_
  have gv:(X.set K.n .dead).get (H.n+3)=some (.cells true false 1 [.bool true] 4):=by rw[Aaa.Bp8 X (by omega) hrl];exact q2
  refine hq2 _ _ ⟨.bool true,?_,by rw[hc],q1.set (by omega) hrl _⟩
  show Acx [.c1 6] _ _=_
  rw[Be3]
  exact Auo gv
 |false=>
  obtain⟨q1,q2⟩:=r2 hc
  have hrl:=Aaa.Bp9 q2
  refine Aee q2 ?_
  have gv:(X.set K.n .dead).get (H.n+3)=some (.cells true false 1 [.bool false] 4):=by rw[Aaa.Bp8 X (by omega) hrl];exact q1.at_ gvK
  simp(disch:=first|assumption|omega)only[P4,seval,gv]
  have hvl:=Aaa.Bp9 gv
  refine hq2 _ _ ⟨.bool false,?_,by rw[hc],((kH.trans q1).set (by omega) hrl _).set (by omega) hvl _⟩
  show Acx [.c1 6] _ _=_
  rw[Be3]
  exact Auo (Aaa.Bp7 gv _)
end Go.AM.Fd

namespace Go.AM.Fd
open Go.Proofs Go.AM.F
def Aa3(p:Nat→Bool):Nat→Nat
 |0=>0
 |n+1=>Aa3 p n|||(if p n then 2 ^ n else 0)
theorem Abf(p:Nat→Bool)(m:Nat):∀n,(Aa3 p n).testBit m=(decide (m<n)&&p m)
 |0=>by simp[Aa3]
 |n+1=>by
  rw[Aa3,Nat.testBit_or,Abf p m n]
  by_cases h:m=n
  ·subst h
   cases hp:p m<;>simp[Nat.testBit_two_pow]
  ·cases hp:p n
   ·simp only[Bool.false_eq_true,if_false,Nat.zero_testBit,Bool.or_false]
    congr 1
    by_cases h2:m<n
    ·simp[h2];omega
    ·have:¬m<n+1:=by omega
     simp[h2,this]
   ·simp only[if_true,Nat.testBit_two_pow]
    have e:decide (n=m)=false:=by simp;omega
    rw[e,Bool.or_false]
    congr 1
    by_cases h2:m<n
    ·simp[h2];omega
    ·have:¬m<n+1:=by omega
     simp[h2,this]
theorem Acp(p:Nat→Bool)(n:Nat):Aa3 p n<2 ^ n:=Nat.lt_pow_two_of_testBit _ (fun i hi=>by rw[Abf];simp;omega)
theorem Afh{p q:Nat→Bool}{n:Nat}(h:∀m,m<n→p m=q m):Aa3 p n=Aa3 q n:=by
 apply Nat.eq_of_testBit_eq
 intro i
 rw[Abf,Abf]
 by_cases hi:i<n
 ·rw[h i hi]
 ·simp[hi]
theorem Aos{x n:Nat}(h:x<2 ^ n):Aa3 (fun i=>x.testBit i) n=x:=by
 apply Nat.eq_of_testBit_eq
 intro i
 rw[Abf]
 by_cases hi:i<n
 ·simp[hi]
 ·have:x.testBit i=false:=Nat.testBit_lt_two_pow (Nat.lt_of_lt_of_le h (Nat.pow_le_pow_right (by omega) (by omega)))
  simp[hi,this]
abbrev U:Nat:=18446744073709551616
theorem uU:U=2 ^ 64:=rfl
theorem Be5(p:Nat→Bool){n:Nat}(hn:n≤64):Aa3 p n<U:=Nat.lt_of_lt_of_le (Acp p n) (Nat.pow_le_pow_right (by omega) hn)
theorem or_u{a b:Nat}(ha:a<U)(hb:b<U):a|||b<U:=Nat.or_lt_two_pow (n:=64) ha hb
theorem Be6{n:Nat}(h:n<64):Ab9 .shl (.int .u64 1) (.int .i64 (n:Int))=some (.int .u64 ((2 ^ n:Nat):Int)):=by
 rw[A7n .u64 1 (n:Int) .i64 (by omega)]
 have e:min (Int.toNat (n:Int)) IntKind.u64.bits=n:=by
  show min (Int.toNat (n:Int)) 64=n
  omega
 rw[e]
 have:2 ^ n<U:=by rw[uU];exact Nat.pow_lt_pow_right (by omega) h
 have e2:(1:Int)*2 ^ n=((2 ^ n:Nat):Int):=by simp
 rw[e2,App]
 have h3:2 ^ n<18446744073709551616:=this
 have h4:((2 ^ n:Nat):Int)<18446744073709551616:=Int.ofNat_lt.2 h3
 rw[Int.emod_eq_of_lt (Int.natCast_nonneg _) h4]
theorem A5t{n:Nat}(h:n<64):2 ^ n<U:=by rw[uU];exact Nat.pow_lt_pow_right (by omega) h
end Go.AM.Fd

namespace Go.AM.Fd
open Go.Proofs Go.AM.F
def S64(f:Nat→Bool):Value:=.int .u64 (Aa3 f 64:Nat)
def S32(f:Nat→Bool):Value:=.int .u32 (Aa3 f 32:Nat)
def I1(b:Bool):Value:=.int .u64 (if b then 1 else 0)
def Aa0(f:Nat→Bool):Bool:=(List.range 64).all fun i=> !f i
def Abk(f:Nat→Bool):Bool:=(List.range 32).all fun i=> !f i
theorem Aot(f g:Nat→Bool)(n:Nat):Aa3 f n&&& Aa3 g n=Aa3 (fun i=>f i&&g i) n:=by
 apply Nat.eq_of_testBit_eq;intro i
 rw[Nat.testBit_and,Abf,Abf,Abf]
 cases decide (i<n)<;>simp
theorem Au0(f g:Nat→Bool)(n:Nat):Aa3 f n|||Aa3 g n=Aa3 (fun i=>f i||g i) n:=by
 apply Nat.eq_of_testBit_eq;intro i
 rw[Nat.testBit_or,Abf,Abf,Abf]
 cases decide (i<n)<;>simp
theorem Au1(f g:Nat→Bool)(n:Nat):Aa3 f n ^^^ Aa3 g n=Aa3 (fun i=>(f i ^^ g i)) n:=by
 apply Nat.eq_of_testBit_eq;intro i
 rw[Nat.testBit_xor,Abf,Abf,Abf]
 cases decide (i<n)<;>simp
theorem Ajz{k n:Nat}(h:k<n):2 ^ k=Aa3 (fun i=>decide (i=k)) n:=by
 apply Nat.eq_of_testBit_eq;intro i
 rw[Nat.testBit_two_pow,Abf]
 by_cases e:i=k
 ·subst e;simp[h]
 ·have:¬k=i:=fun x=>e x.symm
  simp[e,this]
theorem Ax7(n:Nat):Aa3 (fun _=>false) n=0:=by
 apply Nat.eq_of_testBit_eq;intro i
 rw[Abf];simp
theorem Aou(f:Nat→Bool)(n k:Nat):Aa3 f n / 2 ^ k=Aa3 (fun i=>decide (i+k<n)&&f (i+k)) n:=by
 apply Nat.eq_of_testBit_eq;intro i
 rw[Nat.testBit_div_two_pow,Abf,Abf]
 by_cases h:i+k<n
 ·have:i<n:=by omega
  simp[h,this]
 ·simp[h]
theorem Amh(f:Nat→Bool)(n:Nat):(((Aa3 f n:Nat):Int)==0)=(List.range n).all fun i=> !f i:=by
 rw[Bool.eq_iff_iff,List.all_eq_true,beq_iff_eq]
 constructor
 ·intro h i hi
  have h2:Aa3 f n=0:=by omega
  have:=Abf f i n
  rw[h2]at this
  simp[List.mem_range.1 hi]at this
  simp[this]
 ·intro h
  have:Aa3 f n=0:=by
   rw[←Ax7 n]
   exact Afh fun m hm=>by have:=h m (List.mem_range.2 hm);simpa using this
  omega
theorem Ahf(f:Nat→Bool):BitVec.ofInt IntKind.u64.bits ((Aa3 f 64:Nat):Int)=BitVec.ofNat 64 (Aa3 f 64):=by
 show BitVec.ofInt 64 _=_
 rw[BitVec.ofInt_natCast]
theorem Ahg(f:Nat→Bool):BitVec.ofInt IntKind.u32.bits ((Aa3 f 32:Nat):Int)=BitVec.ofNat 32 (Aa3 f 32):=by
 show BitVec.ofInt 32 _=_
 rw[BitVec.ofInt_natCast]
theorem w64(n:Nat)(h:n<2 ^ 64):IntKind.u64.wrap (n:Int)=(n:Int):=by
 rw[App]
 have:n<18446744073709551616:=h
 omega
theorem w32(n:Nat)(h:n<2 ^ 32):IntKind.u32.wrap (n:Int)=(n:Int):=by
 rw[Apo]
 have:n<4294967296:=h
 omega
theorem m64(f:Nat→Bool):Aa3 f 64 % 2 ^ 64=Aa3 f 64:=Nat.mod_eq_of_lt (Acp f 64)
theorem m32(f:Nat→Bool):Aa3 f 32 % 2 ^ 32=Aa3 f 32:=Nat.mod_eq_of_lt (Acp f 32)
theorem Aeb(f g:Nat→Bool):Ab9 .and (S64 f) (S64 g)=some (S64 fun i=>f i&&g i):=by
 unfold S64;rw[Asp,Ahf,Ahf]
 show some (Value.int _ (IntKind.u64.wrap ((BitVec.ofNat 64 (Aa3 f 64)&&& BitVec.ofNat 64 (Aa3 g 64)).toNat:Int)))=_
 rw[BitVec.toNat_and,BitVec.toNat_ofNat,BitVec.toNat_ofNat,m64,m64,Aot,w64 _ (Acp _ _)]
theorem Ahh(f g:Nat→Bool):Ab9 .or (S64 f) (S64 g)=some (S64 fun i=>f i||g i):=by
 unfold S64;rw[Bhy,Ahf,Ahf]
 show some (Value.int _ (IntKind.u64.wrap ((BitVec.ofNat 64 (Aa3 f 64)|||BitVec.ofNat 64 (Aa3 g 64)).toNat:Int)))=_
 rw[BitVec.toNat_or,BitVec.toNat_ofNat,BitVec.toNat_ofNat,m64,m64,Au0,w64 _ (Acp _ _)]
theorem Bff(f g:Nat→Bool):Ab9 .xor (S64 f) (S64 g)=some (S64 fun i=>f i ^^ g i):=by
 unfold S64;rw[Aqs,Ahf,Ahf]
 show some (Value.int _ (IntKind.u64.wrap ((BitVec.ofNat 64 (Aa3 f 64) ^^^ BitVec.ofNat 64 (Aa3 g 64)).toNat:Int)))=_
 rw[BitVec.toNat_xor,BitVec.toNat_ofNat,BitVec.toNat_ofNat,m64,m64,Au1,w64 _ (Acp _ _)]
theorem A0h(k:IntKind)(a b:Int):Ab9 .andNot (.int k a) (.int k b)=some (.int k (k.wrap (BitVec.ofInt k.bits a&&& ~~~ BitVec.ofInt k.bits b).toNat)):=by simp[Ab9,Amp]
theorem Au2{w:Nat}(f g:Nat→Bool):(BitVec.ofNat w (Aa3 f w)&&& ~~~ BitVec.ofNat w (Aa3 g w)).toNat=Aa3 (fun i=>f i&& !g i) w:=by
 apply Nat.eq_of_testBit_eq;intro i
 rw[BitVec.testBit_toNat,Abf]
 by_cases h:i<w
 ·simp only[BitVec.getLsbD_and,BitVec.getLsbD_not,BitVec.getLsbD_ofNat,Abf,h,decide_true,Bool.true_and]
 ·simp[h,BitVec.getLsbD_of_ge,Nat.le_of_not_lt h]
theorem Aec(f g:Nat→Bool):Ab9 .andNot (S64 f) (S64 g)=some (S64 fun i=>f i&& !g i):=by
 unfold S64;rw[A0h,Ahf,Ahf]
 have:=Au2 (w:=64) f g
 show some (Value.int _ (IntKind.u64.wrap ((BitVec.ofNat 64 (Aa3 f 64)&&& ~~~ BitVec.ofNat 64 (Aa3 g 64)).toNat:Int)))=_
 rw[this,w64 _ (Acp _ _)]
theorem Afr(f g:Nat→Bool):Ab9 .and (S32 f) (S32 g)=some (S32 fun i=>f i&&g i):=by
 unfold S32;rw[Asp,Ahg,Ahg]
 show some (Value.int _ (IntKind.u32.wrap ((BitVec.ofNat 32 (Aa3 f 32)&&& BitVec.ofNat 32 (Aa3 g 32)).toNat:Int)))=_
 rw[BitVec.toNat_and,BitVec.toNat_ofNat,BitVec.toNat_ofNat,m32,m32,Aot,w32 _ (Acp _ _)]
theorem Anj(f g:Nat→Bool):Ab9 .or (S32 f) (S32 g)=some (S32 fun i=>f i||g i):=by
 unfold S32;rw[Bhy,Ahg,Ahg]
 show some (Value.int _ (IntKind.u32.wrap ((BitVec.ofNat 32 (Aa3 f 32)|||BitVec.ofNat 32 (Aa3 g 32)).toNat:Int)))=_
 rw[BitVec.toNat_or,BitVec.toNat_ofNat,BitVec.toNat_ofNat,m32,m32,Au0,w32 _ (Acp _ _)]
theorem Aq9(f g:Nat→Bool):Ab9 .xor (S32 f) (S32 g)=some (S32 fun i=>f i ^^ g i):=by
 unfold S32;rw[Aqs,Ahg,Ahg]
 show some (Value.int _ (IntKind.u32.wrap ((BitVec.ofNat 32 (Aa3 f 32) ^^^ BitVec.ofNat 32 (Aa3 g 32)).toNat:Int)))=_
 rw[BitVec.toNat_xor,BitVec.toNat_ofNat,BitVec.toNat_ofNat,m32,m32,Au1,w32 _ (Acp _ _)]
theorem Ac8(f g:Nat→Bool):Ab9 .andNot (S32 f) (S32 g)=some (S32 fun i=>f i&& !g i):=by
 unfold S32;rw[A0h,Ahg,Ahg]
 have:=Au2 (w:=32) f g
 show some (Value.int _ (IntKind.u32.wrap ((BitVec.ofNat 32 (Aa3 f 32)&&& ~~~ BitVec.ofNat 32 (Aa3 g 32)).toNat:Int)))=_
 rw[this,w32 _ (Acp _ _)]
theorem Ac2:Value.int .u64 0=S64 (fun _=>false):=by unfold S64;rw[Ax7];rfl
theorem Afn:Value.int .u32 0=S32 (fun _=>false):=by unfold S32;rw[Ax7];rfl
theorem Aer(f:Nat→Bool):Ab9 .eql (S64 f) (.int .u64 0)=some (.bool (Aa0 f)):=by
 unfold S64 Aa0;rw[Aqr,Amh]
theorem Aov(f:Nat→Bool):Ab9 .neq (S64 f) (.int .u64 0)=some (.bool (!Aa0 f)):=by
 unfold S64 Aa0;rw[A1p,bne,Amh]
theorem Aow(f:Nat→Bool):Ab9 .eql (S32 f) (.int .u32 0)=some (.bool (Abk f)):=by
 unfold S32 Abk;rw[Aqr,Amh]
theorem Au3(f:Nat→Bool):Ab9 .neq (S32 f) (.int .u32 0)=some (.bool (!Abk f)):=by
 unfold S32 Abk;rw[A1p,bne,Amh]
theorem Aej{n:Nat}(h:n<64):Ab9 .shl (.int .u64 1) (.int .i64 (n:Int))=some (S64 fun i=>decide (i=n)):=by
 rw[Be6 h,Ajz h];rfl
theorem Alh{n:Nat}(h:n<32):Ab9 .shl (.int .u32 1) (.int .i64 (n:Int))=some (S32 fun i=>decide (i=n)):=by
 rw[A7n .u32 1 (n:Int) .i64 (by omega)]
 have e:min (Int.toNat (n:Int)) IntKind.u32.bits=n:=by
  show min (Int.toNat (n:Int)) 32=n
  omega
 rw[e]
 have e2:(1:Int)*2 ^ n=((2 ^ n:Nat):Int):=by simp
 rw[e2,w32 _ (Nat.pow_lt_pow_right (by omega) h),Ajz h];rfl
theorem Ara(f:Nat→Bool)(n:Nat):Ab9 .shr (S64 f) (.int .i64 (n:Int))=some (S64 fun i=>decide (i+n<64)&&f (i+n)):=by
 unfold S64
 rw[Am5 .u64 _ (n:Int) .i64 (by omega)]
 congr 2
 have e:(2:Int) ^ min (Int.toNat (n:Int)) IntKind.u64.bits=((2 ^ (min n 64):Nat):Int):=by
  have:min (Int.toNat (n:Int)) IntKind.u64.bits=min n 64:=by show min (Int.toNat (n:Int)) 64=min n 64;omega
  rw[this];simp
 rw[e,Int.fdiv_eq_ediv_of_nonneg _ (Int.natCast_nonneg _),←Int.natCast_ediv,Aou]
 congr 1
 apply Afh
 intro m hm
 by_cases h:n≤64
 ·rw[Nat.min_eq_left h]
 ·have h1:¬m+n<64:=by omega
  have h2:¬m+min n 64<64:=by omega
  simp[h1,h2]
theorem Ank(f:Nat→Bool)(n:Nat):Ab9 .shr (S32 f) (.int .i64 (n:Int))=some (S32 fun i=>decide (i+n<32)&&f (i+n)):=by
 unfold S32
 rw[Am5 .u32 _ (n:Int) .i64 (by omega)]
 congr 2
 have e:(2:Int) ^ min (Int.toNat (n:Int)) IntKind.u32.bits=((2 ^ (min n 32):Nat):Int):=by
  have:min (Int.toNat (n:Int)) IntKind.u32.bits=min n 32:=by show min (Int.toNat (n:Int)) 32=min n 32;omega
  rw[this];simp
 rw[e,Int.fdiv_eq_ediv_of_nonneg _ (Int.natCast_nonneg _),←Int.natCast_ediv,Aou]
 congr 1
 apply Afh
 intro m hm
 by_cases h:n≤32
 ·rw[Nat.min_eq_left h]
 ·have h1:¬m+n<32:=by omega
  have h2:¬m+min n 32<32:=by omega
  simp[h1,h2]
theorem Bfg(n:Nat)(f:Nat→Bool)(h:0<n):Aa3 f n&&& 1=if f 0 then 1 else 0:=by
 apply Nat.eq_of_testBit_eq;intro i
 have e:(1:Nat).testBit i=decide (i=0):=by
  have:=Nat.testBit_two_pow (n:=0) (m:=i)
  rw[Nat.pow_zero]at this
  rw[this];simp[eq_comm]
 rw[Nat.testBit_and,Abf,e]
 by_cases h2:i=0
 ·subst h2
  cases hf:f 0<;>simp[h]
 ·cases hf:f 0<;>simp[h2,e]
theorem A0i(f:Nat→Bool):Ab9 .and (S64 f) (.int .u64 1)=some (I1 (f 0)):=by
 unfold S64 I1
 rw[Asp,Ahf]
 have e1:BitVec.ofInt IntKind.u64.bits 1=BitVec.ofNat 64 1:=rfl
 rw[e1]
 show some (Value.int _ (IntKind.u64.wrap ((BitVec.ofNat 64 (Aa3 f 64)&&& BitVec.ofNat 64 1).toNat:Int)))=_
 rw[BitVec.toNat_and,BitVec.toNat_ofNat,BitVec.toNat_ofNat,m64]
 have e2:1 % 2 ^ 64=1:=by decide
 rw[e2,Bfg 64 f (by omega)]
 cases f 0<;>rfl
theorem A50(b:Bool):Ab9 .eql (I1 b) (.int .u64 1)=some (.bool b):=by cases b<;>rfl
def I1p(b:Bool):Value:=.int .u32 (if b then 1 else 0)
theorem Anl(f:Nat→Bool):Ab9 .and (S32 f) (.int .u32 1)=some (I1p (f 0)):=by
 unfold S32 I1p
 rw[Asp,Ahg]
 have e1:BitVec.ofInt IntKind.u32.bits 1=BitVec.ofNat 32 1:=rfl
 rw[e1]
 show some (Value.int _ (IntKind.u32.wrap ((BitVec.ofNat 32 (Aa3 f 32)&&& BitVec.ofNat 32 1).toNat:Int)))=_
 rw[BitVec.toNat_and,BitVec.toNat_ofNat,BitVec.toNat_ofNat,m32]
 have e2:1 % 2 ^ 32=1:=by decide
 rw[e2,Bfg 32 f (by omega)]
 cases f 0<;>rfl
theorem Bfh(b:Bool):Ab9 .eql (I1p b) (.int .u32 1)=some (.bool b):=by cases b<;>rfl
theorem Ami(b:Bool):Ab9 .eql (I1p b) (.int .u32 0)=some (.bool !b):=by cases b<;>rfl
theorem Bfi(f:Nat→Bool)(H:Aaa):Aam (.i2i .u64 (S32 f)) H=some (S64 (fun i=>decide (i<32)&&f i),H):=by
 unfold S32 S64
 rw[A2h,w64 _ (Nat.lt_of_lt_of_le (Acp f 32) (Nat.pow_le_pow_right (by omega) (by omega)))]
 congr 4
 apply Nat.eq_of_testBit_eq;intro i
 rw[Abf,Abf]
 by_cases h:i<32
 ·have:i<64:=by omega
  simp[h,this]
 ·simp[h]
theorem Ahi(f:Nat→Bool)(H:Aaa):Aam (.i2i .u32 (S64 f)) H=some (S32 f,H):=by
 unfold S32 S64
 rw[A2h,Apo]
 congr 3
 have e:((Aa3 f 64:Nat):Int) % 4294967296=((Aa3 f 64 % 2 ^ 32:Nat):Int):=by omega
 rw[e]
 congr 1
 apply Nat.eq_of_testBit_eq;intro i
 rw[Nat.testBit_mod_two_pow,Abf,Abf]
 by_cases h:i<32
 ·have:i<64:=by omega
  simp[h,this]
 ·simp[h]
theorem Acu(f:Nat→Bool):one1 (S64 f)=True:=by simp[S64,one1,Aax]
theorem Afs(f:Nat→Bool):one1 (S32 f)=True:=by simp[S32,one1,Aax]
theorem Bpt(b:Bool):one1 (I1 b)=True:=by simp[I1,one1,Aax]
theorem Abn(f:Nat→Bool):(S64 f).oneCell'=true:=rfl
theorem Ab8(f:Nat→Bool):(S32 f).oneCell'=true:=rfl
theorem Ap3{x:Int}(h:0≤x)(h2:x<18446744073709551616):∃f,Value.int .u64 x=S64 f:=by
 refine⟨fun i=>x.toNat.testBit i,?_⟩
 unfold S64
 rw[Aos (by omega:x.toNat<2 ^ 64)]
 congr 1;omega
theorem Au4{x:Int}(h:0≤x)(h2:x<4294967296):∃f,Value.int .u32 x=S32 f:=by
 refine⟨fun i=>x.toNat.testBit i,?_⟩
 unfold S32
 rw[Aos (by omega:x.toNat<2 ^ 32)]
 congr 1;omega
theorem Abl{f g:Nat→Bool}(h:∀i,i<64→f i=g i):S64 f=S64 g:=by unfold S64;rw[Afh h]
theorem A51{f g:Nat→Bool}(h:∀i,i<32→f i=g i):S32 f=S32 g:=by unfold S32;rw[Afh h]
theorem gci{P:Program}{ng:Nat}{f:FuncId}{xs:List Value}{H:Aaa}{k:IntKind}{n:Int}(h:∃w H',Aau P ng f xs H w H'∧w=.int k n∧Aac H H'):∃w H',Aau P ng f xs H w H'∧w=.int k n∧H'=H:=by
 obtain⟨_,_,a,rfl,k⟩:=h
 exact⟨_,_,a.gc0 k (.inr (.int _ _)),rfl,rfl⟩
set_option linter.defProp false in
def O4:=And.intro @Acu (And.intro @Afs (And.intro @Abn @Ab8))
end Go.AM.Fd

namespace Go.AM.Fd
open Go.Proofs Go.AM.F
def ro(L:Ly)(i:Nat):Ro:=L.r.getD i rv0.r
def cf(L:Ly)(i k:Nat):Bool:=Adk L (ro L i) (ro L k)
def dn(i k a b:Nat):Bool:=decide (a<i)||(decide (a=i)&&decide (b<k))
def tb_(L:Ly)(i k j m:Nat):Bool:=(decide (m<j)&&dn i k j m&&cf L j m)||(decide (j<m)&&dn i k m j&&cf L m j)
def tR(L:Ly)(i k j:Nat):Nat:=Aa3 (tb_ L i k j) 64
theorem A5u(L:Ly)(i j:Nat):tR L i i j=tR L (i+1) 0 j:=by
 apply Afh
 intro m hm
 unfold tb_ dn
 by_cases h1:m<j
 ·have h2:¬j<m:=by omega
  simp only[h1,h2,decide_true,decide_false,Bool.true_and,Bool.false_and,Bool.or_false]
  congr 1
  by_cases h3:j<i
  ·have:j<i+1:=by omega
   simp[h3,this]
  ·by_cases h4:j=i
   ·subst h4;simp[h1]
   ·have:¬j<i+1:=by omega
    simp[h3,h4,this]
 ·by_cases h2:j<m
  ·simp only[h1,h2,decide_true,decide_false,Bool.true_and,Bool.false_and,Bool.false_or]
   congr 1
   by_cases h3:m<i
   ·have:m<i+1:=by omega
    simp[h3,this]
   ·by_cases h4:m=i
    ·subst h4;simp[h2]
    ·have:¬m<i+1:=by omega
     simp[h3,h4,this]
  ·simp[h1,h2]
theorem Amf(L:Ly){i k j:Nat}(hk:k<i):∀m,tb_ L i (k+1) j m=(tb_ L i k j m||(decide (j=i)&&decide (m=k)&&cf L i k)||(decide (j=k)&&decide (m=i)&&cf L i k)):=by
 intro m
 unfold tb_ dn
 by_cases e1:j=i
 ·subst e1
  by_cases e2:m=k
  ·subst e2
   have a1:¬j<m:=by omega
   simp[hk,a1]
  ·have a1:decide (m<k+1)=decide (m<k):=by by_cases h:m<k<;>simp[h]<;>omega
   have a2:¬j=k:=by omega
   by_cases h:j<m
   ·have:¬m<j:=by omega
    have:¬m=j:=by omega
    simp[*]
   ·simp[*]
 ·by_cases e3:j=k
  ·subst e3
   by_cases e4:m=i
   ·subst e4
    have a1:¬m<j:=by omega
    simp[hk,a1];try omega
   ·simp[e1,e4]
  ·have a2:decide (j<k+1)=decide (j<k):=by by_cases h:j<k<;>simp[h]<;>omega
   simp[e1,e3,a2]
theorem Ax4{l k:List Int}:(l.any fun s=>k.contains s)=k.any fun s=>l.contains s:=by
 rw[Bool.eq_iff_iff]
 simp only[List.any_eq_true,List.contains_iff_mem]
 exact⟨fun⟨x,a,b⟩=>⟨x,b,a⟩,fun⟨x,a,b⟩=>⟨x,b,a⟩⟩
theorem Auq(L:Ly)(a b:Ro):Adk L a b=Adk L b a:=by
 have h1:(a.g==b.g)=(b.g==a.g):=by rw[Bool.eq_iff_iff];simp only[beq_iff_eq];exact eq_comm
 have h2:∀p,cPt L a b p=cPt L b a p:=by
  intro p
  unfold cPt
  have e:(Abq (p:Int) (nds a)==Abq (p:Int) (nds b))=(Abq (p:Int) (nds b)==Abq (p:Int) (nds a)):=by rw[Bool.eq_iff_iff];simp only[beq_iff_eq];exact eq_comm
  simp only[e]
  congr 1
  generalize(Abq (p:Int) (nds a)).isSome=x
  generalize(Abq (p:Int) (nds b)).isSome=y
  generalize(trk b).contains _=u
  generalize(trk a).contains _=v
  cases x<;>cases y<;>cases u<;>cases v<;>rfl
 unfold Adk
 rw[h1,Ax4,funext h2]
def Bmd(L:Ly)(j:Nat):Nat:=Aa3 (fun m=>decide (m≠j)&&cf L j m) L.r.length
theorem Be7(L:Ly){j:Nat}(hj:j<L.r.length)(hl:L.r.length≤64):tR L L.r.length 0 j=Bmd L j:=by
 apply Nat.eq_of_testBit_eq
 intro m
 rw[tR,Bmd,Abf,Abf]
 unfold tb_ dn
 by_cases h1:m<L.r.length
 ·have h2:m<64:=by omega
  by_cases h3:m<j
  ·have h5:¬j<m:=by omega
   have h6:¬m=j:=by omega
   simp[h1,h2,h3,h5,h6,hj]
  ·by_cases h4:j<m
   ·have:m≠j:=by omega
    simp only[h1,h2,h3,h4,this,decide_true,decide_false,Bool.true_and,Bool.false_and,Bool.false_or,Bool.true_or,Bool.and_true]
    simp only[cf]
    have h7:¬m=j:=by omega
    rw[Auq];simp[h7]
   ·have e:m=j:=by omega
    subst e
    simp
 ·simp only[h1,decide_false,Bool.false_and]
  by_cases h3:m<j
  ·omega
  ·have:¬j<m∨j<m:=by omega
   simp[h1,h3]
def tc(L:Ly)(i k n:Nat):List Value:=(List.range n).map fun j=>S64 (tb_ L i k j)
theorem A0e(L:Ly)(i k n:Nat):(tc L i k n).length=n:=by simp[tc]
theorem Ane(L:Ly)(i k:Nat){n j:Nat}(h:j<n):(tc L i k n)[j]? =some (S64 (tb_ L i k j)):=by simp[tc,h]
theorem tc_0(L:Ly)(n:Nat):List.replicate n (.int .u64 0)=tc L 0 0 n:=by
 apply List.ext_getElem?
 intro j
 by_cases h:j<n
 ·rw[Ane _ _ _ h,List.getElem?_replicate,if_pos h,Ac2]
  congr 1
  exact Abl fun m hm=>by simp[tb_,dn]
 ·simp[tc,h]
theorem A5v(L:Ly)(i n:Nat):tc L i i n=tc L (i+1) 0 n:=by
 unfold tc
 congr 1
 funext j
 have:=A5u L i j
 unfold tR at this
 unfold S64
 rw[this]
theorem Bme(L:Ly){i k n:Nat}(hk:k<i)(hc:cf L i k=false):tc L i k n=tc L i (k+1) n:=by
 unfold tc
 congr 1
 funext j
 apply Abl
 intro m hm
 rw[Amf L hk,hc];simp
theorem Be8(L:Ly){i k n:Nat}(hk:k<i)(hi:i<n)(hc:cf L i k=true){f g:Nat→Bool}(hf:∀m,f m=(tb_ L i k i m||decide (m=k)))(hg:∀m,g m=(tb_ L i k k m||decide (m=i))):
 ((tc L i k n).set i (S64 f)).set k (S64 g)=tc L i (k+1) n:=by
 apply List.ext_getElem?
 intro j
 rw[List.getElem?_set,List.getElem?_set]
 simp only[List.length_set,A0e]
 by_cases e1:k=j
 ·subst e1
  have h1:k<n:=by omega
  have h2:¬k=i:=by omega
  rw[if_pos rfl,if_pos h1,Ane _ _ _ h1]
  congr 1
  apply Abl
  intro m hm
  rw[Amf L hk,hc,hg]
  simp[h2]
 ·rw[if_neg e1]
  by_cases e2:i=j
  ·subst e2
   rw[if_pos rfl,if_pos hi,Ane _ _ _ hi]
   congr 1
   apply Abl
   intro m hm
   have:¬i=k:=by omega
   rw[Amf L hk,hc,hf]
   simp[this]
  ·rw[if_neg e2]
   by_cases h:j<n
   ·rw[Ane _ _ _ h,Ane _ _ _ h]
    congr 1
    apply Abl
    intro m hm
    have e3:¬j=k:=fun e=>e1 e.symm
    have e4:¬j=i:=fun e=>e2 e.symm
    rw[Amf L hk,hc]
    simp[e3,e4]
   ·simp[tc,h]
def Ain(L:Ly)(j m:Nat):Bool:=decide (m<L.r.length)&&(decide (m≠j)&&cf L j m)
def A60(L:Ly):List Value:=(List.range L.r.length).map fun j=>S64 (Ain L j)
theorem Be9(L:Ly)(hl:L.r.length≤64):tc L L.r.length 0 L.r.length=A60 L:=by
 apply List.ext_getElem?
 intro j
 by_cases h:j<L.r.length
 ·rw[Ane _ _ _ h]
  simp only[A60,List.getElem?_map,List.getElem?_range h,Option.map_some]
  congr 1
  have:=Be7 L h hl
  unfold tR Bmd at this
  apply Abl
  intro m hm
  have e:=Abf (tb_ L L.r.length 0 j) m 64
  rw[this,Abf]at e
  simp only[hm,decide_true,Bool.true_and]at e
  rw[←e];rfl
 ·simp[tc,A60,h]
end Go.AM.Fd

set_option maxRecDepth 8000
namespace Go.AM.Fd
open Nat (reduceAdd reduceEqDiff reduceLT reduceLeDiff reduceMul reduceSub)
open Go.Proofs Go.AM.F
theorem Ac4{L:Ly}{i:Nat}(h:i<L.r.length):ro L i=L.r[i]:=by unfold ro;rw[List.getD_eq_getElem?_getD,List.getElem?_eq_getElem h];rfl
theorem Agn{H:Aaa}{u:V4}{xs:List RV}{L:Ly}(h:LyR H u xs L){i:Nat}(hi:i<L.r.length):(xs.getD i rv0).r=ro L i∧(xs.getD i rv0).ok H:=by
 have hl:i<xs.length:=by have:=h.e;rw[←this]at hi;simpa using hi
 have e0:xs.getD i rv0=xs[i]:=by rw[List.getD_eq_getElem?_getD,List.getElem?_eq_getElem hl];rfl
 rw[e0]
 refine⟨?_,h.ok _ (List.getElem_mem hl)⟩
 rw[Ac4 hi]
 have e:=congrArg (fun l:List Ro=>l[i]?) h.e
 simp only[List.getElem?_map,List.getElem?_eq_getElem hl,List.getElem?_eq_getElem hi,Option.map_some]at e
 exact Option.some.inj e
set_option maxHeartbeats 2000000 in
theorem t118{H:Aaa}{u:V4}{xs:List RV}{L:Ly}(h:LyR H u xs L)(hf:Aih 9223372036854775807 L):
 ∃w H',Aau Tryz.prog 0 118 [.agg u.l.toArray] H w H'∧Aac H H'∧(Aar L≠0→w=.tuple #[.slice none 0 0,.int .i64 (Aar L)])∧
  (Aar L=0→∃b,w=.tuple #[slc b 0 L.r.length L.r.length,.int .i64 0]∧H.n≤b∧H'.get b=some (.cells true false 1 (A60 L) 39)):=by
 refine Aaq A3k Bav ?_
 intro Q hq1 hq2
 have os:=Sl.one h.s
 have op:=Sl.one h.p
 have og:=Sl.one h.g
 have or:=Sl.one h.r
 have ir:=Sl.is h.r
 have kA:=(Aac.refl H).alloc (.cells true false 4 u.l 27)
 have gA:=Aaa.Bp6 H (.cells true false 4 u.l 27)
 have hA:=h.keeps kA
 have tC:=t30 hA hf
 have hul:u.l=[u.s,u.p,u.g,u.r]:=rfl
 simp only[hul]at kA gA tC hA ⊢
 simp(disch:=first|assumption|omega|(simp only[LN]<;>omega)|(simp(disch:=first|assumption|omega|(simp only[LN]<;>omega))only[Aab,Aad];assumption))only[Bnl,P4,seval,os,op,og,or]
 refine Aag tC ?_
 rintro _ X ⟨hX,ie,rfl⟩
 rw[hX]
 by_cases he:Aar L=0
 case neg=>
  have e1:(Aar L != 0)=true:=by simp[he]
  simp(disch:=first|assumption|omega)only[P4,seval,e1]
  exact hq2 _ _ ⟨_,rfl,kA,fun _=>rfl,fun e=>absurd e he⟩
 case pos=>
 have hmay:Afc L=true:=by
  unfold Aar at he
  cases hm:Afc L with
  |true=>rfl
  |false=>rw[hm]at he;cases he
 have hL:=Aa8 hmay
 have hrl:=h.rlen
 have hlr:=hL.r
 have e1:(Aar L != 0)=false:=by simp[he]
 obtain⟨K0,hK0⟩:∃X,X=H.alloc (.cells true false 4 [u.s,u.p,u.g,u.r] 27):=⟨_,rfl⟩
 have n0:K0.n=H.n+1:=by rw[hK0];rfl
 rw[←hK0]at kA gA hA
 have lr:=h.r.len
 obtain⟨n,hn⟩:∃n,L.r.length=n:=⟨_,rfl⟩
 have hmk:Aam (.mksl 39 1 8 [.int .u64 0] (.int .i64 ((n:Nat):Int)) (.int .i64 ((n:Nat):Int))) K0=some (slc K0.n 0 n n,K0.alloc (.cells true false 1 (tc L 0 0 n) 39)):=by
  simp only[Aam]
  rw[if_pos ⟨by omega,by omega,by omega,by omega,rfl,rfl⟩,Int.toNat_natCast,List.flatten_replicate_singleton,tc_0 L]
 rw[hrl,hn]at lr
 have hmk':=hmk
 rw[hK0]at hmk'
 simp(disch:=first|assumption|omega|(simp only[LN]<;>omega)|(simp(disch:=first|assumption|omega|(simp only[LN]<;>omega))only[Aab,Aad];assumption))only[P3,seval,Aak,Aat,e1,gA,lr,ir,hmk']
 rw[←hK0]
 have mk0:=(Aac.refl K0).alloc (.cells true false 1 (tc L 0 0 n) 39)
 have mg0:=Aaa.Bp6 K0 (.cells true false 1 (tc L 0 0 n) 39)
 rw[n0]at mg0
 rw[Aah]
 refine Aan (fun q fr M=>∃i x6 x7 x8 x13 x14 x15 x16 x17,fr=[.agg #[u.s,u.p,u.g,u.r],ptr H.n 0,.slice none 0 0,.int .i64 0,.int .i64 (Aar L),slc (H.n+1) 0 n n,x6,x7,x8,.bool false,u.r,.int .i64 ((n:Nat):Int),.int .i64 ((i:Nat):Int),x13,x14,x15,x16,x17]∧
  Aac K0 M∧M.get (H.n+1)=some (.cells true false 1 (tc L i 0 n) 39)∧i≤n∧q=n-i) n
  ⟨0,_,_,_,_,_,_,_,_,rfl,mk0,mg0,by omega,rfl⟩ ?_
 rintro Q' q fr M ⟨i,x6,x7,x8,x13,x14,x15,x16,x17,rfl,km,gm,hi,rfl⟩ hn' hx' hret
 by_cases hlt:i<n
 ·obtain⟨hyr,hyo⟩:=Agn h (i:=i) (by omega)
  obtain⟨na,ra⟩:=(h.r.keeps (kA.trans km)).at_ (i:=i) (by omega)
  have hlim:=Aim hmay (List.getElem_mem (show i<L.r.length by omega))
  rw[←Ac4 (show i<L.r.length by omega),←hyr]at hlim
  generalize xs.getD i rv0=y at*
  have h0:(0:Int)≤(i:Int):=by omega
  have h1:(i:Int)<((n:Nat):Int):=by omega
  have hw:IntKind.i64.wrap ((i:Int)+1)=((i+1:Nat):Int):=by rw[Aae (by omega) (by omega)];simp
  have rowy:y.row=[.string ⟨y.r.n.toArray⟩,.int .i64 y.r.g,y.vp,y.vq,y.vo,y.vf]:=rfl
  obtain⟨a3,a4,a5,a6⟩:=RV.ones hyo
  have a1:one1 (Value.int .i64 y.r.g)=True:=by simp[one1,Aax]
  have a2:one1 (Value.string ⟨y.r.n.toArray⟩)=True:=by simp[one1,Abe]
  obtain⟨M1,hM1⟩:∃X,X=M.alloc (.cells true false 6 y.row 87):=⟨_,rfl⟩
  have m1:M1.n=M.n+1:=by rw[hM1];rfl
  have km1:Aac K0 M1:=by rw[hM1];exact km.alloc _
  have gm1:M1.get (H.n+1)=some (.cells true false 1 (tc L i 0 n) 39):=by rw[hM1];exact((Aac.refl M).alloc _).at_ gm
  have gy1:M1.get M.n=some (.cells true false 6 y.row 87):=by rw[hM1];exact Aaa.Bp6 M _
  have hMn:=Aaa.Bp9 gm
  have kmn:=km.n
  simp only[rowy]at ra hM1 gy1
  simp(disch:=first|assumption|omega)only[P3,seval,Aak,Aat,h1]
  rw[Aah]
  simp(disch:=first|assumption|omega|(simp only[LN]<;>omega)|(simp(disch:=first|assumption|omega|(simp only[LN]<;>omega))only[Aab,Aad];assumption))only[P3,seval,Aak,Aat,lr,ra,na,Aai,a1,a2,a3,a4,a5,a6]
  rw[←hM1,Aah]
  refine Aan (fun q fr K=>∃k x8 x16 x17,fr=[.agg #[u.s,u.p,u.g,u.r],ptr H.n 0,.slice none 0 0,.int .i64 0,.int .i64 (Aar L),slc (H.n+1) 0 n n,.int .i64 ((i:Nat):Int),ptr M.n 0,x8,.bool false,u.r,.int .i64 ((n:Nat):Int),.int .i64 ((i:Nat):Int),.bool true,.int .i64 ((i:Nat):Int),.int .i64 ((k:Nat):Int),x16,x17]∧
   Aac K0 K∧M.n<K.n∧K.get M.n=M1.get M.n∧K.get (H.n+1)=some (.cells true false 1 (tc L i k n) 39)∧k≤i∧q=i-k) i
   ⟨0,_,_,_,rfl,km1,by omega,rfl,gm1,by omega,rfl⟩ ?_
  rintro Q2 q fr K ⟨k,x8,x16,x17,rfl,kk,gn,gy,go,hk,rfl⟩ hn2 hx2 hret2
  by_cases hlk:k<i
  ·obtain⟨hzr,hzo⟩:=Agn h (i:=k) (by omega)
   obtain⟨nb,rb⟩:=(h.r.keeps (kA.trans kk)).at_ (i:=k) (by omega)
   have zlim:=Aim hmay (List.getElem_mem (show k<L.r.length by omega))
   rw[←Ac4 (show k<L.r.length by omega),←hzr]at zlim
   generalize xs.getD k rv0=z at*
   have rowz:z.row=[.string ⟨z.r.n.toArray⟩,.int .i64 z.r.g,z.vp,z.vq,z.vo,z.vf]:=rfl
   have h2:((k:Nat):Int)<((i:Nat):Int):=by omega
   have h3:(0:Int)≤(k:Int):=by omega
   have h4:((k:Nat):Int)<((n:Nat):Int):=by omega
   have hw2:IntKind.i64.wrap ((k:Int)+1)=((k+1:Nat):Int):=by rw[Aae (by omega) (by omega)];simp
   have gA2:=kk.at_ gA
   have gyk:=gy.trans gy1
   have cC:=t67 ((h.keeps kA).keeps kk) ((hyo.keeps kA).keeps kk) ((hzo.keeps kA).keeps kk) hlim zlim hL
   simp only[rowy,rowz,hul]at cC rb
   simp(disch:=first|assumption|omega|(simp only[LN]<;>omega)|(simp(disch:=first|assumption|omega|(simp only[LN]<;>omega))only[Aab,Aad];assumption))only[P4,seval,h2,gA2,gyk,lr,nb,rb,Aai]
   refine Aag cC ?_
   rintro _ X ⟨rfl,hX⟩
   rw[hX]
   rw[hyr,hzr]
   show _
   have hcf:Adk L (ro L i) (ro L k)=cf L i k:=rfl
   rw[hcf]
   have hgl:=Aaa.Bp9 go
   cases hc:cf L i k with
   |false=>
    simp(disch:=first|assumption|omega)only[P4,seval,hw2]
    rw[Bme L hlk hc]at go
    exact hn2 _ _ _ ⟨k+1,_,_,_,rfl,kk,gn,gy,go,by omega,rfl⟩ (by omega)
   |true=>
    have t1:=Ane L i k (show i<n by omega)
    have t2:=Ane L i k (show k<n by omega)
    have t3:∀v:Value,((tc L i k n).set i v)[k]? =some (S64 (tb_ L i k k)):=fun v=>by rw[List.getElem?_set_ne (by omega),t2]
    have s1:=Aej (show i<64 by omega)
    have s2:=Aej (show k<64 by omega)
    have i1:i<n:=hlt
    have i2:k<n:=by omega
    have g3:∀o,(K.set (H.n+1) o).get (H.n+1)=some o:=fun o=>Aaa.Bp7 go o
    simp(disch:=first|assumption|omega)only[P4,seval,hw2,go,t1,t2,t3,s1,s2,Ahh,Abn,Acu,List.length_set,A0e,i1,i2,g3,Int.toNat_natCast,Nat.mul_one,Nat.zero_add]
    rw[Be8 L hlk hlt hc (fun _=>rfl) (fun _=>rfl)]
    exact hn2 _ _ _ ⟨k+1,_,_,_,rfl,kk.set (by omega) hgl _,gn,by rw[Aaa.Bp8 K (by omega) hgl];exact gy,Aaa.Bp7 go _,by omega,rfl⟩ (by omega)
  ·have h2:¬((k:Nat):Int)<((i:Nat):Int):=by omega
   have hki:k=i:=by omega
   subst hki
   simp(disch:=first|assumption|omega)only[P4,seval,h2]
   refine hx2 _ _ _ ?_
   simp(disch:=first|assumption|omega)only[P4,seval,hw]
   rw[A5v]at go
   exact hn' _ _ _ ⟨k+1,_,_,_,_,_,_,_,_,rfl,kk,go,by omega,rfl⟩ (by omega)
 ·have h1:¬((i:Nat):Int)<((n:Nat):Int):=by omega
  have hin:i=n:=by omega
  subst hin
  simp(disch:=first|assumption|omega)only[P4,seval,h1]
  subst hn
  rw[Be9 L (by omega)]at gm
  refine hx' _ _ _ ?_
  simp(disch:=first|assumption|omega)only[P4,seval]
  exact hq2 _ _ ⟨_,rfl,kA.trans km,fun e=>absurd he e,fun _=>⟨_,rfl,by omega,gm⟩⟩
end Go.AM.Fd

set_option maxRecDepth 100000
set_option maxHeartbeats 0
namespace Go.AM.F
def Bny:List Value:=[(.int .u64 0),(.int .u64 0),(.int .u64 0)]++List.replicate 64 (.int .u8 0)++[(.int .u32 0)]
def Bnz:List Nat:=List.replicate 68 1
def Aef:TypeId→List Value
 |39=>[(.int .u64 0)]
 |167=>[(.slice none 0 0),(.slice none 0 0),(.int .u64 0),(.int .u32 0),(.int .u64 0)]
 |87=>[(.string ByteArray.empty),(.int .i64 0),(.slice none 0 0),(.slice none 0 0),(.slice none 0 0),(.slice none 0 0)]
 |207=>[(.int .u64 0),(.int .u64 0),(.int .u64 0),(.int .u32 0),(.int .u32 0),(.int .u64 0)]
 |120=>[(.int .i64 0),(.bool false)]
 |89=>[(.string ByteArray.empty),(.int .i64 0)]
 |171=>[(.slice none 0 0),(.slice none 0 0),(.int .u64 0),(.int .u32 0),(.int .u64 0)]
 |43=>Bny
 |_=>[]
def Aeg:TypeId→Value
 |_=>undef
def Aeh:TypeId→List Nat
 |43=>Bnz
 |_=>[]
def Aei:Nat→TypeId→List Value
 |1,207=>[(.int .u64 0),(.int .u64 0),(.int .u64 0),(.int .u32 0),(.int .u32 0),(.int .u64 0)]
 |1,39=>[(.int .u64 0)]
 |_,_=>[]
noncomputable def Bg2:Aao:=by
 refine(fun(_:Cz Aef Aeg Aeh Aei Go.Proofs.Tryz.prog 0 [0,1,4] 184 ?a)=>?a) ?h
 case h=>
 intro zc zv zk zr hc hv hk hr
 conv=>lhs;cbv;try simp only[hc,hv,hk,hr,Aef,Aeg,Aeh,Aei]
theorem A30:Aap Go.Proofs.Tryz.prog 0 [0,1,4] 184=some Bg2:=by kernel_rfl
theorem Bbd:Aaf Go.Proofs.Tryz.prog 184 2=true:=by kernel_rfl
noncomputable def Bg3:Aao:=by
 refine(fun(_:Cz Aef Aeg Aeh Aei Go.Proofs.Tryz.prog 0 [0,2,8] 137 ?a)=>?a) ?h
 case h=>
 intro zc zv zk zr hc hv hk hr
 conv=>lhs;cbv;try simp only[hc,hv,hk,hr,Aef,Aeg,Aeh,Aei]
theorem A31:Aap Go.Proofs.Tryz.prog 0 [0,2,8] 137=some Bg3:=by kernel_rfl
theorem Bbe:Aaf Go.Proofs.Tryz.prog 137 1=true:=by kernel_rfl
noncomputable def Bn0:Aao:=by
 refine(fun(_:Cz Aef Aeg Aeh Aei Go.Proofs.Tryz.prog 0 [0,1,4] 121 ?a)=>?a) ?h
 case h=>
 intro zc zv zk zr hc hv hk hr
 conv=>lhs;cbv;try simp only[hc,hv,hk,hr,Aef,Aeg,Aeh,Aei]
theorem A32:Aap Go.Proofs.Tryz.prog 0 [0,1,4] 121=some Bn0:=by kernel_rfl
theorem Bbf:Aaf Go.Proofs.Tryz.prog 121 2=true:=by kernel_rfl
noncomputable def Bn1:Aao:=by
 refine(fun(_:Cz Aef Aeg Aeh Aei Go.Proofs.Tryz.prog 0 [0,2,3,5,6,7,8,9] 120 ?a)=>?a) ?h
 case h=>
 intro zc zv zk zr hc hv hk hr
 conv=>lhs;cbv;try simp only[hc,hv,hk,hr,Aef,Aeg,Aeh,Aei]
theorem A33:Aap Go.Proofs.Tryz.prog 0 [0,2,3,5,6,7,8,9] 120=some Bn1:=by kernel_rfl
theorem Bbg:Aaf Go.Proofs.Tryz.prog 120 1=true:=by kernel_rfl
noncomputable def Bg4:Aao:=by
 refine(fun(_:Cz Aef Aeg Aeh Aei Go.Proofs.Tryz.prog 0 [0,2,3,6] 119 ?a)=>?a) ?h
 case h=>
 intro zc zv zk zr hc hv hk hr
 conv=>lhs;cbv;try simp only[hc,hv,hk,hr,Aef,Aeg,Aeh,Aei]
theorem A34:Aap Go.Proofs.Tryz.prog 0 [0,2,3,6] 119=some Bg4:=by kernel_rfl
theorem Bbh:Aaf Go.Proofs.Tryz.prog 119 1=true:=by kernel_rfl
noncomputable def Bn2:Aao:=by
 refine(fun(_:Cz Aef Aeg Aeh Aei Go.Proofs.Tryz.prog 0 [0,1,2,4,5,6,12,13] 190 ?a)=>?a) ?h
 case h=>
 intro zc zv zk zr hc hv hk hr
 have e0A:=(rfl:rfA Go.Proofs.Tryz.prog 190 0=rfA Go.Proofs.Tryz.prog 190 0);conv at e0A=>rhs;cbv
 have e0B:=(rfl:rfB Go.Proofs.Tryz.prog 190 0=rfB Go.Proofs.Tryz.prog 190 0);conv at e0B=>rhs;cbv
 conv=>lhs;cbv;try simp only[hc,hv,hk,hr,Aef,Aeg,Aeh,Aei];simp only[←e0A,←e0B]
theorem A35:Aap Go.Proofs.Tryz.prog 0 [0,1,2,4,5,6,12,13] 190=some Bn2:=by kernel_rfl
theorem Bbi:Aaf Go.Proofs.Tryz.prog 190 2=true:=by kernel_rfl
noncomputable def Aoo:Abw:=by
 refine(fun(_:CzC Aef Aeg Aeh Aei Go.Proofs.Tryz.prog 0 21 [0,1,2,4,5,6,12,13] (rfA Go.Proofs.Tryz.prog 190 0) ?a)=>?a) ?h
 case h=>intro zc zv zk zr hc hv hk hr;conv=>lhs;cbv;try simp only[hc,hv,hk,hr,Aef,Aeg,Aeh,Aei]
theorem Aq3:Acw Go.Proofs.Tryz.prog 0 21 [0,1,2,4,5,6,12,13] (rfA Go.Proofs.Tryz.prog 190 0)=some Aoo:=by kernel_rfl
noncomputable def Aue:Abw:=by
 refine(fun(_:CzC Aef Aeg Aeh Aei Go.Proofs.Tryz.prog 0 21 [0,1,2,4,5,6,12,13] (rfB Go.Proofs.Tryz.prog 190 0) ?a)=>?a) ?h
 case h=>intro zc zv zk zr hc hv hk hr;conv=>lhs;cbv;try simp only[hc,hv,hk,hr,Aef,Aeg,Aeh,Aei]
theorem Aq4:Acw Go.Proofs.Tryz.prog 0 21 [0,1,2,4,5,6,12,13] (rfB Go.Proofs.Tryz.prog 190 0)=some Aue:=by kernel_rfl
theorem Axz:(Aix (rfA Go.Proofs.Tryz.prog 190 0)&&Aix (rfB Go.Proofs.Tryz.prog 190 0))=true:=by kernel_rfl
noncomputable def Bn3:Aao:=by
 refine(fun(_:Cz Aef Aeg Aeh Aei Go.Proofs.Tryz.prog 0 [0,1,2] 192 ?a)=>?a) ?h
 case h=>
 intro zc zv zk zr hc hv hk hr
 conv=>lhs;cbv;try simp only[hc,hv,hk,hr,Aef,Aeg,Aeh,Aei]
theorem A36:Aap Go.Proofs.Tryz.prog 0 [0,1,2] 192=some Bn3:=by kernel_rfl
theorem Bbj:Aaf Go.Proofs.Tryz.prog 192 1=true:=by kernel_rfl
noncomputable def Bn4:Aao:=by
 refine(fun(_:Cz Aef Aeg Aeh Aei Go.Proofs.Tryz.prog 0 [0,1,3,4,5,15] 194 ?a)=>?a) ?h
 case h=>
 intro zc zv zk zr hc hv hk hr
 conv=>lhs;cbv;try simp only[hc,hv,hk,hr,Aef,Aeg,Aeh,Aei]
theorem A37:Aap Go.Proofs.Tryz.prog 0 [0,1,3,4,5,15] 194=some Bn4:=by kernel_rfl
theorem Bbk:Aaf Go.Proofs.Tryz.prog 194 2=true:=by kernel_rfl
noncomputable def Bn5:Aao:=by
 refine(fun(_:Cz Aef Aeg Aeh Aei Go.Proofs.Tryz.prog 0 [0,2] 182 ?a)=>?a) ?h
 case h=>
 intro zc zv zk zr hc hv hk hr
 conv=>lhs;cbv;try simp only[hc,hv,hk,hr,Aef,Aeg,Aeh,Aei]
theorem A38:Aap Go.Proofs.Tryz.prog 0 [0,2] 182=some Bn5:=by kernel_rfl
theorem Bbl:Aaf Go.Proofs.Tryz.prog 182 1=true:=by kernel_rfl
noncomputable def f92:Aao:=by
 refine(fun(_:Cz Aef Aeg Aeh Aei Go.Proofs.Tryz.prog 0 [0,1,2,3,4,5,6,7,8,9,11,13,20,38,39,40,41,67,68,69,70,74,98,99,100,101] 92 ?a)=>?a) ?h
 case h=>
 intro zc zv zk zr hc hv hk hr
 conv=>lhs;cbv;try simp only[hc,hv,hk,hr,Aef,Aeg,Aeh,Aei]
theorem Bbm:Aap Go.Proofs.Tryz.prog 0 [0,1,2,3,4,5,6,7,8,9,11,13,20,38,39,40,41,67,68,69,70,74,98,99,100,101] 92=some f92:=by kernel_rfl
theorem Bka:Aaf Go.Proofs.Tryz.prog 92 1=true:=by kernel_rfl
noncomputable def Bn6:Aao:=by
 refine(fun(_:Cz Aef Aeg Aeh Aei Go.Proofs.Tryz.prog 0 [0,1,2,3,6,7,8,9,11,12,13,14,20] 185 ?a)=>?a) ?h
 case h=>
 intro zc zv zk zr hc hv hk hr
 conv=>lhs;cbv;try simp only[hc,hv,hk,hr,Aef,Aeg,Aeh,Aei]
theorem A39:Aap Go.Proofs.Tryz.prog 0 [0,1,2,3,6,7,8,9,11,12,13,14,20] 185=some Bn6:=by kernel_rfl
theorem Bbn:Aaf Go.Proofs.Tryz.prog 185 3=true:=by kernel_rfl
noncomputable def Bn7:Aao:=by
 refine(fun(_:Cz Aef Aeg Aeh Aei Go.Proofs.Tryz.prog 0 [0,1,2] 186 ?a)=>?a) ?h
 case h=>
 intro zc zv zk zr hc hv hk hr
 conv=>lhs;cbv;try simp only[hc,hv,hk,hr,Aef,Aeg,Aeh,Aei]
theorem A4a:Aap Go.Proofs.Tryz.prog 0 [0,1,2] 186=some Bn7:=by kernel_rfl
theorem Bbo:Aaf Go.Proofs.Tryz.prog 186 1=true:=by kernel_rfl
noncomputable def Bn8:Aao:=by
 refine(fun(_:Cz Aef Aeg Aeh Aei Go.Proofs.Tryz.prog 0 [0,1,2] 187 ?a)=>?a) ?h
 case h=>
 intro zc zv zk zr hc hv hk hr
 conv=>lhs;cbv;try simp only[hc,hv,hk,hr,Aef,Aeg,Aeh,Aei]
theorem A4b:Aap Go.Proofs.Tryz.prog 0 [0,1,2] 187=some Bn8:=by kernel_rfl
theorem Bbp:Aaf Go.Proofs.Tryz.prog 187 1=true:=by kernel_rfl
noncomputable def Bn9:Aao:=by
 refine(fun(_:Cz Aef Aeg Aeh Aei Go.Proofs.Tryz.prog 0 [0,1,2,3,6,7,8,9,11,12,13,14,20] 188 ?a)=>?a) ?h
 case h=>
 intro zc zv zk zr hc hv hk hr
 conv=>lhs;cbv;try simp only[hc,hv,hk,hr,Aef,Aeg,Aeh,Aei]
theorem A4c:Aap Go.Proofs.Tryz.prog 0 [0,1,2,3,6,7,8,9,11,12,13,14,20] 188=some Bn9:=by kernel_rfl
theorem Bbq:Aaf Go.Proofs.Tryz.prog 188 3=true:=by kernel_rfl
noncomputable def Boa:Aao:=by
 refine(fun(_:Cz Aef Aeg Aeh Aei Go.Proofs.Tryz.prog 0 [0,1,2] 189 ?a)=>?a) ?h
 case h=>
 intro zc zv zk zr hc hv hk hr
 conv=>lhs;cbv;try simp only[hc,hv,hk,hr,Aef,Aeg,Aeh,Aei]
theorem A4d:Aap Go.Proofs.Tryz.prog 0 [0,1,2] 189=some Boa:=by kernel_rfl
theorem Bbr:Aaf Go.Proofs.Tryz.prog 189 1=true:=by kernel_rfl
noncomputable def Bob:Aao:=by
 refine(fun(_:Cz Aef Aeg Aeh Aei Go.Proofs.Tryz.prog 0 [0,1,2,4,5] 174 ?a)=>?a) ?h
 case h=>
 intro zc zv zk zr hc hv hk hr
 conv=>lhs;cbv;try simp only[hc,hv,hk,hr,Aef,Aeg,Aeh,Aei]
theorem A4e:Aap Go.Proofs.Tryz.prog 0 [0,1,2,4,5] 174=some Bob:=by kernel_rfl
theorem Bbs:Aaf Go.Proofs.Tryz.prog 174 2=true:=by kernel_rfl
noncomputable def Boc:Aao:=by
 refine(fun(_:Cz Aef Aeg Aeh Aei Go.Proofs.Tryz.prog 0 [0,1,2,4] 175 ?a)=>?a) ?h
 case h=>
 intro zc zv zk zr hc hv hk hr
 conv=>lhs;cbv;try simp only[hc,hv,hk,hr,Aef,Aeg,Aeh,Aei]
theorem A4f:Aap Go.Proofs.Tryz.prog 0 [0,1,2,4] 175=some Boc:=by kernel_rfl
theorem Bbt:Aaf Go.Proofs.Tryz.prog 175 2=true:=by kernel_rfl
noncomputable def f60:Aao:=by
 refine(fun(_:Cz Aef Aeg Aeh Aei Go.Proofs.Tryz.prog 0 [0,1,2,3,4,5,12] 60 ?a)=>?a) ?h
 case h=>
 intro zc zv zk zr hc hv hk hr
 conv=>lhs;cbv;try simp only[hc,hv,hk,hr,Aef,Aeg,Aeh,Aei]
theorem Bbu:Aap Go.Proofs.Tryz.prog 0 [0,1,2,3,4,5,12] 60=some f60:=by kernel_rfl
theorem Bkb:Aaf Go.Proofs.Tryz.prog 60 1=true:=by kernel_rfl
noncomputable def Bod:Aao:=by
 refine(fun(_:Cz Aef Aeg Aeh Aei Go.Proofs.Tryz.prog 0 [0,1,3,4,5,6,8,41,42,43,52] 173 ?a)=>?a) ?h
 case h=>
 intro zc zv zk zr hc hv hk hr
 conv=>lhs;cbv;try simp only[hc,hv,hk,hr,Aef,Aeg,Aeh,Aei]
theorem A4g:Aap Go.Proofs.Tryz.prog 0 [0,1,3,4,5,6,8,41,42,43,52] 173=some Bod:=by kernel_rfl
theorem Bbv:Aaf Go.Proofs.Tryz.prog 173 2=true:=by kernel_rfl
noncomputable def Boe:Aao:=by
 refine(fun(_:Cz Aef Aeg Aeh Aei Go.Proofs.Tryz.prog 0 [0,1,3,4,5,6,15] 170 ?a)=>?a) ?h
 case h=>
 intro zc zv zk zr hc hv hk hr
 conv=>lhs;cbv;try simp only[hc,hv,hk,hr,Aef,Aeg,Aeh,Aei]
theorem A4h:Aap Go.Proofs.Tryz.prog 0 [0,1,3,4,5,6,15] 170=some Boe:=by kernel_rfl
theorem Bbw:Aaf Go.Proofs.Tryz.prog 170 2=true:=by kernel_rfl
end Go.AM.F

namespace Go.AM.Fd
open Nat (reduceAdd reduceEqDiff reduceLT reduceLeDiff reduceMul reduceSub)
open Go.Proofs Go.AM.F
def Ab2(f:Nat→Bool)(n:Int):Bool:=decide (0≤n)&&(decide (n<64)&&f n.toNat)
def Ac3(n:Int)(i:Nat):Bool:=decide ((i:Int)=n)
theorem Bha{H:Aaa}(f:Nat→Bool)(n:Int):∃w H',Aau Tryz.prog 0 184 [S64 f,.int .i64 n] H w H'∧w=.bool (Ab2 f n)∧H'=H:=by
 refine Aaq A30 Bbd ?_
 intro Q hq1 hq2
 unfold Ab2 at hq1 hq2
 by_cases h1:0≤n
 ·by_cases h2:n<64
  ·obtain⟨m,rfl⟩:∃m:Nat,n=(m:Int):=⟨n.toNat,by omega⟩
   have h3:m<64:=by omega
   simp(disch:=first|assumption|omega)only[Bg2,P4,seval,h1,h2,Ara,A0i,A50,Acu,Bpt]
   refine hq2 _ _ ⟨.bool _,rfl,?_,rfl⟩
   simp;intro _;omega
  ·simp(disch:=first|assumption|omega)only[Bg2,P4,seval,h1,h2]
   exact hq2 _ _ ⟨.bool _,rfl,by simp[h2],rfl⟩
 ·simp(disch:=first|assumption|omega)only[Bg2,P4,seval,h1]
  exact hq2 _ _ ⟨.bool _,rfl,by simp[h1],rfl⟩
theorem Bpp{H:Aaa}(n:Int):∃w H',Aau Tryz.prog 0 137 [.int .i64 n] H w H'∧w=S64 (Ac3 n)∧H'=H:=by
 refine Aaq A31 Bbe ?_
 intro Q hq1 hq2
 have hz:n<0∨64≤n→Value.int .u64 0=S64 (Ac3 n):=fun h=>by
  rw[Ac2];apply Abl;intro i hi;simp[Ac3];omega
 by_cases h1:n<0
 ·simp(disch:=first|assumption|omega)only[Bg3,P4,seval,h1]
  exact hq2 _ _ ⟨.int .u64 0,rfl,hz (.inl h1),rfl⟩
 ·by_cases h2:64≤n
  ·simp(disch:=first|assumption|omega)only[Bg3,P4,seval,h1,h2]
   exact hq2 _ _ ⟨.int .u64 0,rfl,hz (.inr h2),rfl⟩
  ·obtain⟨m,rfl⟩:∃m:Nat,n=(m:Int):=⟨n.toNat,by omega⟩
   have h3:=Aej (show m<64 by omega)
   simp(disch:=first|assumption|omega)only[Bg3,P4,seval,h1,h2,h3,Acu]
   refine hq2 _ _ ⟨S64 _,rfl,?_,rfl⟩
   apply Abl;intro i hi;simp only[Ac3,Int.ofNat_inj]
theorem Bmf{H:Aaa}(f:Nat→Bool)(n:Int):∃w H',Aau Tryz.prog 0 121 [S64 f,.int .i64 n] H w H'∧w=S64 (fun i=>f i||Ac3 n i)∧H'=H:=by
 refine Aaq A32 Bbf ?_
 intro Q hq1 hq2
 simp(disch:=first|assumption|omega)only[Bn0,P4,seval]
 refine Aaw (Bpp n) ?_
 simp(disch:=first|assumption|omega)only[P4,seval,Ahh,Acu]
 exact hq2 _ _ ⟨_,rfl,rfl,rfl⟩
theorem Ax5{H:Aaa}(n:Int):∃w H',Aau Tryz.prog 0 121 [.int .u64 0,.int .i64 n] H w H'∧w=S64 (Ac3 n)∧H'=H:=by
 obtain⟨w,H',r,e1,e2⟩:=Bmf (H:=H) (fun _=>false) n
 rw[←Ac2]at r
 exact⟨w,H',r,by rw[e1];exact Abl fun i _=>by simp,e2⟩
theorem t120{H:Aaa}{v:Value}{l:List Int}(h:IL H v l)(hl:l.length≤1000000):∃w H',Aau Tryz.prog 0 120 [v] H w H'∧w=S64 (fun i=>l.contains (i:Int))∧H'=H:=by
 refine Aaq A33 Bbg ?_
 intro Q hq1 hq2
 have len:=h.len
 have is:=Sl.is h
 simp(disch:=first|assumption|omega)only[Bn1,P3,seval,Aak,Aat,len,is]
 rw[Aah]
 refine Aan (fun q fr M=>∃i x3 x7,fr=[v,.int .u64 0,S64 (fun j=>(l.take i).contains (j:Int)),x3,v,.int .i64 ((l.length:Nat):Int),.int .i64 ((i:Nat):Int),x7]∧M=H∧i≤l.length∧q=l.length-i) l.length
  ⟨0,_,_,by simp only[List.take_zero];rw[Ac2];rfl,rfl,by omega,rfl⟩ ?_
 rintro Q' q fr M ⟨i,x3,x7,rfl,rfl,hi,rfl⟩ hn' hx' hret
 by_cases hlt:i<l.length
 ·obtain⟨na,ra⟩:=h.at_ hlt
  have h0:(0:Int)≤(i:Int):=by omega
  have h1:(i:Int)<((l.length:Nat):Int):=by omega
  have hw:IntKind.i64.wrap ((i:Int)+1)=((i+1:Nat):Int):=by rw[Aae (by omega) (by omega)];simp
  simp(disch:=first|assumption|omega)only[P4,seval,h1,len,na,ra,Aal]
  refine Aaw (Bpp _) ?_
  simp(disch:=first|assumption|omega)only[P4,seval,Ahh,Acu,hw]
  refine hn' _ _ _ ⟨i+1,.int .i64 (l.getD i 0),.bool true,?_,rfl,by omega,rfl⟩ (by omega)
  congr 3
  apply Abl
  intro j hj
  rw[List.take_add_one,List.getElem?_eq_getElem hlt]
  simp only[Ac3,List.getD_eq_getElem?_getD,List.getElem?_eq_getElem hlt,Option.getD_some,Option.toList_some]
  rw[List.contains_append]
  simp
 ·have h1:¬((i:Nat):Int)<((l.length:Nat):Int):=by omega
  have hin:i=l.length:=by omega
  subst hin
  simp(disch:=first|assumption|omega)only[P4,seval,h1]
  refine hx' _ _ _ ?_
  simp(disch:=first|assumption|omega)only[P4,seval]
  exact hq2 _ _ ⟨S64 _,rfl,by rw[List.take_length],rfl⟩
theorem A5w{n:Nat}(h:n<64):2 ^ n-1=Aa3 (fun i=>decide (i<n)) 64:=by
 apply Nat.eq_of_testBit_eq
 intro i
 rw[Nat.testBit_two_pow_sub_one,Abf]
 by_cases hi:i<n
 ·have:i<64:=by omega
  simp[hi,this]
 ·simp[hi]
theorem Bfa{n:Nat}(h:n<64):Ab9 .sub (S64 fun i=>decide (i=n)) (.int .u64 1)=some (S64 fun i=>decide (i<n)):=by
 unfold S64
 rw[←Ajz h,A7l,←A5w h]
 have hp:0<2 ^ n:=Nat.pow_pos (by omega)
 have hu:=A5t h
 have e:((2 ^ n:Nat):Int)-1=((2 ^ n-1:Nat):Int):=by omega
 rw[e,w64 _ (by have:(2:Nat) ^ 64=U:=rfl;omega)]
theorem Bfb:Value.int .u64 18446744073709551615=S64 (fun _=>true):=by
 unfold S64
 have:Aa3 (fun _=>true) 64=2 ^ 64-1:=by
  apply Nat.eq_of_testBit_eq
  intro i
  rw[Nat.testBit_two_pow_sub_one,Abf];simp
 rw[this];rfl
def Aby(n:Int)(i:Nat):Bool:=decide ((i:Int)<n)
theorem Bhb{H:Aaa}(n:Int):∃w H',Aau Tryz.prog 0 119 [.int .i64 n] H w H'∧w=S64 (Aby n)∧H'=H:=by
 refine Aaq A34 Bbh ?_
 intro Q hq1 hq2
 by_cases h1:n≤0
 ·simp(disch:=first|assumption|omega)only[Bg4,P4,seval,h1]
  exact hq2 _ _ ⟨.int .u64 0,rfl,by rw[Ac2];apply Abl;intro i hi;simp[Aby];omega,rfl⟩
 ·by_cases h2:64≤n
  ·simp(disch:=first|assumption|omega)only[Bg4,P4,seval,h1,h2]
   exact hq2 _ _ ⟨.int .u64 18446744073709551615,rfl,by rw[Bfb];apply Abl;intro i hi;simp[Aby];omega,rfl⟩
  ·obtain⟨m,rfl⟩:∃m:Nat,n=(m:Int):=⟨n.toNat,by omega⟩
   have h3:=Aej (show m<64 by omega)
   have h4:=Bfa (show m<64 by omega)
   simp(disch:=first|assumption|omega)only[Bg4,P4,seval,h1,h2,h3,h4,Acu]
   refine hq2 _ _ ⟨S64 _,rfl,?_,rfl⟩
   apply Abl;intro i hi;simp only[Aby,Int.ofNat_lt]
end Go.AM.Fd

set_option maxRecDepth 8000
namespace Go.AM.Fd
open Go.Proofs Go.AM.F
theorem Ajx(f:Nat→Bool):(S64 f).cells.toList=[S64 f]:=rfl
theorem Anf(f:Nat→Bool):(S32 f).cells.toList=[S32 f]:=rfl
def trP(r:Ro)(i:Nat):Bool:=(trk r).contains (i:Int)
def fiP(r:Ro):Nat→Bool:=Ac3 (r.path.getD 0 0)
def ahP(L:Ly)(r:Ro):Nat→Bool:=Ac3 (L.g.getD r.g.toNat ([],0)).2
def ndP(l:List (Int×Bool))(b:Bool)(p:Nat):Bool:=l.contains ((p:Int),b)
def Ae0(L:Ly)(i:Nat):List Value:=[S64 (trP (ro L i)),S64 (fiP (ro L i)),S64 (ahP L (ro L i)),S32 (ndP (nds (ro L i)) false),S32 (ndP (nds (ro L i)) true),S64 (Ain L i)]
def Ajy(L:Ly):List (List Value):=(List.range L.r.length).map (Ae0 L)
def Ax6(L:Ly)(i:Nat):Nat→Bool:=Ac3 (L.p.getD i ([],0)).2
def Bfc(L:Ly):List (List Value):=(List.range L.p.length).map fun i=>[S64 (Ax6 L i)]
def Abm(L:Ly)(vr vl:Value):List Value:=[vr,vl,S64 (Aby L.r.length),S32 (Aby L.p.length),S64 (Aby L.s.length)]
structure Bfd (L:Ly) (r:Ro):Prop where
 lim:Air L r
 ne:0<r.path.length
 tr:∀x∈trk r,0≤x∧x<L.s.length
 nd:∀x∈nds r,0≤x.1∧x.1<L.p.length
theorem Aav{L:Ly}(h:Aar L=0):Afc L=true:=by
 unfold Aar at h
 cases hm:Afc L with
 |true=>rfl
 |false=>rw[hm]at h;cases h
theorem Alf{L:Ly}(h:Aar L=0){r:Ro}(hr:r∈L.r):Abp L r=true:=by
 have hm:=Aav h
 unfold Aar at h
 rw[hm]at h
 cases hf:L.r.all (Abp L)with
 |false=>rw[hf]at h;cases h
 |true=>exact List.all_eq_true.1 hf r hr
theorem Aa2{L:Ly}(h:Aar L=0){r:Ro}(hr:r∈L.r):Bfd L r:=by
 have hm:=Aav h
 have hf:=Alf h hr
 have hl:=Aim hm hr
 have hb:roB L r=true:=by
  have:=hm
  simp only[Afc,Bool.and_eq_true,Bool.not_eq_true',List.all_eq_true]at this
  simp_all
 refine⟨hl,?_,?_,?_⟩
 ·simp only[Abp,Aq8,Bool.and_eq_true,Bool.not_eq_true',Bool.or_eq_false_iff]at hf
  have:=hf.1.1.1.1
  cases hp:r.path with
  |nil=>rw[hp]at this;cases this
  |cons a l=>simp
 ·simp only[roB,inB,Bool.and_eq_true,decide_eq_true_eq,List.all_eq_true]at hb
  intro x hx
  rcases List.mem_append.1 hx with hx|hx
  ·exact hb.1.2.1.2 x hx
  ·exact hb.1.2.2 x hx
 ·simp only[roB,Ah2,inB,Bool.and_eq_true,decide_eq_true_eq,List.all_eq_true]at hb
  intro x hx
  rcases List.mem_append.1 hx with hx|hx
  ·have:=hb.2.1.2 x hx;simpa using this
  ·have:=hb.2.2.2 x hx;simpa using this
end Go.AM.Fd

set_option maxRecDepth 8000
namespace Go.AM.Fd
open Nat (reduceAdd reduceEqDiff reduceLT reduceLeDiff reduceMul reduceSub)
open Go.Proofs Go.AM.F
theorem Af8{H:Aaa}{esz:Nat}{v:Value}{i:Nat}{r:List Value}(h:Afp H esz v i=some r):bn v-1<H.n:=by
 obtain⟨b,o,n,k,rfl,h1,own,room,z,c,e,h2,h3,h4⟩:=Ad5 h
 have:=Aaa.Bp9 h2
 simp[bn,blk,slc];omega
theorem Aur{l:List (Int×Bool)}{j:Nat}(h:j<l.length)(b:Bool)(p:Nat):ndP (l.take (j+1)) b p=(ndP (l.take j) b p||(decide ((p:Int)=(l.getD j (0,false)).1)&&(b==(l.getD j (0,false)).2))):=by
 unfold ndP
 rw[List.take_add_one,List.getElem?_eq_getElem h,List.getD_eq_getElem?_getD,List.getElem?_eq_getElem h,List.contains_append]
 simp only[Option.toList_some,Option.getD_some]
 congr 1
 obtain⟨x,y⟩:=l[j]
 simp only[List.contains_cons,List.contains_nil,Bool.or_false]
 rw[Bool.eq_iff_iff]
 simp
theorem Aus(b:Bool):Value.int .u32 0=S32 (ndP [] b):=by rw[Afn];rfl
def Aut(L:Ly)(r:Ro)(i j:Nat):List Value:=[S64 (trP r),S64 (fiP r),S64 (ahP L r),S32 (ndP ((nds r).take j) false),S32 (ndP ((nds r).take j) true),S64 (Ain L i)]
theorem _root_.Go.AM.OW.set{e esz:Nat}{H K:Aaa}{v:Value}{rows:List (List Value)}(h:OW e esz H K v rows){b:Nat}{o:AO}(hb:bn v≠b+1)(hH:H.n≤b)(hK:b<K.n):OW e esz H (K.set b o) v rows:=
 ⟨h.ap.chg1 (Chg.set K hK o) hb,h.r,h.k.set hH hK o,h.f⟩
theorem _root_.Go.AM.OW.sep{e esz:Nat}{H K:Aaa}{v:Value}{rows:List (List Value)}(h:OW e esz H K v rows){b z t:Nat}{o r:Bool}{c:List Value}(g:K.get b=some (.cells o r z c t))(hz:z≠esz):bn v≠b+1:=by
 rcases h.ap with⟨rfl,_,_⟩|⟨b',room,rfl,_,h2⟩
 ·simp[bn,blk]
 ·intro e
  have e2:b'=b:=by simp[bn,blk,slc]at e;exact e
  subst e2
  rw[h2]at g
  cases g
  exact hz rfl
theorem _root_.Go.AM.OW.apart{e z e' z':Nat}{H H' K:Aaa}{v w:Value}{rows rows':List (List Value)}(h:OW e z H K v rows)(h':OW e' z' H' K w rows')(hz:z≠z'):∀b∈Ahm v,b∉Ahm w:=by
 intro b hb hb'
 rw[Abo]at hb hb'
 rcases h.ap with⟨rfl,_,_⟩|⟨c,room,rfl,_,h2⟩
 ·cases hb
 ·rcases h'.ap with⟨rfl,_,_⟩|⟨c',room',rfl,_,h2'⟩
  ·cases hb'
  ·cases hb;cases hb'
   have e:=Option.some.inj (h2.symm.trans h2')
   injection e with _ _ e3 _ _
   exact hz e3
theorem _root_.Go.AM.OW.chg{e z:Nat}{H K K':Aaa}{v:Value}{rows:List (List Value)}{S:List Nat}(h:OW e z H K v rows)(c:Chg S K K')(hS:∀b∈Ahm v,b∉S)(k:Aac H K'):OW e z H K' v rows:=
 ⟨h.ap.chg c hS,h.r,k,h.f⟩
theorem Bmg(a:Value)(h:a.cells.toList=[a]):Aa4 [.int .u64 0] [(0,1,a)]=some [a]:=by
 rw[Ad9,h,if_pos ⟨rfl,by simp⟩];rfl
theorem Ahc{v:Value}{b:Nat}(h:bn v≠b+1):b∉Ahm v:=by
 intro hm
 have:=Abo.1 hm
 apply h;unfold bn;rw[this]
theorem Bmh(a b c d e f:Value):Aa4 [.int .u64 0,.int .u64 0,.int .u64 0,.int .u32 0,.int .u32 0,.int .u64 0] [(0,6,.agg #[a,b,c,d,e,f])]=some [a,b,c,d,e,f]:=rfl
theorem Bmi(a c:Nat→Bool)(b:Nat→Bool):Aa4 [.slice none 0 0,.slice none 0 0,.int .u64 0,.int .u32 0,.int .u64 0] [(2,1,S64 a),(3,1,S32 b),(4,1,S64 c)]=some [.slice none 0 0,.slice none 0 0,S64 a,S32 b,S64 c]:=rfl
theorem Bmj(a b c d:Nat→Bool):Aa4 [.int .u64 0,.int .u64 0,.int .u64 0,.int .u32 0,.int .u32 0,.int .u64 0] [(0,1,S64 a),(1,1,S64 b),(2,1,S64 c),(5,1,S64 d)]=some [S64 a,S64 b,S64 c,.int .u32 0,.int .u32 0,S64 d]:=rfl
set_option maxHeartbeats 4000000 in
theorem t92{H:Aaa}{u:V4}{xs:List RV}{L:Ly}(h:LyR H u xs L)(hf:Aih 9223372036854775807 L):
 ∃w H',Aau Tryz.prog 0 92 [.agg u.l.toArray] H w H'∧Aac H H'∧(Aar L≠0→w=.tuple #[.agg #[.slice none 0 0,.slice none 0 0,.int .u64 0,.int .u32 0,.int .u64 0],.int .i64 (Aar L)])∧
  (Aar L=0→∃vr vl,w=.tuple #[.agg (Abm L vr vl).toArray,.int .i64 0]∧Sl H' 6 vr (Ajy L)∧Sl H' 1 vl (Bfc L)∧Acy H.n vr∧Acy H.n vl):=by
 refine Aaq Bbm Bka ?_
 intro Q hq1 hq2
 have os:=Sl.one h.s
 have op:=Sl.one h.p
 have og:=Sl.one h.g
 have or:=Sl.one h.r
 have is:=Sl.is h.s
 have ip:=Sl.is h.p
 have ig:=Sl.is h.g
 have ir:=Sl.is h.r
 have hul:u.l=[u.s,u.p,u.g,u.r]:=rfl
 obtain⟨K0,hK0⟩:∃X,X=(H.alloc (.cells true false 4 [u.s,u.p,u.g,u.r] 27)).alloc (.cells true false 5 [.slice none 0 0,.slice none 0 0,.int .u64 0,.int .u32 0,.int .u64 0] 167):=⟨_,rfl⟩
 have k0:Aac H K0:=by rw[hK0];exact((Aac.refl H).alloc _).alloc _
 have n0:K0.n=H.n+2:=by rw[hK0];rfl
 have gl0:K0.get H.n=some (.cells true false 4 [u.s,u.p,u.g,u.r] 27):=by rw[hK0];exact((Aac.refl _).alloc _).at_ (Aaa.Bp6 H _)
 have gw0:K0.get (H.n+1)=some (.cells true false 5 [.slice none 0 0,.slice none 0 0,.int .u64 0,.int .u32 0,.int .u64 0] 167):=by rw[hK0];exact Aaa.Bp6 (H.alloc _) _
 have tT:=t118 (h.keeps k0) hf
 simp only[hul]at tT ⊢
 simp(disch:=first|assumption|omega|(simp only[LN]<;>omega)|(simp(disch:=first|assumption|omega|(simp only[LN]<;>omega))only[Aab,Aad];assumption))only[f92,P4,seval,os,op,og,or]
 simp only[←hK0]
 refine Aag tT ?_
 rintro tv K1 ⟨k1,e1,e2⟩
 by_cases he:Aar L=0
 case neg=>
  rw[e1 he]
  have ne:(Aar L != 0)=true:=by simp[he]
  have gw1:=k1.at_ gw0
  have l0:=Aaa.Bp9 gw1
  simp(disch:=first|assumption|omega|(simp only[LN]<;>omega)|(simp(disch:=first|assumption|omega|(simp only[LN]<;>omega))only[Aab,Aad];assumption))only[P4,seval,ne,gw1]
  refine hq2 _ _ ⟨.tuple #[.agg #[.slice none 0 0,.slice none 0 0,.int .u64 0,.int .u32 0,.int .u64 0],.int .i64 (Aar L)],?_,(k0.trans k1).set (by omega) l0 _,fun _=>rfl,fun e=>absurd e he⟩
  show Acx [.cn 5 2,.t 3] _ _=_
  have gg:=Aaa.Bp7 gw1 (.cells true false 5 [.slice none 0 0,.slice none 0 0,.int .u64 0,.int .u32 0,.int .u64 0] 167)
  simp[Acx,Agl,RX.get,Adm,ptr,Adp,gg];rfl
 case pos=>
 obtain⟨tb,rfl,htb,gt1⟩:=e2 he
 have hmay:=Aav he
 have hL:=Aa8 hmay
 have hLs:=hL.s
 have hLp:=hL.p
 have hLg:=hL.g
 have hLr:=hL.r
 have hrl:=h.rlen
 have gl1:=k1.at_ gl0
 have gw1:=k1.at_ gw0
 have n1:=k1.n
 have hA:=(h.keeps k0).keeps k1
 have lr:=h.r.len
 have ls:=h.s.len
 have lp:=h.p.len
 have lg:=h.g.len
 rw[hrl]at lr
 simp(disch:=first|assumption|omega)only[P4,seval,gl1,lr,ir]
 refine Aaw (Bhb _) ?_
 simp(disch:=first|assumption|omega)only[P4,seval,gl1,lp,ip]
 refine Aaw (Bhb _) ?_
 simp(disch:=first|assumption|omega)only[P4,seval,gl1,ls,is,Ahi]
 refine Aaw (Bhb _) ?_
 obtain⟨K2,hK2⟩:∃X,X=K1.alloc (.cells true false 5 (Abm L (.slice none 0 0) (.slice none 0 0)) 167):=⟨_,rfl⟩
 have hK2':=hK2
 unfold Abm at hK2'
 simp(disch:=first|assumption|omega|(simp only[LN]<;>omega)|(simp(disch:=first|assumption|omega|(simp only[LN]<;>omega))only[Aab,Aad];assumption))only[P3,seval,Aak,Aat,gl1,lr,ir,O4,Ajx,Anf,Bmi]
 rw[←hK2',Aah]
 have k2:Aac K1 K2:=by rw[hK2];exact(Aac.refl K1).alloc _
 have gm2:K2.get K1.n=some (.cells true false 5 (Abm L (.slice none 0 0) (.slice none 0 0)) 167):=by rw[hK2];exact Aaa.Bp6 K1 _
 refine Aan (fun q fr M=>∃i vr x7 x8 x9 x10 x11 x16 x17 x18 x19 x20 x21 x22 x23 x24 x25,fr=[.agg #[u.s,u.p,u.g,u.r],ptr H.n 0,ptr (H.n+1) 0,.int .i64 0,slc tb 0 L.r.length L.r.length,.int .i64 0,ptr K1.n 0,x7,x8,x9,x10,x11,
  .bool false,u.r,.int .i64 ((L.r.length:Nat):Int),.int .i64 ((i:Nat):Int),x16,x17,x18,x19,x20,x21,x22,x23,x24,x25]∧
  M.get K1.n=some (.cells true false 5 (Abm L vr (.slice none 0 0)) 167)∧OW 207 6 K1 M vr ((List.range i).map (Ae0 L))∧bn vr≠K1.n+1∧i≤L.r.length∧q=L.r.length-i) L.r.length
  ⟨0,.slice none 0 0,_,_,_,_,_,_,_,_,_,_,_,_,_,_,_,rfl,gm2,OW.nil _ _ k2,by simp[bn,blk],by omega,rfl⟩ ?_
 rintro Q' q fr M ⟨i,vr,x7,x8,x9,x10,x11,x16,x17,x18,x19,x20,x21,x22,x23,x24,x25,rfl,gm,ow,bv,hi,rfl⟩ hn' hx' hret
 have km:=ow.k
 have gl2:=km.at_ gl1
 have gt2:=km.at_ gt1
 by_cases hlt:i<L.r.length
 ·obtain⟨hyr,hyo⟩:=Agn h (i:=i) hlt
  obtain⟨na,ra⟩:=(hA.r.keeps km).at_ (i:=i) (by omega)
  have hgood:=Aa2 he (List.getElem_mem hlt)
  rw[←Ac4 hlt,←hyr]at hgood
  have hmr:Ae0 L i=[S64 (trP (ro L i)),S64 (fiP (ro L i)),S64 (ahP L (ro L i)),S32 (ndP (nds (ro L i)) false),S32 (ndP (nds (ro L i)) true),S64 (Ain L i)]:=rfl
  rw[←hyr]at hmr
  generalize xs.getD i rv0=y at*
  have hlim:=hgood.lim
  have lP:=hlim.p
  have lO:=hlim.o
  have lQ:=hlim.q
  have lF:=hlim.f
  have h0:(0:Int)≤(i:Int):=by omega
  have h1:(i:Int)<((L.r.length:Nat):Int):=by omega
  have hw:IntKind.i64.wrap ((i:Int)+1)=((i+1:Nat):Int):=by rw[Aae (by omega) (by omega)];simp
  have rowy:y.row=[.string ⟨y.r.n.toArray⟩,.int .i64 y.r.g,y.vp,y.vq,y.vo,y.vf]:=rfl
  obtain⟨a3,a4,a5,a6⟩:=RV.ones hyo
  have a1:one1 (Value.int .i64 y.r.g)=True:=by simp[one1,Aax]
  have a2:one1 (Value.string ⟨y.r.n.toArray⟩)=True:=by simp[one1,Abe]
  obtain⟨M1,hM1⟩:∃X,X=M.alloc (.cells true false 6 y.row 87):=⟨_,rfl⟩
  have m1:M1.n=M.n+1:=by rw[hM1];rfl
  have kM1:Aac M M1:=by rw[hM1];exact(Aac.refl M).alloc _
  have gy1:M1.get M.n=some (.cells true false 6 y.row 87):=by rw[hM1];exact Aaa.Bp6 M _
  have hMn:=Aaa.Bp9 gm
  have kmn:=km.n
  have hM1':=hM1
  simp only[rowy]at ra hM1' gy1
  have yo1:=((hyo.keeps (k0.trans k1)).keeps km).keeps kM1
  have tTr:=t31 yo1 (by omega)
  simp only[rowy]at tTr
  simp(disch:=first|assumption|omega)only[P3,seval,Aak,Aat,h1]
  rw[Aah]
  simp(disch:=first|assumption|omega|(simp only[LN]<;>omega)|(simp(disch:=first|assumption|omega|(simp only[LN]<;>omega))only[Aab,Aad];assumption))only[P3,seval,Aak,Aat,lr,ra,na,Aai,a1,a2,a3,a4,a5,a6]
  rw[←hM1']
  refine Aag tTr ?_
  rintro tv M2 ⟨htv,kM2,_⟩
  have hti:IL M2 tv (trk y.r):=htv.sl
  simp(disch:=first|assumption|omega)only[P3,seval,Aak,Aat,gy1]
  refine Aaw (t120 hti (by simp[trk];omega)) ?_
  have gl3:=(kM1.trans kM2).at_ gl2
  have gy3:=kM2.at_ gy1
  have gt3:=(kM1.trans kM2).at_ gt2
  have lpt:=yo1.p.len
  obtain⟨nap,rap⟩:=(yo1.p.keeps kM2).at_ (i:=0) hgood.ne
  have p0:(0:Int)<((y.r.path.length:Nat):Int):=by have:=hgood.ne;omega
  obtain⟨_,rap1⟩:=yo1.p.at_ (i:=0) hgood.ne
  have q1:=Af8 rap1
  have q2:=kM2.get _ q1
  have q3:bn y.vp-1<M2.n:=by have:=kM2.n;omega
  have q4:M.n<M2.n:=by have:=kM2.n;omega
  simp(disch:=first|assumption|omega)only[P3,seval,Aak,Aat,gy3,gy1,nap,rap,lpt,Aal,p0,q1,q2,q3,q4]
  refine Aaw (Ax5 _) ?_
  obtain⟨n,hn⟩:∃n:Nat,y.r.g=(n:Int):=⟨y.r.g.toNat,by have:=hlim.g.1;omega⟩
  have hnl:n<L.g.length:=by have:=hlim.g.2;omega
  obtain⟨nag,rag1⟩:=(((hA.g.keeps km).keeps kM1).at_ hnl)
  obtain⟨_,rag⟩:=((((hA.g.keeps km).keeps kM1).keeps kM2).at_ hnl)
  have hah:ahP L y.r=Ac3 (L.g.getD n ([],0)).2 :=by unfold ahP;rw[hn];rfl
  have q5:=Af8 rag1
  have q6:=kM2.get _ q5
  have q7:bn u.g-1<M2.n:=by have:=kM2.n;omega
  have q8:M1.get H.n=some (.cells true false 4 [u.s,u.p,u.g,u.r] 27):=kM1.at_ gl2
  have q9:H.n<M1.n:=Aaa.Bp9 q8
  have q10:H.n<M2.n:=Aaa.Bp9 gl3
  have q11:M.n<M1.n:=Aaa.Bp9 gy1
  have g0:(0:Int)≤(n:Int):=by omega
  have g1:(n:Int)<((L.g.length:Nat):Int):=by omega
  simp(disch:=first|assumption|omega)only[P3,seval,Aak,Aat,gy3,gy1,gl3,q8,hn,g0,g1,nag,rag,lg,Aal,Aai,q4,q5,q6,q7,q9,q10,q11]
  refine Aaw (Ax5 _) ?_
  have tbi:(A60 L)[i]? =some (S64 (Ain L i)):=by unfold A60;simp[hlt]
  have gt1':=kM1.at_ gt2
  have q12:tb<M1.n:=Aaa.Bp9 gt1'
  have q13:tb<M2.n:=Aaa.Bp9 gt3
  obtain⟨M3,hM3⟩:∃X,X=M2.alloc (.cells true false 6 [S64 (trP y.r),S64 (fiP y.r),S64 (ahP L y.r),.int .u32 0,.int .u32 0,S64 (Ain L i)] 207):=⟨_,rfl⟩
  have m3:M3.n=M2.n+1:=by rw[hM3];rfl
  have kM3:Aac M2 M3:=by rw[hM3];exact(Aac.refl M2).alloc _
  have gx3:M3.get M2.n=some (.cells true false 6 [S64 (trP y.r),S64 (fiP y.r),S64 (ahP L y.r),.int .u32 0,.int .u32 0,S64 (Ain L i)] 207):=by rw[hM3];exact Aaa.Bp6 M2 _
  have hM3':=hM3
  unfold trP fiP at hM3'
  rw[hah]at hM3'
  have gy4:=kM3.at_ gy3
  have tN:=t32 ((yo1.keeps kM2).keeps kM3) (by omega)
  simp only[rowy,hn]at tN
  simp only[hn]at gy4
  simp(disch:=first|assumption|omega|(simp only[LN]<;>omega)|(simp(disch:=first|assumption|omega|(simp only[LN]<;>omega))only[Aab,Aad];assumption))only[P3,seval,Aak,Aat,gt1',gt3,tbi,h0,h1,Bmj,Int.toNat_natCast,Nat.mul_one,Nat.zero_add,O4,q12,q13,gy3,hn,q4]
  simp only[←hM3']
  refine Aag tN ?_
  rintro nv M4 ⟨hnv,kM4,fnv⟩
  have hni:NL M4 nv (nds y.r):=hnv.sl
  have lnv:=hni.len
  have isn:=Sl.is hni
  have ndl:(nds y.r).length≤32:=by simp[nds];omega
  have gx4:=kM4.at_ gx3
  have e0:[S64 (trP y.r),S64 (fiP y.r),S64 (ahP L y.r),.int .u32 0,.int .u32 0,S64 (Ain L i)]=Aut L y.r i 0:=by
   unfold Aut;rw[List.take_zero,←Aus,←Aus]
  rw[e0]at gx4
  simp(disch:=first|assumption|omega)only[P3,seval,Aak,Aat,lnv,isn]
  rw[Aah]
  refine Aan (fun q fr N=>∃j x10 x20 x21,fr=[.agg #[u.s,u.p,u.g,u.r],ptr H.n 0,ptr (H.n+1) 0,.int .i64 0,slc tb 0 L.r.length L.r.length,.int .i64 0,ptr K1.n 0,.int .i64 ((i:Nat):Int),ptr M.n 0,ptr M2.n 0,x10,x11,
   .bool false,u.r,.int .i64 ((L.r.length:Nat):Int),.int .i64 ((i:Nat):Int),.bool true,nv,.int .i64 (((nds y.r).length:Nat):Int),.int .i64 ((j:Nat):Int),x20,x21,x22,x23,x24,x25]∧
   Chg [M2.n] M4 N∧N.get M2.n=some (.cells true false 6 (Aut L y.r i j) 207)∧j≤(nds y.r).length∧q=(nds y.r).length - j) (nds y.r).length
   ⟨0,_,_,_,rfl,Chg.refl _ _,gx4,by omega,rfl⟩ ?_
  rintro Q2 q fr N ⟨j,x10,x20,x21,rfl,cN,gxN,hj,rfl⟩ hn2 hx2 hret2
  have nbn:∀b,blk nv=some b→b∉[M2.n]:=fun b hb=>by have:=fnv b hb;simp;omega
  have hniN:NL N nv (nds y.r):=Sl.chg hni cN nbn
  by_cases hlj:j<(nds y.r).length
  ·obtain⟨nj,rj⟩:=hniN.at_ hlj
   have hw2:IntKind.i64.wrap ((j:Int)+1)=((j+1:Nat):Int):=by rw[Aae (by omega) (by omega)];simp
   have j0:(0:Int)≤(j:Int):=by omega
   have j1:((j:Nat):Int)<(((nds y.r).length:Nat):Int):=by omega
   have sf:=Aur hlj false
   have st:=Aur hlj true
   have hmem:(nds y.r).getD j (0,false)∈nds y.r:=by rw[List.getD_eq_getElem?_getD,List.getElem?_eq_getElem hlj];exact List.getElem_mem hlj
   have hrng:=hgood.nd _ hmem
   generalize(nds y.r).getD j (0,false)=z at*
   obtain⟨zp,zb⟩:=z
   obtain⟨m,rfl⟩:∃m:Nat,zp=(m:Int):=⟨zp.toNat,by have:=hrng.1;omega⟩
   have hm32:m<32:=by have:=hrng.2;simp only at this;omega
   have s1:=Alh hm32
   have hxl:=Aaa.Bp9 gxN
   have gxA:(N.alloc (.cells true false 2 [.int .i64 (m:Int),.bool zb] 120)).get M2.n=some (.cells true false 6 (Aut L y.r i j) 207):=((Aac.refl N).alloc _).at_ gxN
   have gnA:=Aaa.Bp6 N (.cells true false 2 [.int .i64 (m:Int),.bool zb] 120)
   have cA:Chg [M2.n] M4 (N.alloc (.cells true false 2 [.int .i64 (m:Int),.bool zb] 120)):=cN.alloc _
   unfold Aut at gxA gxN
   cases zb with
   |true=>
    simp(disch:=first|assumption|omega|(simp only[LN]<;>omega)|(simp(disch:=first|assumption|omega|(simp only[LN]<;>omega))only[Aab,Aad];assumption))only[P4,seval,j1,lnv,nj,rj,Aai,gxN,s1,Anj,Afs,Ab8,hw2]
    have ex:Aut L y.r i (j+1)=[S64 (trP y.r),S64 (fiP y.r),S64 (ahP L y.r),S32 (ndP ((nds y.r).take j) false),S32 (fun i=>ndP ((nds y.r).take j) true i||decide (i=m)),S64 (Ain L i)]:=by
     unfold Aut
     rw[show ndP ((nds y.r).take (j+1)) false=ndP ((nds y.r).take j) false from funext fun p=>by rw[sf];simp,
      show ndP ((nds y.r).take (j+1)) true=fun i=>ndP ((nds y.r).take j) true i||decide (i=m)from funext fun p=>by rw[st];simp only[beq_self_eq_true,Bool.and_true,Int.ofNat_inj]]
    exact hn2 _ _ _ ⟨j+1,_,_,_,rfl,(cN.trans (Chg.set N hxl _) (by simp)).alloc _,((Aac.refl _).alloc _).at_ (by rw[ex];exact Aaa.Bp7 gxN _),by omega,rfl⟩ (by omega)
   |false=>
    simp(disch:=first|assumption|omega|(simp only[LN]<;>omega)|(simp(disch:=first|assumption|omega|(simp only[LN]<;>omega))only[Aab,Aad];assumption))only[P4,seval,j1,lnv,nj,rj,Aai,gxN,s1,Anj,Afs,Ab8,hw2]
    have ex:Aut L y.r i (j+1)=[S64 (trP y.r),S64 (fiP y.r),S64 (ahP L y.r),S32 (fun i=>ndP ((nds y.r).take j) false i||decide (i=m)),S32 (ndP ((nds y.r).take j) true),S64 (Ain L i)]:=by
     unfold Aut
     rw[show ndP ((nds y.r).take (j+1)) true=ndP ((nds y.r).take j) true from funext fun p=>by rw[st];simp,
      show ndP ((nds y.r).take (j+1)) false=fun i=>ndP ((nds y.r).take j) false i||decide (i=m)from funext fun p=>by rw[sf];simp only[beq_self_eq_true,Bool.and_true,Int.ofNat_inj]]
    exact hn2 _ _ _ ⟨j+1,_,_,_,rfl,(cN.trans (Chg.set N hxl _) (by simp)).alloc _,((Aac.refl _).alloc _).at_ (by rw[ex];exact Aaa.Bp7 gxN _),by omega,rfl⟩ (by omega)
  ·have j1:¬((j:Nat):Int)<(((nds y.r).length:Nat):Int):=by omega
   have hje:j=(nds y.r).length:=by omega
   subst hje
   have exl:Aut L y.r i (nds y.r).length=Ae0 L i:=by unfold Aut;rw[List.take_length,hmr,hyr]
   rw[exl,hmr]at gxN
   have kMN:Aac M N:=(((kM1.trans kM2).trans kM3).trans kM4).Bqa cN (by simp;omega)
   have owN:=ow.keeps kMN
   have gmN:=kMN.at_ gm
   unfold Abm at gmN
   have isv:=owN.is
   simp(disch:=first|assumption|omega)only[P4,seval,j1]
   refine hx2 _ _ _ ?_
   simp(disch:=first|assumption|omega|(simp only[LN]<;>omega)|(simp(disch:=first|assumption|omega|(simp only[LN]<;>omega))only[Aab,Aad];assumption))only[P4,seval,gmN,gxN,isv,Bmh,Abn,Ab8,Acu,Afs]
   have lvr:=ow.len
   refine OW.appR (owN.keeps ((Aac.refl N).alloc _)) (Sl.one1 rfl rfl) (by simp;omega) ?_
   intro v' K' ow' c'
   have gmK:=c'.at_ (((Aac.refl N).alloc _).at_ gmN) (Ahc bv)
   have bv':=ow'.sep gmK (by omega)
   have hbK:=Aaa.Bp9 gmK
   have o1:=ow'.one
   simp(disch:=first|assumption|omega)only[P4,seval,gmK,o1,hw]
   have ers:(List.range (i+1)).map (Ae0 L)=(List.range i).map (Ae0 L)++[[S64 (trP y.r),S64 (fiP y.r),S64 (ahP L y.r),S32 (ndP (nds y.r) false),S32 (ndP (nds y.r) true),S64 (Ain L i)]]:=by
    rw[List.range_succ,List.map_append,←hmr];rfl
   exact hn' _ _ _ ⟨i+1,v',_,_,_,_,_,_,_,_,_,_,_,_,_,_,_,rfl,Aaa.Bp7 gmK _,by rw[ers];exact ow'.set bv' (Nat.le_refl _) hbK,bv',by omega,rfl⟩ (by omega)
 ·have h1:¬((i:Nat):Int)<((L.r.length:Nat):Int):=by omega
  have hin:i=L.r.length:=by omega
  subst hin
  simp(disch:=first|assumption|omega)only[P4,seval,h1]
  refine hx' _ _ _ ?_
  simp(disch:=first|assumption|omega)only[P3,seval,Aak,Aat,gl2,lp,ip]
  rw[Aah]
  refine Aan (fun q fr N=>∃i vl x11 x25,fr=[.agg #[u.s,u.p,u.g,u.r],ptr H.n 0,ptr (H.n+1) 0,.int .i64 0,slc tb 0 L.r.length L.r.length,.int .i64 0,ptr K1.n 0,x7,x8,x9,x10,x11,
   .bool false,u.r,.int .i64 ((L.r.length:Nat):Int),.int .i64 ((L.r.length:Nat):Int),.bool false,x17,x18,x19,x20,x21,u.p,.int .i64 ((L.p.length:Nat):Int),.int .i64 ((i:Nat):Int),x25]∧
   N.get K1.n=some (.cells true false 5 (Abm L vr vl) 167)∧OW 207 6 K1 N vr (Ajy L)∧OW 39 1 K1 N vl ((List.range i).map fun i=>[S64 (Ax6 L i)])∧i≤L.p.length∧q=L.p.length-i) L.p.length
   ⟨0,.slice none 0 0,_,_,rfl,gm,ow,OW.nil _ _ km,by omega,rfl⟩ ?_
  rintro Q2 q fr N ⟨i,vl,x11,x25,rfl,gmN,owr,owl,hi,rfl⟩ hn2 hx2 hret2
  have kN:=owr.k
  by_cases hlt:i<L.p.length
  ·obtain⟨np,rp⟩:=(hA.p.keeps kN).at_ hlt
   have h0:(0:Int)≤(i:Int):=by omega
   have h1:(i:Int)<((L.p.length:Nat):Int):=by omega
   have hw:IntKind.i64.wrap ((i:Int)+1)=((i+1:Nat):Int):=by rw[Aae (by omega) (by omega)];simp
   have hli:Ax6 L i=Ac3 (L.p.getD i ([],0)).2 :=rfl
   generalize L.p.getD i ([],0)=z at*
   have w1:one1 (Value.int .i64 z.2)=True:=by simp[one1,Aax]
   have w2:one1 (Value.string ⟨z.1.toArray⟩)=True:=by simp[one1,Abe]
   have isl:=owl.is
   have isr:=owr.is
   unfold Abm at gmN
   obtain⟨N1,hN1⟩:∃X,X=N.alloc (.cells true false 2 [.string ⟨z.1.toArray⟩,.int .i64 z.2] 89):=⟨_,rfl⟩
   have kN1:Aac N N1:=by rw[hN1];exact(Aac.refl N).alloc _
   have gmN1:=kN1.at_ gmN
   simp(disch:=first|assumption|omega|(simp only[LN]<;>omega)|(simp(disch:=first|assumption|omega|(simp only[LN]<;>omega))only[Aab,Aad];assumption))only[P4,seval,h1,lp,np,rp,Aai,gmN,w1,w2]
   have gpN1:=Aaa.Bp6 N (.cells true false 2 [.string ⟨z.1.toArray⟩,.int .i64 z.2] 89)
   rw[←hN1]at gpN1 ⊢
   have t1:K1.n<N1.n:=Aaa.Bp9 gmN1
   simp(disch:=first|assumption|omega)only[P4,seval,gmN1,gpN1,isl]
   refine Aaw (Ax5 _) ?_
   have lvl:=owl.len
   have fW:=Bmg (S64 (Ac3 z.2)) rfl
   simp(disch:=first|assumption|omega)only[P4,seval,gmN1,gpN1,isl,fW,Abn,Acu,t1]
   refine⟨by simp,OW.appD (owl.keeps (kN1.alloc _)) (Sl.one1 (row:=[S64 (Ac3 z.2)]) rfl rfl) ?_ ?_⟩
   ·simp only[List.length_map,List.length_range,List.length_cons,List.length_nil];omega
   intro v' K' ow' c'
   have owr':=(owr.keeps (kN1.alloc (.cells true false 1 [S64 (Ac3 z.2)] 39))).chg c' (owr.apart owl (by omega)) ow'.k
   have hml:K1.n∉Ahm vl:=Ahc (owl.sep gmN (by omega))
   have gmK:=c'.at_ (((Aac.refl N1).alloc (.cells true false 1 [S64 (Ac3 z.2)] 39)).at_ gmN1) hml
   have bv':=ow'.sep gmK (by omega)
   have br':=owr'.sep gmK (by omega)
   have hbK:=Aaa.Bp9 gmK
   have o1:=ow'.one
   simp(disch:=first|assumption|omega)only[P4,seval,gmK,o1,hw]
   have ers:(List.range (i+1)).map (fun i=>[S64 (Ax6 L i)])=(List.range i).map (fun i=>[S64 (Ax6 L i)])++[[S64 (Ac3 z.2)]]:=by
    rw[List.range_succ,List.map_append,←hli];rfl
   exact hn2 _ _ _ ⟨i+1,v',_,_,rfl,Aaa.Bp7 gmK _,owr'.set br' (Nat.le_refl _) hbK,by rw[ers];exact ow'.set bv' (Nat.le_refl _) hbK,by omega,rfl⟩ (by omega)
  ·have h1:¬((i:Nat):Int)<((L.p.length:Nat):Int):=by omega
   have hie:i=L.p.length:=by omega
   subst hie
   unfold Abm at gmN
   have isl:=owl.one
   have isr:=owr.one
   have gwN:=kN.at_ gw1
   have hwl:=Aaa.Bp9 gwN
   simp(disch:=first|assumption|omega)only[P4,seval,h1]
   refine hx2 _ _ _ ?_
   simp(disch:=first|assumption|omega|(simp only[LN]<;>omega)|(simp(disch:=first|assumption|omega|(simp only[LN]<;>omega))only[Aab,Aad];assumption))only[P4,seval,gmN,gwN,isl,isr,O4]
   refine hq2 _ _ ⟨.tuple #[.agg (Abm L vr vl).toArray,.int .i64 0],?_,(k0.trans (k1.trans kN)).set (by omega) hwl _,fun e=>absurd he e,fun _=>⟨vr,vl,rfl,owr.sl.chg1 (Chg.set N hwl _) (owr.sep gwN (by omega)),owl.sl.chg1 (Chg.set N hwl _) (owl.sep gwN (by omega)),fun b hb=>Nat.le_trans (by omega) (owr.f b hb),fun b hb=>Nat.le_trans (by omega) (owl.f b hb)⟩⟩
   show Acx [.cn 5 2,.t 3] _ _=_
   have gg:=Aaa.Bp7 gwN (.cells true false 5 [vr,vl,S64 (Aby ((L.r.length:Nat):Int)),S32 (Aby ((L.p.length:Nat):Int)),S64 (Aby ((L.s.length:Nat):Int))] 167)
   simp[Acx,Agl,RX.get,Adm,ptr,Adp,gg,Abm];rfl
end Go.AM.Fd

set_option maxRecDepth 100000
set_option maxHeartbeats 0
namespace Go.AM.F
def Bo6:List Value:=[(.int .u64 0),(.int .u64 0),(.int .u64 0)]++List.replicate 64 (.int .u8 0)++[(.int .u32 0)]
def Bkm:List Value:=[(.pointer none),(.int .u64 0),(.int .u64 0),(.int .u64 0)]++List.replicate 64 (.int .u8 0)++[(.int .u32 0),(.int .u64 0),(.int .u32 0),(.int .u32 0),(.slice none 0 0),(.int .u64 0)]
def Bo7:List Nat:=List.replicate 68 1
def Ae8:TypeId→List Value
 |102=>[(.slice none 0 0),(.slice none 0 0),(.int .i64 0),(.int .u32 0)]
 |87=>[(.string ByteArray.empty),(.int .i64 0),(.slice none 0 0),(.slice none 0 0),(.slice none 0 0),(.slice none 0 0)]
 |107=>[(.int .i64 0),(.int .i64 0),(.slice none 0 0),(.slice none 0 0),(.slice none 0 0)]
 |89=>[(.string ByteArray.empty),(.int .i64 0)]
 |43=>Bo6
 |54=>[(.int .u64 0),(.int .u32 0)]
 |241=>Bkm
 |83=>[(.int .u8 0),(.int .i64 0)]
 |244=>[.nilFunc,.nilFunc,.nilFunc,.nilFunc]
 |41=>[(.int .u32 0)]
 |120=>[(.int .i64 0),(.bool false)]
 |_=>[]
def Ae9:TypeId→Value
 |_=>undef
def Afa:TypeId→List Nat
 |43=>Bo7
 |_=>[]
def Afb:Nat→TypeId→List Value
 |1,107=>[(.int .i64 0),(.int .i64 0),(.slice none 0 0),(.slice none 0 0),(.slice none 0 0)]
 |1,3=>[(.int .i64 0)]
 |_,_=>[]
noncomputable def f10:Aao:=by
 refine(fun(_:Cz Ae8 Ae9 Afa Afb Go.Proofs.Tryz.prog 0 [0,1,2,3,4,6,7,8,9,10,17,25,26,27,28,62,63,64,65] 10 ?a)=>?a) ?h
 case h=>
 intro zc zv zk zr hc hv hk hr
 conv=>lhs;cbv;try simp only[hc,hv,hk,hr,Ae8,Ae9,Afa,Afb]
theorem Az4:Aap Go.Proofs.Tryz.prog 0 [0,1,2,3,4,6,7,8,9,10,17,25,26,27,28,62,63,64,65] 10=some f10:=by kernel_rfl
theorem Bcw:Aaf Go.Proofs.Tryz.prog 10 1=true:=by kernel_rfl
noncomputable def Bo8:Aao:=by
 refine(fun(_:Cz Ae8 Ae9 Afa Afb Go.Proofs.Tryz.prog 0 [0,1,2,4,5,6,7,8,10,11,12,13,15,39,40,41,42,53,54,55,59,74,75,76,80] 156 ?a)=>?a) ?h
 case h=>
 intro zc zv zk zr hc hv hk hr
 conv=>lhs;cbv;try simp only[hc,hv,hk,hr,Ae8,Ae9,Afa,Afb]
theorem A5a:Aap Go.Proofs.Tryz.prog 0 [0,1,2,4,5,6,7,8,10,11,12,13,15,39,40,41,42,53,54,55,59,74,75,76,80] 156=some Bo8:=by kernel_rfl
theorem Bcx:Aaf Go.Proofs.Tryz.prog 156 3=true:=by kernel_rfl
noncomputable def f41:Aao:=by
 refine(fun(_:Cz Ae8 Ae9 Afa Afb Go.Proofs.Tryz.prog 0 [0,1,3,4,5,6,8,22,23,24,30,40,50] 41 ?a)=>?a) ?h
 case h=>
 intro zc zv zk zr hc hv hk hr
 conv=>lhs;cbv;try simp only[hc,hv,hk,hr,Ae8,Ae9,Afa,Afb]
theorem Bcy:Aap Go.Proofs.Tryz.prog 0 [0,1,3,4,5,6,8,22,23,24,30,40,50] 41=some f41:=by kernel_rfl
theorem Bkn:Aaf Go.Proofs.Tryz.prog 41 2=true:=by kernel_rfl
noncomputable def f16:Aao:=by
 refine(fun(_:Cz Ae8 Ae9 Afa Afb Go.Proofs.Tryz.prog 0 [0,1,3,4,5,6,15,19,20,21,22,30,40] 16 ?a)=>?a) ?h
 case h=>
 intro zc zv zk zr hc hv hk hr
 conv=>lhs;cbv;try simp only[hc,hv,hk,hr,Ae8,Ae9,Afa,Afb]
theorem Bcz:Aap Go.Proofs.Tryz.prog 0 [0,1,3,4,5,6,15,19,20,21,22,30,40] 16=some f16:=by kernel_rfl
theorem Bko:Aaf Go.Proofs.Tryz.prog 16 2=true:=by kernel_rfl
noncomputable def f33:Aao:=by
 refine(fun(_:Cz Ae8 Ae9 Afa Afb Go.Proofs.Tryz.prog 0 [0,1,2,4,5,6,7,21,23,24,25,26,42] 33 ?a)=>?a) ?h
 case h=>
 intro zc zv zk zr hc hv hk hr
 conv=>lhs;cbv;try simp only[hc,hv,hk,hr,Ae8,Ae9,Afa,Afb]
theorem Bc0:Aap Go.Proofs.Tryz.prog 0 [0,1,2,4,5,6,7,21,23,24,25,26,42] 33=some f33:=by kernel_rfl
theorem Bkp:Aaf Go.Proofs.Tryz.prog 33 2=true:=by kernel_rfl
noncomputable def Bo9:Aao:=by
 refine(fun(_:Cz Ae8 Ae9 Afa Afb Go.Proofs.Tryz.prog 0 [0,1,3,4,5,23,53] 157 ?a)=>?a) ?h
 case h=>
 intro zc zv zk zr hc hv hk hr
 conv=>lhs;cbv;try simp only[hc,hv,hk,hr,Ae8,Ae9,Afa,Afb]
theorem A5b:Aap Go.Proofs.Tryz.prog 0 [0,1,3,4,5,23,53] 157=some Bo9:=by kernel_rfl
theorem Bc1:Aaf Go.Proofs.Tryz.prog 157 2=true:=by kernel_rfl
noncomputable def Bpa:Aao:=by
 refine(fun(_:Cz Ae8 Ae9 Afa Afb Go.Proofs.Tryz.prog 0 [0,1,4] 158 ?a)=>?a) ?h
 case h=>
 intro zc zv zk zr hc hv hk hr
 conv=>lhs;cbv;try simp only[hc,hv,hk,hr,Ae8,Ae9,Afa,Afb]
theorem A5c:Aap Go.Proofs.Tryz.prog 0 [0,1,4] 158=some Bpa:=by kernel_rfl
theorem Bc2:Aaf Go.Proofs.Tryz.prog 158 2=true:=by kernel_rfl
noncomputable def Bc3:Aao:=by
 refine(fun(_:Cz Ae8 Ae9 Afa Afb Go.Proofs.Tryz.prog 0 [0,1,4,5,19,29,46,55,76] 159 ?a)=>?a) ?h
 case h=>
 intro zc zv zk zr hc hv hk hr
 conv=>lhs;cbv;try simp only[hc,hv,hk,hr,Ae8,Ae9,Afa,Afb]
theorem A5d:Aap Go.Proofs.Tryz.prog 0 [0,1,4,5,19,29,46,55,76] 159=some Bc3:=by kernel_rfl
theorem Bc4:Aaf Go.Proofs.Tryz.prog 159 2=true:=by kernel_rfl
noncomputable def Bpb:Aao:=by
 refine(fun(_:Cz Ae8 Ae9 Afa Afb Go.Proofs.Tryz.prog 0 [0,1,4,5,6,34] 160 ?a)=>?a) ?h
 case h=>
 intro zc zv zk zr hc hv hk hr
 conv=>lhs;cbv;try simp only[hc,hv,hk,hr,Ae8,Ae9,Afa,Afb]
theorem A5e:Aap Go.Proofs.Tryz.prog 0 [0,1,4,5,6,34] 160=some Bpb:=by kernel_rfl
theorem Bc5:Aaf Go.Proofs.Tryz.prog 160 2=true:=by kernel_rfl
noncomputable def f42:Aao:=by
 refine(fun(_:Cz Ae8 Ae9 Afa Afb Go.Proofs.Tryz.prog 0 [0,1,4] 42 ?a)=>?a) ?h
 case h=>
 intro zc zv zk zr hc hv hk hr
 conv=>lhs;cbv;try simp only[hc,hv,hk,hr,Ae8,Ae9,Afa,Afb]
theorem Bc6:Aap Go.Proofs.Tryz.prog 0 [0,1,4] 42=some f42:=by kernel_rfl
theorem Bkq:Aaf Go.Proofs.Tryz.prog 42 2=true:=by kernel_rfl
noncomputable def f44:Aao:=by
 refine(fun(_:Cz Ae8 Ae9 Afa Afb Go.Proofs.Tryz.prog 0 [0,1,3] 44 ?a)=>?a) ?h
 case h=>
 intro zc zv zk zr hc hv hk hr
 conv=>lhs;cbv;try simp only[hc,hv,hk,hr,Ae8,Ae9,Afa,Afb]
theorem Bc7:Aap Go.Proofs.Tryz.prog 0 [0,1,3] 44=some f44:=by kernel_rfl
theorem Bkr:Aaf Go.Proofs.Tryz.prog 44 2=true:=by kernel_rfl
noncomputable def f46:Aao:=by
 refine(fun(_:Cz Ae8 Ae9 Afa Afb Go.Proofs.Tryz.prog 0 [0,1,2,3] 46 ?a)=>?a) ?h
 case h=>
 intro zc zv zk zr hc hv hk hr
 conv=>lhs;cbv;try simp only[hc,hv,hk,hr,Ae8,Ae9,Afa,Afb]
theorem Bc8:Aap Go.Proofs.Tryz.prog 0 [0,1,2,3] 46=some f46:=by kernel_rfl
theorem Bks:Aaf Go.Proofs.Tryz.prog 46 2=true:=by kernel_rfl
noncomputable def Bkt:Aao:=by
 refine(fun(_:Cz Ae8 Ae9 Afa Afb Go.Proofs.Tryz.prog 0 [0,1,4,6,8,34,36,37,38,39,69,83,84,85,86,90] 161 ?a)=>?a) ?h
 case h=>
 intro zc zv zk zr hc hv hk hr
 conv=>lhs;cbv;try simp only[hc,hv,hk,hr,Ae8,Ae9,Afa,Afb]
theorem A5f:Aap Go.Proofs.Tryz.prog 0 [0,1,4,6,8,34,36,37,38,39,69,83,84,85,86,90] 161=some Bkt:=by kernel_rfl
theorem Bc9:Aaf Go.Proofs.Tryz.prog 161 2=true:=by kernel_rfl
noncomputable def Bg7:Aao:=by
 refine(fun(_:Cz Ae8 Ae9 Afa Afb Go.Proofs.Tryz.prog 0 [0,1,25,50] 162 ?a)=>?a) ?h
 case h=>
 intro zc zv zk zr hc hv hk hr
 conv=>lhs;cbv;try simp only[hc,hv,hk,hr,Ae8,Ae9,Afa,Afb]
theorem A5g:Aap Go.Proofs.Tryz.prog 0 [0,1,25,50] 162=some Bg7:=by kernel_rfl
theorem Bda:Aaf Go.Proofs.Tryz.prog 162 2=true:=by kernel_rfl
noncomputable def Bku:Aao:=by
 refine(fun(_:Cz Ae8 Ae9 Afa Afb Go.Proofs.Tryz.prog 0 [0,1,3,4,5,18,25,26,27,28,40] 163 ?a)=>?a) ?h
 case h=>
 intro zc zv zk zr hc hv hk hr
 conv=>lhs;cbv;try simp only[hc,hv,hk,hr,Ae8,Ae9,Afa,Afb]
theorem A5h:Aap Go.Proofs.Tryz.prog 0 [0,1,3,4,5,18,25,26,27,28,40] 163=some Bku:=by kernel_rfl
theorem Bdb:Aaf Go.Proofs.Tryz.prog 163 2=true:=by kernel_rfl
noncomputable def Bpc:Aao:=by
 refine(fun(_:Cz Ae8 Ae9 Afa Afb Go.Proofs.Tryz.prog 0 [0,1,2,4] 164 ?a)=>?a) ?h
 case h=>
 intro zc zv zk zr hc hv hk hr
 conv=>lhs;cbv;try simp only[hc,hv,hk,hr,Ae8,Ae9,Afa,Afb]
theorem A5i:Aap Go.Proofs.Tryz.prog 0 [0,1,2,4] 164=some Bpc:=by kernel_rfl
theorem Bdc:Aaf Go.Proofs.Tryz.prog 164 2=true:=by kernel_rfl
noncomputable def Bpd:Aao:=by
 refine(fun(_:Cz Ae8 Ae9 Afa Afb Go.Proofs.Tryz.prog 0 [0,1,4] 165 ?a)=>?a) ?h
 case h=>
 intro zc zv zk zr hc hv hk hr
 conv=>lhs;cbv;try simp only[hc,hv,hk,hr,Ae8,Ae9,Afa,Afb]
theorem A5j:Aap Go.Proofs.Tryz.prog 0 [0,1,4] 165=some Bpd:=by kernel_rfl
theorem Bdd:Aaf Go.Proofs.Tryz.prog 165 2=true:=by kernel_rfl
noncomputable def Bkv:Aao:=by
 refine(fun(_:Cz Ae8 Ae9 Afa Afb Go.Proofs.Tryz.prog 0 [0,1,2,3,4,6] 167 ?a)=>?a) ?h
 case h=>
 intro zc zv zk zr hc hv hk hr
 conv=>lhs;cbv;try simp only[hc,hv,hk,hr,Ae8,Ae9,Afa,Afb]
theorem A5k:Aap Go.Proofs.Tryz.prog 0 [0,1,2,3,4,6] 167=some Bkv:=by kernel_rfl
theorem Bde:Aaf Go.Proofs.Tryz.prog 167 3=true:=by kernel_rfl
noncomputable def Bpe:Aao:=by
 refine(fun(_:Cz Ae8 Ae9 Afa Afb Go.Proofs.Tryz.prog 0 [0,1,2,3] 168 ?a)=>?a) ?h
 case h=>
 intro zc zv zk zr hc hv hk hr
 conv=>lhs;cbv;try simp only[hc,hv,hk,hr,Ae8,Ae9,Afa,Afb]
theorem A5l:Aap Go.Proofs.Tryz.prog 0 [0,1,2,3] 168=some Bpe:=by kernel_rfl
theorem Bdf:Aaf Go.Proofs.Tryz.prog 168 2=true:=by kernel_rfl
noncomputable def Bpf:Aao:=by
 refine(fun(_:Cz Ae8 Ae9 Afa Afb Go.Proofs.Tryz.prog 0 [0,1,3] 169 ?a)=>?a) ?h
 case h=>
 intro zc zv zk zr hc hv hk hr
 conv=>lhs;cbv;try simp only[hc,hv,hk,hr,Ae8,Ae9,Afa,Afb]
theorem A5m:Aap Go.Proofs.Tryz.prog 0 [0,1,3] 169=some Bpf:=by kernel_rfl
theorem Bdg:Aaf Go.Proofs.Tryz.prog 169 2=true:=by kernel_rfl
end Go.AM.F

set_option maxRecDepth 8000
namespace Go.AM.Fd
open Nat (reduceAdd reduceEqDiff reduceLT reduceLeDiff reduceMul reduceSub)
open Go.Proofs Go.AM.F
def cfl(L:Ly)(i n:Nat):List Int:=((List.range n).filter fun k=>(k != i)&&cf L i k).map fun k:Nat=>(k:Int)
theorem Bmw{L:Ly}{i k:Nat}(h:((k != i)&&cf L i k)=true):cfl L i (k+1)=cfl L i k++[(k:Int)]:=by
 unfold cfl;rw[List.range_succ,List.filter_append,List.map_append];simp[h]
theorem Bmx{L:Ly}{i k:Nat}(h:((k != i)&&cf L i k)=false):cfl L i (k+1)=cfl L i k:=by
 unfold cfl;rw[List.range_succ,List.filter_append,List.map_append,List.filter_cons,h];simp
theorem Ao1(L:Ly)(i n:Nat):(cfl L i n).length≤n:=by
 unfold cfl;rw[List.length_map]
 exact Nat.le_trans (List.length_filter_le _ _) (by simp)
set_option maxHeartbeats 1000000 in
theorem t33{H:Aaa}{u:V4}{xs:List RV}{L:Ly}(h:LyR H u xs L)(he:Aar L=0)(hf:Aih 9223372036854775807 L){i:Nat}(hi:i<L.r.length):
 ∃w H',Aau Tryz.prog 0 33 [.agg u.l.toArray,.int .i64 (i:Nat)] H w H'∧OW 3 1 H H' w ((cfl L i L.r.length).map Agw):=by
 refine Aaq Bc0 Bkp ?_
 intro Q hq1 hq2
 have hmay:=Aav he
 have hL:=Aa8 hmay
 have lr:=hL.r
 have os:=Sl.one h.s
 have op:=Sl.one h.p
 have og:=Sl.one h.g
 have or:=Sl.one h.r
 have ir:=Sl.is h.r
 have lenr:=h.r.len
 rw[h.rlen]at lenr
 have hul:u.l=[u.s,u.p,u.g,u.r]:=rfl
 have e0:(0:Int)≤(i:Int):=by omega
 have e1:(i:Int)<((L.r.length:Nat):Int):=by omega
 have e2:¬(i:Int)<0:=by omega
 have e3:¬((L.r.length:Nat):Int)≤(i:Int):=by omega
 obtain⟨K0,hK0⟩:∃X,X=H.alloc (.cells true false 4 [u.s,u.p,u.g,u.r] 27):=⟨_,rfl⟩
 have k0:Aac H K0:=by rw[hK0];exact(Aac.refl H).alloc _
 have n0:K0.n=H.n+1:=by rw[hK0];rfl
 have gl0:K0.get H.n=some (.cells true false 4 [u.s,u.p,u.g,u.r] 27):=by rw[hK0];exact Aaa.Bp6 H _
 have tM:=Be1 (h.keeps k0) hf
 obtain⟨hyr,hyo⟩:=Agn h hi
 have hgood:=Aa2 he (List.getElem_mem hi)
 rw[←Ac4 hi,←hyr]at hgood
 have rr:∀K,Aac H K→nnS u.r=true∧Afp K 6 u.r i=some (xs.getD i rv0).row:=fun K k=>(h.r.keeps k).at_ (i:=i) (by rw[h.rlen];exact hi)
 have hcf:∀k,cf L i k=Adk L (xs.getD i rv0).r (ro L k):=fun k=>by unfold cf;rw[hyr]
 generalize xs.getD i rv0=y at*
 have rowy:y.row=[.string ⟨y.r.n.toArray⟩,.int .i64 y.r.g,y.vp,y.vq,y.vo,y.vf]:=rfl
 obtain⟨a3,a4,a5,a6⟩:=RV.ones hyo
 have a1:one1 (Value.int .i64 y.r.g)=True:=by simp[one1,Aax]
 have a2:one1 (Value.string ⟨y.r.n.toArray⟩)=True:=by simp[one1,Abe]
 simp only[hul]at tM ⊢
 simp(disch:=first|assumption|omega|(simp only[LN]<;>omega)|(simp(disch:=first|assumption|omega|(simp only[LN]<;>omega))only[Aab,Aad];assumption))only[f33,P4,seval,os,op,og,or,e2,e3,ir,lenr]
 simp only[←hK0]
 refine Aag tM ?_
 rintro _ X ⟨rfl,hX⟩
 rw[hX,hmay]
 simp(disch:=first|assumption|omega)only[P3,seval,Aak,Aat,gl0,ir,lenr]
 obtain⟨A1,hA1⟩:∃v:Value,v=.agg #[u.s,u.p,u.g,u.r]:=⟨_,rfl⟩
 rw[Aah,←hA1]
 refine Aan (fun q fr K=>∃k v x5 x6 x11 x12,fr=[A1,.int .i64 ((i:Nat):Int),ptr H.n 0,.slice none 0 0,v,x5,x6,.bool false,u.r,.int .i64 ((L.r.length:Nat):Int),.int .i64 ((k:Nat):Int),x11,x12]∧
  OW 3 1 K0 K v ((cfl L i k).map Agw)∧k≤L.r.length∧q=L.r.length-k) L.r.length
  ⟨0,_,_,_,_,_,rfl,OW.nil _ _ (Aac.refl K0),by omega,rfl⟩ ?_
 rintro Q' q fr K ⟨k,v,x5,x6,x11,x12,rfl,ow,hk,rfl⟩ hn' hx' hret
 have kK:=ow.k
 by_cases hlt:k<L.r.length
 ·have c0:(0:Int)≤(k:Int):=by omega
  have c1:(k:Int)<((L.r.length:Nat):Int):=by omega
  have hw:IntKind.i64.wrap ((k:Int)+1)=((k+1:Nat):Int):=by rw[Aae (by omega) (by omega)];simp
  obtain⟨hzr,hzo⟩:=Agn h hlt
  obtain⟨nb,rb⟩:=(h.r.keeps (k0.trans kK)).at_ (i:=k) (by rw[h.rlen];exact hlt)
  have zlim:=Aim hmay (List.getElem_mem hlt)
  rw[←Ac4 hlt,←hzr]at zlim
  have hcfk:=hcf k
  rw[←hzr]at hcfk
  have cy:=fun e=>Bmw (L:=L) (i:=i) (k:=k) e
  have cn:=fun e=>Bmx (L:=L) (i:=i) (k:=k) e
  generalize xs.getD k rv0=z at*
  have rowz:z.row=[.string ⟨z.r.n.toArray⟩,.int .i64 z.r.g,z.vp,z.vq,z.vo,z.vf]:=rfl
  obtain⟨b3,b4,b5,b6⟩:=RV.ones hzo
  have b1:one1 (Value.int .i64 z.r.g)=True:=by simp[one1,Aax]
  have b2:one1 (Value.string ⟨z.r.n.toArray⟩)=True:=by simp[one1,Abe]
  obtain⟨K1,hK1⟩:∃X,X=K.alloc (.cells true false 6 z.row 87):=⟨_,rfl⟩
  have k1:Aac K K1:=by rw[hK1];exact(Aac.refl K).alloc _
  have gz1:K1.get K.n=some (.cells true false 6 z.row 87):=by rw[hK1];exact Aaa.Bp6 K _
  have gl1:=(kK.trans k1).at_ gl0
  have kA:=(k0.trans kK).trans k1
  obtain⟨na,ra⟩:=rr _ kA
  have tC:=t67 (h.keeps kA) (hyo.keeps kA) (hzo.keeps kA) hgood.lim zlim hL
  simp only[rowz]at rb hK1 gz1
  simp only[hul,rowy,rowz]at tC ra
  by_cases hki:k=i
  ·have en:(((k:Nat):Int) != ((i:Nat):Int))=false:=by simp[hki]
   simp(disch:=first|assumption|omega|(simp only[LN]<;>omega)|(simp(disch:=first|assumption|omega|(simp only[LN]<;>omega))only[Aab,Aad];assumption))only[P4,seval,c1,lenr,nb,rb,Aai,b1,b2,b3,b4,b5,b6,en,hw]
   exact hn' _ _ _ ⟨k+1,_,_,_,_,_,rfl,by rw[cn (by simp[hki])];exact ow.keeps ((Aac.refl K).alloc _),by omega,rfl⟩ (by omega)
  ·have en:(((k:Nat):Int) != ((i:Nat):Int))=true:=by simp;omega
   have hb:(k != i)=true:=by simp[hki]
   simp(disch:=first|assumption|omega|(simp only[LN]<;>omega)|(simp(disch:=first|assumption|omega|(simp only[LN]<;>omega))only[Aab,Aad];assumption))only[P4,seval,c1,lenr,nb,rb,Aai,b1,b2,b3,b4,b5,b6,en]
   rw[←hK1]
   simp(disch:=first|assumption|omega|(simp only[LN]<;>omega)|(simp(disch:=first|assumption|omega|(simp only[LN]<;>omega))only[Aab,Aad];assumption))only[P4,seval,gl1,gz1,ir,lenr,na,ra,e0,e1,Aai]
   refine Aag tC ?_
   rintro _ X ⟨rfl,hX⟩
   rw[hX,←hcfk]
   cases hcc:cf L i k with
   |false=>
    simp(disch:=first|assumption|omega)only[P4,seval,hw]
    exact hn' _ _ _ ⟨k+1,_,_,_,_,_,rfl,by rw[cn (by rw[hcc];simp)];exact ow.keeps k1,by omega,rfl⟩ (by omega)
   |true=>
    have isv:=ow.is
    simp(disch:=first|assumption|omega)only[P4,seval,isv]
    have lc:=Ao1 L i k
    refine OW.appR ((ow.keeps k1).keeps ((Aac.refl _).alloc _)) (Sl.one1 (row:=[.int .i64 ((k:Nat):Int)]) rfl rfl) (by simp;omega) ?_
    intro v' K' ow' c'
    simp(disch:=first|assumption|omega)only[P4,seval,hw]
    exact hn' _ _ _ ⟨k+1,v',_,_,_,_,rfl,by rw[cy (by rw[hcc];simp[hki]),List.map_append];exact ow',by omega,rfl⟩ (by omega)
 ·have c1:¬(k:Int)<((L.r.length:Nat):Int):=by omega
  have hke:k=L.r.length:=by omega
  subst hke
  simp(disch:=first|assumption|omega)only[P4,seval,c1]
  refine hx' _ _ _ ?_
  simp(disch:=first|assumption|omega)only[P4,seval]
  exact hq2 _ _ ⟨_,rfl,ow.base k0⟩
end Go.AM.Fd
