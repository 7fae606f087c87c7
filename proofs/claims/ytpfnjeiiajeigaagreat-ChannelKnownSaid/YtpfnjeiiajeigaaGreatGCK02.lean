/- Part of the proof. -/
import Derived.Test.YtpfnjeiiajeigaaGreatGCK01
import Derived.OpenShut
import Derived.Carry
import Derived.ChangeSame
import Derived.WalkKit
import Derived.ProofKit
import Derived.Laws.Externs
set_option maxRecDepth 100000
set_option maxHeartbeats 0
set_option linter.unusedSimpArgs false
set_option linter.unusedVariables false
namespace Go.AM
def A20(P:Program)(f:TypeId->Bool):List Field->Nat->Nat->Bool
 |[],off,tot=>off==tot
 |fd::r,off,tot=>fd.offset==off&&f fd.type&&A20 P f r (off+P.cellsOf fd.type) tot
def okT(P:Program):Nat->TypeId->Bool
 |0,_=>false
 |d+1,t=>match P.underlying t with
  |some .bool=>P.cellsOf t==1
  |some (.int _)=>P.cellsOf t==1
  |some .string=>P.cellsOf t==1
  |some (.slice e)=>P.cellsOf t==1&&decide (0<P.cellsOf e)&&okT P d e
  |some (.struct fs)=>A20 P (okT P d) fs.toList 0 (P.cellsOf t)
  |some (.array n e)=>n*P.cellsOf e==P.cellsOf t&&okT P d e
  |_=>false
inductive AR (P:Program) (G:Gf):TypeId->List Value->Prop
 |bool {t:TypeId} {b:Bool} (h:P.underlying t=some .bool):AR P G t [.bool b]
 |int {t:TypeId} {k:IntKind} {n:Int} (h:P.underlying t=some (.int k)) (hw:(Lit.int k n).wf=true):AR P G t [.int k n]
 |str {t:TypeId} {s:ByteArray} (h:P.underlying t=some .string) (hs:s.size<=maxLen/\s.size<=reachBytes):AR P G t [.string s]
 |nil {t e:TypeId} (h:P.underlying t=some (.slice e)):AR P G t [.slice none 0 0]
 |zero {t e:TypeId} {x:Addr} (h:P.underlying t=some (.slice e)) (hx:x.spot.isSome=true):AR P G t [.slice (some x) 0 0]
 |sl {t e:TypeId} {b n k:Nat} {c:List Value} {u:TypeId} (h:P.underlying t=some (.slice e)) (hk:0<k) (hn:n<=k) (hm:k<=maxLen/\k*P.bytesOf e<=reachBytes) (hb:G b=some (.cells false false (P.cellsOf e) c u)) (hc:c.length=k*P.cellsOf e)
  (hi:∀i,i<k->AR P G e ((c.drop (i*P.cellsOf e)).take (P.cellsOf e))):AR P G t [slc b 0 n k]
 |struct {t:TypeId} {fs:Array Field} {cs:List Value} (h:P.underlying t=some (.struct fs)) (hl:cs.length=P.cellsOf t)
  (hf:∀(i:Nat) (f:Field),fs[i]? =some f->AR P G f.type ((cs.drop f.offset).take (P.cellsOf f.type))):AR P G t cs
 |array {t e:TypeId} {n:Nat} {cs:List Value} (h:P.underlying t=some (.array n e)) (hl:cs.length=P.cellsOf t)
  (hi:∀i,i<n->AR P G e ((cs.drop (i*P.cellsOf e)).take (P.cellsOf e))):AR P G t cs
theorem AR.mono{P:Program}{G G':Gf}(hg:∀b o,G b=some o->G' b=some o){t:TypeId}{cs:List Value}(h:AR P G t cs):AR P G' t cs:=by
 induction h with
 |bool h=>exact .bool h
 |int h hw=>exact .int h hw
 |str h hs=>exact .str h hs
 |nil h=>exact .nil h
 |zero h hx=>exact .zero h hx
 |sl h hk hn hm hb hc _ ih=>exact .sl h hk hn hm (hg _ _ hb) hc ih
 |struct h hl _ ih=>exact .struct h hl ih
 |array h hl _ ih=>exact .array h hl ih
def Aji(H:Aaa):Prop:=∀b o,H.get b=some o->o.own=false
section
variable {H0:Type} {enc:TypeId×Value->H0} {P:Program} {w:World} {ng:Nat}
structure Ac2 (P:Program) (ng:Nat) (w:World) (σ:Sg) (H:Aaa) (σ':Sg) (H':Aaa):Prop where
 le:σ.le σ'
 keep:Aac H H'
 hr:HR ng σ' H'.get w
 no:Aji H'
theorem Ac2.refl{σ:Sg}{H:Aaa}(hr:HR ng σ H.get w)(no:Aji H):Ac2 P ng w σ H σ H:=⟨Sg.le.refl σ,Aac.refl H,hr,no⟩
theorem Ac2.trans{σ σ1 σ2:Sg}{H H1 H2:Aaa}(h:Ac2 P ng w σ H σ1 H1)(k:Ac2 P ng w σ1 H1 σ2 H2):Ac2 P ng w σ H σ2 H2:=⟨h.le.trans k.le,h.keep.trans k.keep,k.hr,k.no⟩
theorem Aac.ar{H H':Aaa}(k:Aac H H'){t:TypeId}{cs:List Value}(h:AR P H.get t cs):AR P H'.get t cs:=h.mono (fun b o hb=>k.at_ hb)
def Aqz(P:Program)(ng:Nat)(w:World)(t:TypeId)(cs:List Value):Prop:=∀σ H,HR ng σ H.get w->Aji H->∃σ' H' cs',Ac2 P ng w σ H σ' H'/\VL σ' cs' cs/\AR P H'.get t cs'/\∀v∈cs',v.oneCell'=true
theorem Akq{e:TypeId}{z:Nat}:∀(k:Nat) (css:Nat->List Value),(∀i,i<k->(css i).length=z/\Aqz P ng w e (css i))->∀σ H,HR ng σ H.get w->Aji H→
 ∃σ' H' c,Ac2 P ng w σ H σ' H'/\VL σ' c ((List.range k).flatMap css)/\c.length=k*z/\(∀v∈c,v.oneCell'=true)/\∀i,i<k->AR P H'.get e ((c.drop (i*z)).take z)
 |0,css,_,σ,H,hr,no=>⟨σ,H,[],Ac2.refl hr no,.nil,by simp,by simp,fun i hi=>by omega⟩
 |k+1,css,h,σ,H,hr,no=>by
  obtain⟨σ1,H1,c,h1,h2,h3,h4,h5⟩:=Akq k css (fun i hi=>h i (by omega)) σ H hr no
  obtain⟨hz,hop⟩:=h k (by omega)
  obtain⟨σ2,H2,cs',g1,g2,g3,g4⟩:=hop σ1 H1 h1.hr h1.no
  have hl:cs'.length=z:=by rw[g2.length,hz]
  refine⟨σ2,H2,c++cs',h1.trans g1,?_,by rw[List.length_append,h3,hl,Nat.add_mul];omega,?_,?_⟩
  ·rw[List.range_succ,List.flatMap_append]
   simpa using(h2.mono g1.le).append g2
  ·intro v hv
   rcases List.mem_append.1 hv with hv|hv
   ·exact h4 v hv
   ·exact g4 v hv
  ·intro i hi
   by_cases hik:i<k
   ·have hle:i*z+z<=c.length:=by
     rw[h3]
     have:(i+1)*z<=k*z:=Nat.mul_le_mul_right _ hik
     rw[Nat.add_mul]at this
     omega
    rw[List.drop_append_of_le_length (by omega),List.take_append_of_le_length (by rw[List.length_drop];omega)]
    exact g1.keep.ar (h5 i hik)
   ·have:i=k:=by omega
    subst this
    rw[<-h3,List.drop_left,<-hl,List.take_length]
    exact g3
theorem Air{cs:List Value}{tot:Nat}{f:TypeId->Bool}:∀(fs:List Field) (off:Nat),A20 P f fs off tot=true->off<=cs.length->cs.length=tot→
 (∀fd∈fs,f fd.type=true->Aqz P ng w fd.type ((cs.drop fd.offset).take (P.cellsOf fd.type)))->(∀fd∈fs,f fd.type=true->((cs.drop fd.offset).take (P.cellsOf fd.type)).length=P.cellsOf fd.type)->∀σ H,HR ng σ H.get w->Aji H→
 ∃σ' H' c,Ac2 P ng w σ H σ' H'/\VL σ' c (cs.drop off)/\(∀v∈c,v.oneCell'=true)/\∀fd∈fs,off<=fd.offset/\AR P H'.get fd.type ((c.drop (fd.offset-off)).take (P.cellsOf fd.type))
 |[],off,hk,hle,ht,_,_,σ,H,hr,no=>by
  simp only[A20,beq_iff_eq]at hk
  refine⟨σ,H,[],Ac2.refl hr no,?_,by simp,by simp⟩
  rw[List.drop_eq_nil_of_le (by omega)];exact .nil
 |fd::fs,off,hk,hle,ht,hop,hfit,σ,H,hr,no=>by
  simp only[A20,Bool.and_eq_true,beq_iff_eq]at hk
  obtain⟨⟨h1,h2⟩,h3⟩:=hk
  have hft0:=hfit fd (by simp) h2
  have hft:fd.offset+P.cellsOf fd.type<=cs.length:=by rw[List.length_take,List.length_drop]at hft0;omega
  obtain⟨σ1,H1,c1,g1,g2,g3,g4⟩:=hop fd (by simp) h2 σ H hr no
  obtain⟨σ2,H2,c2,k1,k2,k3,k4⟩:=Air fs (off+P.cellsOf fd.type) h3 (by omega) ht (fun x hx=>hop x (by simp[hx])) (fun x hx=>hfit x (by simp[hx])) σ1 H1 g1.hr g1.no
  have hl:c1.length=P.cellsOf fd.type:=by rw[g2.length,List.length_take,List.length_drop];omega
  refine⟨σ2,H2,c1++c2,g1.trans k1,?_,?_,?_⟩
  ·have e:cs.drop off=(cs.drop fd.offset).take (P.cellsOf fd.type)++cs.drop (off+P.cellsOf fd.type):=by
    rw[h1,<-List.drop_drop,List.take_append_drop]
   rw[e]
   exact(g2.mono k1.le).append k2
  ·intro v hv
   rcases List.mem_append.1 hv with hv|hv
   ·exact g4 v hv
   ·exact k3 v hv
  ·intro x hx
   rcases List.mem_cons.1 hx with rfl|hx
   ·refine⟨by omega,?_⟩
    rw[h1,Nat.sub_self,List.drop_zero,<-hl,List.take_left]
    exact k1.keep.ar g3
   ·obtain⟨a1,a2⟩:=k4 x hx
    refine⟨by omega,?_⟩
    rw[show x.offset-off=c1.length+(x.offset-(off+P.cellsOf fd.type)) by omega,List.drop_length_add_append]
    exact a2
theorem Akr(l:List Value)(o z:Nat):∀k,(List.range k).flatMap (fun i=>(l.drop (o+i*z)).take z)=(l.drop o).take (k*z)
 |0=>by simp
 |k+1=>by
  rw[List.range_succ,List.flatMap_append,Akr l o z k,Nat.add_mul,Nat.one_mul,List.take_add,List.drop_drop]
  simp
theorem An1{b:Nat}{a:Addr}{n:Nat}{l:List Value}(h:w.cells? b a n=some l):l.length=n/\∀i,i<n->w.cell? (a.add i)=l[i]? :=by
 unfold World.cells? at h
 split at h
 ·exact⟨by simpa using mapM_some_length h,fun i hi=>mapM_some_get h i i (by simp[hi])⟩
 ·cases h
def Rch(P:Program)(t:TypeId)(d:DataW H0):Prop:=∀m∈d.weights P t,m<=reachBytes
theorem Aq0{e:TypeId}:∀{l:List (DataW H0)},(∀m∈DataW.weightsAll P e l,m<=reachBytes)->∀d∈l,Rch P e d
 |[],_,d,hd=>by simp at hd
 |y::l,h,d,hd=>by
  simp only[DataW.weightsAll,List.mem_append]at h
  rcases List.mem_cons.1 hd with rfl|hd
  ·exact fun m hm=>h m (.inl hm)
  ·exact Aq0 (fun m hm=>h m (.inr hm)) d hd
theorem Aea{e:TypeId}{m:Nat}:∀{l:List (DataW H0×List MemPlace)} {y:DataW H0×List MemPlace},y∈l->m∈y.1.weights P e->m∈DataW.weightsAll P e (l.map (·.1))
 |[],_,hy,_=>by simp at hy
 |z::zs,y,hy,hm=>by
  simp only[List.map_cons,DataW.weightsAll,List.mem_append]
  rcases List.mem_cons.1 hy with rfl|hy
  ·exact .inl hm
  ·exact .inr (Aea hy hm)
theorem An2:∀{ts:List TypeId} {l:List (DataW H0)},(∀m∈DataW.weightsEach P ts l,m<=reachBytes)->∀(i:Nat) t d,ts[i]? =some t->l[i]? =some d->Rch P t d
 |[],_,_,i,t,d,h1,_=>by simp at h1
 |_::_,[],_,i,t,d,_,h2=>by simp at h2
 |t0::ts,y::l,h,i,t,d,h1,h2=>by
  simp only[DataW.weightsEach,List.mem_append]at h
  cases i with
  |zero=>simp only[List.getElem?_cons_zero,Option.some.injEq]at h1 h2;subst h1 h2;exact fun m hm=>h m (.inl hm)
  |succ i=>exact An2 (fun m hm=>h m (.inr hm)) i t d (by simpa using h1) (by simpa using h2)
theorem Apb:∀(fuel:Nat) (d:Nat) (t:TypeId) (cs:List Value) (x:DataW H0×List MemPlace),okT P d t=true->Rch P t x.1->DataW.trod enc P w 0 (fun _=>true) true fuel t cs=some x->cs.length=P.cellsOf t/\Aqz P ng w t cs:=by
 intro fuel
 induction fuel with
 |zero=>intro d t cs x _ _ h;simp[DataW.trod]at h
 |succ fuel ih=>
  intro d t cs x hok hx h
  cases d with
  |zero=>simp[okT]at hok
  |succ d=>
   simp only[okT]at hok
   split at hok
   ·rename_i hu
    obtain⟨b,rfl,_⟩:=DataW.trod_bool hu h
    exact⟨by simpa using(beq_iff_eq.1 hok).symm,fun σ H hr no=>⟨σ,H,[.bool b],Ac2.refl hr no,.cons (.bool b) .nil,.bool hu,by simp[Value.oneCell']⟩⟩
   ·rename_i k hu
    obtain⟨n,rfl,_,hw⟩:=DataW.trod_int hu h
    exact⟨by simpa using(beq_iff_eq.1 hok).symm,fun σ H hr no=>⟨σ,H,[.int k n],Ac2.refl hr no,.cons (.int k n) .nil,.int hu hw,by simp[Value.oneCell']⟩⟩
   ·rename_i hu
    obtain⟨s,rfl,rfl,hs⟩:=DataW.trod_string hu h
    have hs2:s.size<=reachBytes:=hx _ (by simp only[DataW.weights,List.mem_singleton,Array.length_toList];rfl)
    exact⟨by simpa using(beq_iff_eq.1 hok).symm,fun σ H hr no=>⟨σ,H,[.string s],Ac2.refl hr no,.cons (.string s) .nil,.str hu ⟨hs,hs2⟩,by simp[Value.oneCell']⟩⟩
   ·rename_i e hu
    simp only[Bool.and_eq_true,beq_iff_eq,decide_eq_true_eq]at hok
    obtain⟨⟨hc1,hz⟩,hoke⟩:=hok
    rcases DataW.trod_slice hu h with⟨rfl,_⟩|⟨a,len,cap,elems,rest,m,hfu,rfl,rfl,_,hlc,hcm,hel,helems,hrest,_⟩
    ·exact⟨by simpa using hc1.symm,fun σ H hr no=>⟨σ,H,[.slice none 0 0],Ac2.refl hr no,.cons .nilSl .nil,.nil hu,by simp[Value.oneCell']⟩⟩
    ·cases hfu
     refine⟨by simpa using hc1.symm,fun σ H hr no=>?_⟩
     by_cases hcap:cap=0
     ·subst hcap
      have:len=0:=by omega
      subst this
      exact⟨σ,H,[.slice (some ⟨0,0,some 0⟩) 0 0],Ac2.refl hr no,.cons (.slz rfl) .nil,.zero hu rfl,by simp[Value.oneCell']⟩
     ·obtain⟨hr1,hr2⟩:=hrest rfl
      have hx2:cap*P.bytesOf e<=reachBytes:=by
       refine hx _ ?_
       unfold DataW.weights
       rw[hu]
       simp only[List.length_map,hel,hr1,show len+(cap-len)=cap by omega]
       exact List.mem_cons_self
      have hx3:∀y∈elems,Rch P e y.1:=fun y hy m hm=>hx m (by
       unfold DataW.weights
       rw[hu]
       exact List.mem_cons_of_mem _ (List.mem_append.2 (.inl (Aea hy hm))))
      have hx4:∀y∈rest,Rch P e y.1:=fun y hy m hm=>hx m (by
       unfold DataW.weights
       rw[hu]
       exact List.mem_cons_of_mem _ (List.mem_append.2 (.inr (Aea hy hm))))
      have elem:∀i,i<cap->∃l,w.cells? 0 (a.add (i*P.cellsOf e)) (P.cellsOf e)=some l/\∃y,Rch P e y.1/\DataW.trod enc P w 0 (fun _=>true) true fuel e l=some y:=by
       intro i hi
       by_cases hil:i<len
       ·have:=helems i hil
        rw[List.getElem?_eq_getElem (by omega)]at this
        simp only[Option.bind_eq_some_iff]at this
        obtain⟨l,h1,h2⟩:=this
        exact⟨l,h1,_,hx3 _ (List.getElem_mem _),h2⟩
       ·have:=hr2 (i-len) (by omega)
        rw[List.getElem?_eq_getElem (by omega),show len+(i-len)=i by omega]at this
        simp only[Option.bind_eq_some_iff]at this
        obtain⟨l,h1,h2⟩:=this
        exact⟨l,h1,_,hx4 _ (List.getElem_mem _),h2⟩
      -- the block
      obtain⟨l0,hl0,_⟩:=elem 0 (by omega)
      obtain⟨hl0n,hl0c⟩:=An1 hl0
      have hc0:=hl0c 0 hz
      rw[Nat.zero_mul,show a.add 0=a by simp[Addr.add],show a.add 0=a by simp[Addr.add],List.getElem?_eq_getElem (by omega)]at hc0
      obtain⟨cc,ty,fr,hblk,hspot,hc0'⟩:∃cc ty fr,w.heap[a.block]? =some (.cells cc ty fr)/\a.spot=none/\cc[a.off]? =some (l0[0]'(by omega)):=by
       unfold World.cell? at hc0
       split at hc0
       ·rename_i cc ty fr hb
        split at hc0
        ·cases hc0
        ·rename_i hs
         exact⟨cc,ty,fr,hb,by simpa using hs,hc0⟩
       ·cases hc0
      obtain⟨ab,ao,asp⟩:=a
      simp only at hspot hblk hc0'
      subst hspot
      have cell:∀j,w.cell? ⟨ab,j,none⟩=cc[j]? :=fun j=>by simp[World.cell?,hblk]
      have elem2:∀i,i<cap->((cc.toList.drop (ao+i*P.cellsOf e)).take (P.cellsOf e)).length=P.cellsOf e/\Aqz P ng w e ((cc.toList.drop (ao+i*P.cellsOf e)).take (P.cellsOf e)):=by
       intro i hi
       obtain⟨l,h1,y,hyr,h2⟩:=elem i hi
       obtain⟨hln,hlc⟩:=An1 h1
       have hl:l=(cc.toList.drop (ao+i*P.cellsOf e)).take (P.cellsOf e):=by
        apply List.ext_getElem?
        intro j
        by_cases hj:j<P.cellsOf e
        ·rw[<-hlc j hj,List.getElem?_take_of_lt hj,List.getElem?_drop,Acb,Acb,cell]
         simp
        ·rw[List.getElem?_eq_none (by omega),List.getElem?_eq_none (by rw[List.length_take];omega)]
       rw[<-hl]
       have:=ih d e l y hoke hyr h2
       exact⟨hln,this.2⟩
      obtain⟨σ1,H1,c,g1,g2,g3,g4,g5⟩:=Akq cap (fun i=>(cc.toList.drop (ao+i*P.cellsOf e)).take (P.cellsOf e)) elem2 σ H hr no
      rw[Akr]at g2
      have hsz:ao+cap*P.cellsOf e<=cc.size/\0<cap*P.cellsOf e:=by
       have h1:=g2.length
       have h2:0<cap*P.cellsOf e:=Nat.mul_pos (by omega) hz
       rw[g3,List.length_take,List.length_drop,Array.length_toList]at h1
       omega
      have hnone:=g1.hr.none_of_ge (Nat.le_refl H1.n)
      have hlt:ab<w.heap.size:=by
       by_cases hh:ab<w.heap.size
       ·exact hh
       ·rw[Array.getElem?_eq_none (by omega)]at hblk;cases hblk
      let bi:BI:=⟨ab,ao,cap*P.cellsOf e,cc.size-ao,P.cellsOf e,false⟩
      let o2:AO:=.cells false false (P.cellsOf e) c ty
      have hor:OR σ1 w bi o2:=⟨g3.symm,rfl,rfl,by show c.length<=cc.size-ao;omega,g4,cc,fr,hblk,by show cc.size=ao+(cc.size-ao);omega,by rw[g3];exact g2,by simp⟩
      have hadd:=HR.add (o2:=o2) (G':=(H1.alloc o2).get) g1.hr hnone (fun x hx=>Aaa.get_alloc_ne H1 o2 hx) (Aaa.Bfd H1 o2) hlt hor (fun x j ox _ hox hh=>by
       have:=g1.no x ox hox
       rcases hh with⟨_,h2⟩|⟨h2,_⟩
       ·cases h2
       ·rw[this]at h2;cases h2)
      have hk:Aac H1 (H1.alloc o2):=(Aac.refl H1).alloc o2
      refine⟨σ1.up H1.n bi,H1.alloc o2,[slc H1.n 0 len cap],g1.trans ⟨Sg.le_up _ hnone,hk,hadd,fun b o hb=>?_⟩,.cons ?_ .nil,?_,by simp[slc,Value.oneCell']⟩
      ·rw[Alo]at hb
       split at hb
       ·cases hb;rfl
       ·exact g1.no b o hb
      ·exact VR.sl (i:=bi) (o:=0) (Sg.Bfj _ _ _) hlc (.inl rfl)
      ·exact .sl hu (by omega) hlc ⟨hcm,hx2⟩ (Aaa.Bfd H1 o2) g3 (fun i hi=>hk.ar (g5 i hi))
   ·rename_i fs hu
    obtain⟨xs,m,hfu,rfl,hl,hxl,hxs⟩:=DataW.trod_struct hu h
    cases hfu
    have hx2:=An2 (P:=P) (ts:=fs.toList.map (·.type)) (l:=xs.map (·.1)) (fun m hm=>hx m (by unfold DataW.weights;rw[hu];exact hm))
    refine⟨hl,fun σ H hr no=>?_⟩
    have each:∀fd∈fs.toList,okT P d fd.type=true->((cs.drop fd.offset).take (P.cellsOf fd.type)).length=P.cellsOf fd.type/\Aqz P ng w fd.type ((cs.drop fd.offset).take (P.cellsOf fd.type)):=by
     intro fd hfd hokf
     obtain⟨i,hi,hfi⟩:=List.mem_iff_getElem.1 hfd
     have hi':i<fs.size:=by simpa using hi
     have h1:fs[i]? =some fd:=by
      rw[Array.getElem?_eq_getElem hi']
      rw[<-hfi];simp
     have h2:=hxs i fd h1
     rw[List.getElem?_eq_getElem (by omega)]at h2
     exact ih d fd.type _ _ hokf (hx2 i fd.type _ (by simpa using⟨fd,h1,rfl⟩) (by simp[List.getElem?_eq_getElem (show i<xs.length by omega)])) h2
    obtain⟨σ',H',c,g1,g2,g3,g4⟩:=Air fs.toList 0 hok (Nat.zero_le _) hl (fun fd hfd hf=>(each fd hfd hf).2) (fun fd hfd hf=>(each fd hfd hf).1) σ H hr no
    rw[List.drop_zero]at g2
    refine⟨σ',H',c,g1,g2,.struct hu (by rw[g2.length,hl]) (fun i f hf=>?_),g3⟩
    have:=(g4 f (by
     have:fs.toList[i]? =some f:=by simpa using hf
     exact List.mem_of_getElem? this)).2
    simpa using this
   ·rename_i n e hu
    simp only[Bool.and_eq_true,beq_iff_eq]at hok
    obtain⟨hn,hoke⟩:=hok
    obtain⟨xs,m,hfu,rfl,hl,hxl,hxs⟩:=DataW.trod_array hu h
    cases hfu
    have hx2:=Aq0 (P:=P) (e:=e) (l:=xs.map (·.1)) (fun m hm=>hx m (by unfold DataW.weights;rw[hu];exact hm))
    refine⟨hl,fun σ H hr no=>?_⟩
    obtain⟨σ',H',c,g1,g2,g3,g4,g5⟩:=Akq (P:=P) (ng:=ng) (w:=w) (e:=e) (z:=P.cellsOf e) n (fun i=>(cs.drop (0+i*P.cellsOf e)).take (P.cellsOf e)) (fun i hi=>by
     have h2:=hxs i hi
     rw[List.getElem?_eq_getElem (by omega)]at h2
     rw[Nat.zero_add]
     exact ih d e _ _ hoke (hx2 _ (List.mem_map_of_mem (List.getElem_mem _))) h2) σ H hr no
    rw[Akr,List.drop_zero,hn,<-hl,List.take_length]at g2
    exact⟨σ',H',c,g1,g2,.array hu (by rw[g3,hn]) g5,g4⟩
   ·cases hok
end
open Go.RowKit Go.WideShapes Go.ChangeShapes
section
variable {H0:Type} {enc:TypeId×Value->H0} {P:Program} {w:World} {ng:Nat}
def AV(P:Program)(G:Gf)(t:TypeId)(v:Value):Prop:=AR P G t v.cells.toList/\(Abg P t=some true->∃cs,v=.agg cs)/\(Abg P t=some false->v.oneCell'=true)
def AVs(P:Program)(G:Gf):List TypeId->List Value->Prop
 |[],[]=>True
 |t::ts,v::vs=>AV P G t v/\AVs P G ts vs
 |_,_=>False
theorem AV.mono{G G':Gf}(hg:∀b o,G b=some o->G' b=some o){t:TypeId}{v:Value}(h:AV P G t v):AV P G' t v:=⟨h.1.mono hg,h.2⟩
theorem Alm{t:TypeId}{v:Value}{d:Nat}(hok:okT P d t=true)(hv:Value.okWide P w .any 0 t v):(∃cs,v=.agg cs/\Abg P t=some true)\/(v.cells= #[v]/\Abg P t=some false/\v.oneCell'=true):=by
 cases d with
 |zero=>simp[okT]at hok
 |succ d=>
  simp only[okT]at hok
  split at hok
  ·rename_i hu
   obtain⟨b,rfl⟩:=okWide_bool hu hv
   exact .inr ⟨rfl,by unfold Abg;rw[hu];rfl,rfl⟩
  ·rename_i hu
   obtain⟨b,rfl⟩:=okWide_int hu hv
   exact .inr ⟨rfl,by unfold Abg;rw[hu];rfl,rfl⟩
  ·rename_i hu
   obtain⟨b,rfl⟩:=okWide_string hu hv
   exact .inr ⟨rfl,by unfold Abg;rw[hu];rfl,rfl⟩
  ·rename_i hu
   obtain⟨a,n,k,rfl⟩:=okWide_slice hu hv
   exact .inr ⟨rfl,by unfold Abg;rw[hu];rfl,rfl⟩
  ·rename_i hu
   obtain⟨cs,rfl,_⟩:=okWide_struct hu hv
   exact .inl ⟨cs,rfl,by unfold Abg;rw[hu];rfl⟩
  ·rename_i n e hu
   unfold Value.okWide at hv
   rw[hu]at hv
   obtain⟨cs,rfl,_⟩:=hv
   exact .inl ⟨cs,rfl,by unfold Abg;rw[hu];rfl⟩
  ·cases hok
theorem Auq{t:TypeId}{v:Value}{d:DataW H0}{ps:List MemPlace}(hok:okT P 20 t=true)(hv:Value.okWide P w .any 0 t v)(hx:Rch P t d)(h:DataW.Trod enc P w 0 (fun _=>true) true t v d ps){σ:Sg}{H:Aaa}(hr:HR ng σ H.get w)(no:Aji H):
 ∃σ' H' v',Ac2 P ng w σ H σ' H'/\VR σ' v' v/\AV P H'.get t v':=by
 obtain⟨fuel,hf⟩:=h
 obtain⟨hl,hop⟩:=Apb (ng:=ng) fuel 20 t _ _ hok hx hf
 obtain⟨σ',H',cs',g1,g2,g3,g4⟩:=hop σ H hr no
 rcases Alm hok hv with⟨cs,rfl,hag⟩|⟨hc,hag,hone⟩
 ·refine⟨σ',H',.agg cs'.toArray,g1,?_,g3,fun _=>⟨_,rfl⟩,(fun h=>by rw[hag]at h;cases h)⟩
  have:=VR.agg_of g2
  simpa[Value.cells]using this
 ·rw[hc]at g2
  match cs',g2 with
  |[u],.cons hu .nil=>
   have h1:=g4 u (by simp)
   refine⟨σ',H',u,g1,hu,?_,(fun h=>by rw[hag]at h;cases h),fun _=>h1⟩
   rw[Aid h1];exact g3
theorem Aln:∀{ts:List TypeId} {vs:List Value} {ds:List (DataW H0)} {ps:List MemPlace},(∀t∈ts,okT P 20 t=true)->(∀(j:Nat) t v,ts[j]? =some t->vs[j]? =some v->Value.okWide P w .any 0 t v)->(∀m∈DataW.weightsEach P ts ds,m<=reachBytes)->DataW.TrodAll enc P w 0 (fun _=>true) true ts vs ds ps→
 ∀{σ:Sg} {H:Aaa},HR ng σ H.get w->Aji H->∃σ' H' vs',Ac2 P ng w σ H σ' H'/\VL σ' vs' vs/\AVs P H'.get ts vs'
 |[],vs,ds,ps,_,_,_,h,σ,H,hr,no=>by
  obtain⟨rfl,_,_⟩:=trodAll_nil h
  exact⟨σ,H,[],Ac2.refl hr no,.nil,trivial⟩
 |t::ts,vs,ds,ps,hok,hv,hx,h,σ,H,hr,no=>by
  obtain⟨v,vs',d,ds',p,q,rfl,rfl,rfl,h1,h2⟩:=trodAll_cons h
  obtain⟨σ1,H1,u,g1,g2,g3⟩:=Auq (ng:=ng) (hok t (by simp)) (hv 0 t v rfl rfl) (fun m hm=>hx m (List.mem_append.2 (.inl hm))) h1 hr no
  obtain⟨σ2,H2,us,k1,k2,k3⟩:=Aln (fun t ht=>hok t (by simp[ht])) (fun j t v a b=>hv (j+1) t v (by simpa using a) (by simpa using b)) (fun m hm=>hx m (List.mem_append.2 (.inr hm))) h2 g1.hr g1.no
  exact⟨σ2,H2,u::us,g1.trans k1,.cons (g2.mono k1.le) k2,g3.mono (fun b o hb=>k1.keep.at_ hb),k3⟩
def An3(n:Nat):Aaa:=⟨n,List.replicate n .dead⟩
theorem Ahb{n b:Nat}(h:b<n):(An3 n).get b=some .dead:=by
 unfold An3 Aaa.get
 simp only[h,if_true]
 rw[List.getElem?_replicate,if_pos (by omega)]
theorem HR.globs(n:Nat)(w:World)(h:n<=w.heap.size):HR n (fun b=>if b<n then some ⟨b,0,0,0,0,false⟩else none) (An3 n).get w:=by
 refine⟨fun b i hb=>?_,fun b1 b2 i1 i2 o1 o2 _ h1 _ g1 _ hw=>?_,fun b i hb=>?_,fun g hg=>⟨⟨g,0,0,0,0,false⟩,by simp[hg],rfl,rfl⟩⟩
 ·by_cases hn:b<n
  ·exact⟨.dead,Ahb hn,trivial⟩
  ·simp[hn]at hb
 ·by_cases hn:b1<n
  ·rw[Ahb hn]at g1;cases g1;cases hw
  ·simp[hn]at h1
 ·by_cases hn:b<n
  ·simp only[hn,if_true,Option.some.injEq]at hb;subst hb;exact Nat.lt_of_lt_of_le hn h
  ·simp[hn]at hb
theorem Aq1(n:Nat):Aji (An3 n):=fun b o h=>by
 have hb:b<n:=Aaa.Bfg h
 rw[Ahb hb]at h
 cases h;rfl
theorem law_calls{ng:Nat}{f:FuncId}{ts:List TypeId}(hts:∀t∈ts,okT P 20 t=true)(hlaw:∀H args,Aji H->AVs P H.get ts args->∃H',Aaq P ng f args H (.bool true) H'){args:Array Value}{ds:List (DataW H0)}{ps:List MemPlace}
 (hA:DataW.TrodAll enc P w 0 (fun _=>true) true ts args.toList ds ps) (hws:(DataW.weightsEach P ts ds).all (· <=reachBytes)=true) (hval:∀(j:Nat) t v,ts[j]? =some t->args[j]? =some v->Value.okWide P w .any 0 t v)
 (hng:ng<=w.heap.size:=by exact Nat.zero_le _) (hb:Amm P f=true:=by kernel_rfl):
 Calls P f args w fun e w'=>e=.returned (.bool true)/\Below w.heap.size w w':=by
 obtain⟨σ,H,args',g1,g2,g3⟩:=Aln (ng:=ng) hts (fun j t v a b=>hval j t v a (by simpa using b)) (fun m hm=>by simpa using List.all_eq_true.1 hws m hm) hA (HR.globs ng w hng) (Aq1 ng)
 obtain⟨H',_,_,hrun⟩:=hlaw H args' g1.no g3
 refine((hrun σ w args.toList g1.hr g2).calls (Aff hb)).mono ?_
 rintro e w' ⟨v',σ',rfl,k1,k2,k3⟩
 rw[k3.bool_inv]
 refine⟨rfl,k2.os,k2.tape,k2.output,k2.size,fun k hk=>k2.keep k hk (fun b i o hb ho hown=>?_)⟩
 rw[g1.no b o ho]at hown;cases hown
theorem trodAll_stays(hl:laidOutB P=true){W W':World}(hb:Below W.heap.size W W'){sp:Nat->Bool}:∀{ts:List TypeId} {vs:List Value} {ds:List (DataW H0)} {ps:List MemPlace},(∀t∈ts,P.readableRec t=true/\t<P.types.size)→
 DataW.TrodAll enc P W 0 (fun _=>true) true ts vs ds ps->(∀x∈ps,x.block<W.heap.size)->(∀p∈ps,sp p.block=true)->DataW.TrodAll enc P W' 0 sp true ts vs ds ps
 |[],vs,ds,ps,_,h,_,_=>by obtain⟨rfl,rfl,rfl⟩:=trodAll_nil h;rfl
 |t::ts,vs,ds,ps,hr,h,hlt,hsp=>by
  obtain⟨v,vs',d,ds',p,q,rfl,rfl,rfl,h1,h2⟩:=trodAll_cons h
  obtain⟨r1,r2⟩:=hr t (by simp)
  exact⟨p,q,WideElems.Trod_stays hl r1 r2 h1 (fun x hx=>hb.same (hlt x (by simp[hx]))) (fun x hx=>hsp x (by simp[hx])),
   trodAll_stays hl hb (fun t ht=>hr t (by simp[ht])) h2 (fun x hx=>hlt x (by simp[hx])) (fun x hx=>hsp x (by simp[hx])),rfl⟩
theorem post_of_below{H:Type}{enc:TypeId×Value->H}{f:Func}{s:ChangeSpec}{apart fresh handsOn again:Bool}{W W':World}{args:Array Value}{v:Value}{ds gs:List (DataW H)}{before pa pv:List MemPlace}
 (hW:DataW.Whole enc P f.params.toList s.vars apart W args.toList ds gs before)
 (hres:∀(b:Nat) (sp:Nat->Bool) (hd:Bool),DataW.TrodAll enc P W' b sp hd f.resultTypes.toList (v.resultList f.resultTypes.size) (s.fn H (ds++gs)).results [])
 (hargs:∀sp:Nat->Bool,(∀p∈before,sp p.block=true)->DataW.TrodAll enc P W' 0 sp true f.params.toList args.toList (s.fn H (ds++gs)).args pa)
 (hvars:∀sp:Nat->Bool,(∀p∈before,sp p.block=true)->DataW.TrodVars enc P W' sp s.vars (s.fn H (ds++gs)).vars pv)
 (hps:before=pa++pv) (hb:Below W.heap.size W W')
 (hok:∀(j:Nat) (t:TypeId) (r:Value),f.resultTypes[j]? =some t->(v.resultList f.resultTypes.size)[j]? =some r->Value.okWide P W' .any 0 t r):
 s.post enc P f apart fresh handsOn again W args v W':=by
 have hlt:∀p∈before,p.block<W.heap.size:=fun p hp=>hW.lt p hp
 have hold:∀p∈before,(fun b=>decide (b<W.heap.size)) p.block=true:=fun p hp=>by simpa using hlt p hp
 refine⟨ds,gs,before,[],pa,pv,hW,hres _ _ _,hargs _ hold,hvars _ hold,World.keptBut_mono (fun p hp=>⟨hp,?_⟩) (hb.frame (· ∈before)),fun _=>?_⟩
 ·rw[hps,List.mem_append]at hp
  exact Or.inr hp
 ·obtain⟨_,_,_,_,_,hz,hn⟩:=hW
  refine⟨hok,_,_,([]++pa)++pv,⟨[]++pa,pv,trodAll_append (hargs _ (fun _ _=>rfl)) (hres _ _ _),hvars _ (fun _ _=>rfl),rfl,?_,?_⟩,?_⟩
  ·intro b off hp
   have hin:MemPlace.cell b off∈before:=by rw[hps];simpa using hp
   rw[hb.frozen (hlt _ hin)]
   exact hz b off hin
  ·intro ha
   have:=hn ha
   rw[hps]at this
   simpa using this
  ·intro p hp _
   rw[hps]
   simpa using hp
end
section
variable {P:Program} {ng:Nat} {H:Aaa} {Q:AQ} {fr tm:List Value}
theorem Aal{c:Ab8}(I:Nat->List Value->Aaa->Prop)(n:Nat)(h0:I n fr H)
 (hs:∀(Q':AQ) (k:Nat) (fr:List Value) (H:Aaa),I k fr H->(∀k' fr H,I k' fr H->k'<k->Q' .normal fr H)->(∀i fr H,Q (.exit i) fr H->Q' (.exit i) fr H)->(∀fr H,Q .ret fr H->Q' .ret fr H)->W P ng c Q' fr H):W P ng (.loop c) Q fr H:=
 ⟨I,n,h0,fun k fr H hI=>hs _ k fr H hI (fun k' fr H h1 h2=>⟨k',h2,h1⟩) (fun _ _ _ h=>h) (fun _ _ h=>h)⟩
theorem Arq(H:Aaa)(o o':AO):(H.alloc o).set H.n o'=H.alloc o':=by
 simp[Aaa.alloc,Aaa.set]
theorem An7(p q:List UInt8):decide ((⟨p.toArray⟩:ByteArray)=⟨q.toArray⟩)=decide (p=q):=by
 rw[Azi,Aq2]
end
set_option linter.defProp false in
def ANs:=(And.intro (And.intro (And.intro (And.intro (And.intro (And.intro (And.intro @A21 @A8g) (And.intro @A23 (And.intro @A3h @Ara))) (And.intro (And.intro @Ape (And.intro @A24 @A8h)) (And.intro @A22 (And.intro @A8u @A3e)))) (And.intro (And.intro (And.intro @Azn (And.intro @Azo @Auv)) (And.intro @Aq6 (And.intro @Azp @Ac4))) (And.intro (And.intro @A80 (And.intro @A3g @Azr)) (And.intro @Auw (And.intro @Aq7 @Aux))))) (And.intro (And.intro (And.intro (And.intro @Aq8 @Auy) (And.intro @A3i (And.intro @Azs @A3j))) (And.intro (And.intro @A3l (And.intro @Auz @Arb)) (And.intro @Au1 (And.intro @Au3 @Ard)))) (And.intro (And.intro (And.intro @Arf (And.intro @Au5 @A3n)) (And.intro @A3p (And.intro @A81 @A3r))) (And.intro (And.intro @A3u (And.intro @A3w @A3y)) (And.intro @Au7 (And.intro @Azu @Azw)))))) (And.intro (And.intro (And.intro (And.intro (And.intro @Au9 @Azy) (And.intro @Avb (And.intro @Az0 @Az2))) (And.intro (And.intro @Avd (And.intro @Az4 @Arh)) (And.intro @Apf (And.intro @A30 @Az6)))) (And.intro (And.intro (And.intro @Azt (And.intro @A3k @A3m)) (And.intro @Au0 (And.intro @Arc @Au2))) (And.intro (And.intro @Au4 (And.intro @Are @Arg)) (And.intro @Au6 (And.intro @A3o @A3q))))) (And.intro (And.intro (And.intro (And.intro @A82 @A3t) (And.intro @A3v (And.intro @A3x @A3z))) (And.intro (And.intro @Au8 (And.intro @Azv @Azx)) (And.intro @Ava (And.intro @Azz @Avc)))) (And.intro (And.intro (And.intro @Az1 (And.intro @Az3 @Ave)) (And.intro @Az5 (And.intro @Ari @Apg))) (And.intro (And.intro @A31 (And.intro @Az7 @A32)) (And.intro @A83 (And.intro @A34 @A84))))))) (And.intro (And.intro (And.intro (And.intro (And.intro (And.intro @A85 @Az8) (And.intro @Arj (And.intro @Ark @Az9))) (And.intro (And.intro @A86 (And.intro @A0a @A87)) (And.intro @A88 (And.intro @A0b @A89)))) (And.intro (And.intro (And.intro @A9a (And.intro @A0c @A35)) (And.intro @Arl (And.intro @A36 @Arm))) (And.intro (And.intro @Avf (And.intro @Arn @A9b)) (And.intro @A37 (And.intro @Ajw @A8b))))) (And.intro (And.intro (And.intro (And.intro @A8c @AX_c) (And.intro @A8d (And.intro @AX_g @D_no))) (And.intro (And.intro @A78 (And.intro @D_tm @A79)) (And.intro @D_fr (And.intro @A8a @Aq3)))) (And.intro (And.intro (And.intro @A3f (And.intro @A8v @A8w)) (And.intro @A8x (And.intro @A8y @pk_t))) (And.intro (And.intro @pk_f (And.intro @A8p @A8q)) (And.intro @A8r (And.intro @A8s @e_sn)))))) (And.intro (And.intro (And.intro (And.intro (And.intro @e_ss @e_pn) (And.intro @e_ps (And.intro @e_bb @Akt))) (And.intro (And.intro @A8t (And.intro @A25 @A26)) (And.intro @A8i (And.intro @Apc @Azj)))) (And.intro (And.intro (And.intro @A8j (And.intro @A8k @A8l)) (And.intro @A8m (And.intro @Aq4 @A8n))) (And.intro (And.intro @Apd (And.intro @A29 @A3a)) (And.intro @A3b (And.intro @at_n @at_e))))) (And.intro (And.intro (And.intro (And.intro @at_r (And.intro @ib_n @ib_r)) (And.intro @ib_e (And.intro @ib_x @Aav))) (And.intro (And.intro @Aku (And.intro @Abc @Aww)) (And.intro @Aro (And.intro @Arp @Awx)))) (And.intro (And.intro (And.intro @Awy (And.intro @Amx @Abl)) (And.intro @A9c (And.intro @A38 @A9d))) (And.intro (And.intro @o_sl (And.intro @A9e @A9f)) (And.intro @o_pn (And.intro @o_if @A39))))))))
set_option linter.defProp false in
def ANc:=(And.intro (And.intro (And.intro (And.intro (And.intro @List.getD_cons_zero.{0} @List.getD_cons_succ.{0}) (And.intro @List.set_cons_zero.{0} @List.set_cons_succ.{0})) (And.intro (And.intro @List.map_cons.{0,0} @List.map_nil.{0,0}) (And.intro @Option.map_some.{0,0} (And.intro @Option.map_none.{0,0} @beq_self_eq_true.{0})))) (And.intro (And.intro (And.intro @if_true.{1} @if_true.{0}) (And.intro @Bool.false_eq_true @if_false.{1})) (And.intro (And.intro @if_false.{0} @Bool.not_true) (And.intro @Bool.not_false (And.intro @Nat.add_zero @Nat.zero_add))))) (And.intro (And.intro (And.intro (And.intro @Nat.mul_one @Int.toNat_natCast) (And.intro @List.getElem?_cons_zero.{0} @List.getElem?_cons_succ.{0})) (And.intro (And.intro @true_and @and_true) (And.intro @false_and (And.intro @Exit.exit.injEq @Bool.true_beq)))) (And.intro (And.intro (And.intro @Bool.false_beq @beq_true) (And.intro @beq_false (And.intro @List.length_cons.{0} @List.length_nil.{0}))) (And.intro (And.intro @List.all_cons.{0} @List.all_nil.{0}) (And.intro @Bool.and_true (And.intro @Bool.true_and @and_self))))))
section
variable {P:Program} {ng:Nat} {H H':Aaa} {Q:AQ} {fr tm:List Value}
def A0d(g:Option AO)(o:Nat):Option Value:=match g with
 |some (.cells _ _ _ c _)=>c[o]?
 |_=>none
def Ac5(g:Option AO)(o n:Nat):Option (List Value):=match g with
 |some (.cells _ _ _ c _)=>if o+n<=c.length then some ((c.drop o).take n)else none
 |_=>none
theorem A0e(H:Aaa)(b o:Nat):Ag2 H b o=A0d (H.get b) o:=by unfold Ag2 A0d;rfl
theorem Abe(H:Aaa)(b o n:Nat):Adf H b o n=Ac5 (H.get b) o n:=by unfold Adf Ac5;rfl
theorem A0f(own room:Bool)(esz e:Nat)(c:List Value)(o:Nat):A0d (some (.cells own room esz c e)) o=c[o]? :=_root_.id rfl
theorem Agl(own room:Bool)(esz e:Nat)(c:List Value)(o n:Nat):Ac5 (some (.cells own room esz c e)) o n=if o+n<=c.length then some ((c.drop o).take n)else none:=_root_.id rfl
def A7p(H:Aaa)(b o:Nat)(x:Value)(g:Option AO):Option (Value×Aaa):=match g with
 |some (.cells true room esz c e)=>if o<c.length/\x.oneCell'=true then some (undef,H.set b (.cells true room esz (c.set o x) e))else none
 |_=>none
def Avg(H:Aaa)(b o n:Nat)(x:List Value)(g:Option AO):Option (Value×Aaa):=match g with
 |some (.cells true room esz c e)=>if o+n<=c.length/\x.length=n/\x.all Value.oneCell'=true then some (undef,H.set b (.cells true room esz (c.take o++x++c.drop (o+n)) e))else none
 |_=>none
theorem Arr(H:Aaa)(b o:Nat)(x:Value):Aak (.store1 (ptr b o) x) H=A7p H b o x (H.get b):=by
 unfold A7p
 rfl
theorem Ars(H:Aaa)(b o n:Nat)(x:Value):Aak (.storen n (ptr b o) x) H=Avg H b o n x.cells.toList (H.get b):=by
 unfold Avg
 rfl
theorem A4a(b o:Nat)(x:Value)(room:Bool)(esz e:Nat)(c:List Value):A7p H b o x (some (.cells true room esz c e))=if o<c.length/\x.oneCell'=true then some (undef,H.set b (.cells true room esz (c.set o x) e))else none:=by
 unfold A7p;rfl
theorem Awz(b o n:Nat)(x:List Value)(room:Bool)(esz e:Nat)(c:List Value):Avg H b o n x (some (.cells true room esz c e))=if o+n<=c.length/\x.length=n/\x.all Value.oneCell'=true then some (undef,H.set b (.cells true room esz (c.take o++x++c.drop (o+n)) e))else none:=by
 unfold Avg;rfl
theorem Aa9{own room:Bool}{esz e n:Nat}{c:List Value}(h:c.length=n):Ac5 (some (.cells own room esz c e)) 0 n=some c:=by
 rw[Agl,if_pos (by omega),List.drop_zero,List.take_of_length_le (by omega)]
theorem Avh{own room:Bool}{esz e o n:Nat}{c:List Value}(h:c.length≠n):Ac5 (some (.cells own room esz c e)) o n=if o+n<=c.length then some ((c.drop o).take n)else none:=Agl ..
theorem Agm{b n:Nat}{x:List Value}{room:Bool}{esz e:Nat}{c:List Value}(h:c.length=n):Avg H b 0 n x (some (.cells true room esz c e))=if x.length=n/\x.all Value.oneCell'=true then some (undef,H.set b (.cells true room esz x e))else none:=by
 rw[Awz]
 by_cases hx:x.length=n/\x.all Value.oneCell'=true
 ·rw[if_pos ⟨by omega,hx⟩,if_pos hx,List.take_zero,List.nil_append,List.drop_of_length_le (by omega),List.append_nil]
 ·rw[if_neg (fun h=>hx h.2),if_neg hx]
theorem Avi{b o n:Nat}{x:List Value}{room:Bool}{esz e:Nat}{c:List Value}(h:c.length≠n):Avg H b o n x (some (.cells true room esz c e))=if o+n<=c.length/\x.length=n/\x.all Value.oneCell'=true then some (undef,H.set b (.cells true room esz (c.take o++x++c.drop (o+n)) e))else none:=Awz ..
theorem Art(l:List Value):(Value.agg l.toArray).cells.toList=l:=by simp[Value.cells]
theorem Acw(l:List Value):l.toArray.toList=l:=by simp
theorem Avj(l:List Value):l.toArray.size=l.length:=by simp
theorem A9g{b:Nat}(o:AO)(h:b=H.n):(H.alloc o).get b=some o:=by subst h;exact Aaa.Bfd H o
theorem Aru{b:Nat}(o:AO)(h:b<H.n):(H.alloc o).get b=H.get b:=Aaa.Bfi H o h
theorem A9h(b:Nat)(o:AO):(H.set b o).get b=(H.get b).map fun _=>o:=by
 by_cases hb:b<H.n
 ·by_cases h:H.n-1-b<H.l.length
  ·simp[Aaa.get,Aaa.set,hb,h]
  ·simp only[Aaa.get,Aaa.set,hb,if_true,List.getElem?_eq_none (Nat.le_of_not_lt h),Option.map_none]
   exact List.getElem?_eq_none (by simpa using Nat.le_of_not_lt h)
 ·simp[Aaa.get,Aaa.set,hb]
theorem Aw0{b b':Nat}(o:AO)(h:b'≠b)(h2:b<H.n):(H.set b o).get b'=H.get b':=Aaa.Bff H h h2 o
theorem A0g{b:Nat}(o o':AO)(h:b=H.n):(H.alloc o).set b o'=H.alloc o':=by subst h;exact Arq H o o'
theorem A0h{b:Nat}(o o':AO)(h:b<H.n):(H.alloc o).set b o'=(H.set b o').alloc o:=by
 simp only[Aaa.alloc,Aaa.set,show H.n+1-1-b=(H.n-1-b)+1 by omega,List.set_cons_succ]
theorem Arv(b:Nat)(o o':AO):(H.set b o).set b o'=H.set b o':=by simp[Aaa.set]
theorem A4b{a b:Nat}(h:a<b):(a<b)=True:=by simp[h]
theorem A4c{a b:Nat}(h:a<=b):(a<=b)=True:=by simp[h]
theorem A0i{a b:Nat}(h:a=b):(a=b)=True:=by simp[h]
theorem A0j{a b:Int}(h:a<b):(a<b)=True:=by simp[h]
theorem A0k{a b:Int}(h:a<=b):(a<=b)=True:=by simp[h]
theorem A4d{a b:Int}(h:¬a<b):(a<b)=False:=by simp[h]
theorem A4e{a b:Int}(h:¬a<=b):(a<=b)=False:=by simp[h]
theorem Arw{a b:Int}(h:¬a=b):(a==b)=false:=by simp[h]
theorem An8{a b:Int}(h:a=b):(a==b)=true:=by simp[h]
theorem A0l{a b:Int}(h:a=b):(a != b)=false:=by simp[h]
theorem Avk{a b:Int}(h:¬a=b):(a != b)=true:=by simp[h]
theorem bi_u(b:Bool):Aen undef b=false:=by cases b<;>rfl
theorem Avl(b:Bool):Aen (.bool b) true=b:=by cases b<;>rfl
theorem Avm(b:Bool):Aen (.bool b) false= !b:=by cases b<;>rfl
theorem Aae{f:FuncId}{xs:List Value}{R K:Value->Aaa->Prop}(h:∃v H',Aaq P ng f xs H v H'/\R v H')(k:∀v H',R v H'->K v H'):∃v H',Aaq P ng f xs H v H'/\K v H':=by
 obtain⟨v,H',h1,h2⟩:=h;exact⟨v,H',h1,k v H' h2⟩
theorem Aat{f:FuncId}{xs:List Value}{K:Value->Aaa->Prop}{x:Value}{H2:Aaa}(h:∃v H',Aaq P ng f xs H v H'/\v=x/\H'=H2)(k:K x H2):∃v H',Aaq P ng f xs H v H'/\K v H':=by
 obtain⟨v,H',h1,rfl,rfl⟩:=h;exact⟨_,_,h1,k⟩
theorem Chg1.get{r:Nat}(c:Chg [r] H H'){b:Nat}(h1:b<H.n)(h2:b≠r):H'.get b=H.get b:=c.get b h1 (by simpa using h2)
def bn(v:Value):Nat:=match blk v with
 |some b=>b+1
 |none=>0
def elP(v:Value)(esz j off:Nat):Value:=match v with
 | .slice (some ⟨b,o,none⟩) _ _=>ptr b (o+j*esz+off)
 |_=>undef
def nnS(v:Value):Bool:=match v with
 | .slice (some ⟨_,_,none⟩) _ _=>true
 |_=>false
def Ab9(v:Value):Nat:=match v with
 | .slice _ n _=>n
 |_=>0
def isS(v:Value):Bool:=match v with
 | .slice _ _ _=>true
 |_=>false
def Afs(H:Aaa)(esz:Nat)(v:Value)(j:Nat):Option (List Value):=match v with
 | .slice (some ⟨b,o,none⟩) _ _=>Adf H b (o+j*esz) esz
 |_=>none
theorem Akv{v:Value}(h:nnS v=true):∃b o n k,v=slc b o n k:=by
 unfold nnS at h
 split at h
 ·exact⟨_,_,_,_,rfl⟩
 ·cases h
theorem Aeb{v:Value}(h:isS v=true):∃a n k,v=.slice a n k:=by
 unfold isS at h
 split at h
 ·exact⟨_,_,_,rfl⟩
 ·cases h
theorem A4f{v:Value}(h:isS v=true):Aak (.len false v) H=some (.int .i64 (Ab9 v),H):=by
 obtain⟨a,n,k,rfl⟩:=Aeb h;rfl
theorem Avn{v:Value}{esz:Nat}{kd:IntKind}{i:Int}(h:nnS v=true)(h1:0<=i)(h2:i<(Ab9 v:Int)):Aak (.iaddr esz v (.int kd i)) H=some (elP v esz i.toNat 0,H):=by
 obtain⟨b,o,n,k,rfl⟩:=Akv h
 rw[Arm,if_pos ⟨h1,h2⟩];rfl
theorem Avo{v:Value}{esz j off d:Nat}(h:nnS v=true):Aak (.faddr d (elP v esz j off)) H=some (elP v esz j (off+d),H):=by
 obtain⟨b,o,n,k,rfl⟩:=Akv h
 show Aak (.faddr d (ptr b (o+j*esz+off))) H=_
 rw[Arl,Nat.add_assoc];rfl
theorem Adw{v:Value}{esz j:Nat}{r:List Value}(h:Afs H esz v j=some r):∃b o n k,v=slc b o n k/\r.length=esz/\∃own room z c e,H.get b=some (.cells own room z c e)/\o+j*esz+esz<=c.length/\r=(c.drop (o+j*esz)).take esz:=by
 unfold Afs at h
 split at h
 ·rename_i b o n k
  refine⟨b,o,n,k,rfl,?_⟩
  unfold Adf at h
  split at h
  ·rename_i own room z c e hg
   split at h
   ·rename_i hl
    simp only[Option.some.injEq]at h;subst h
    exact⟨by rw[List.length_take,List.length_drop];omega,own,room,z,c,e,hg,hl,rfl⟩
   ·cases h
  ·cases h
 ·cases h
theorem Aaj{v:Value}{esz j off:Nat}{r:List Value}(h:Afs H esz v j=some r)(ho:off<esz):Aak (.load1 (elP v esz j off)) H=r[off]?.map fun x=>(x,H):=by
 obtain⟨b,o,n,k,rfl,h1,own,room,z,c,e,h2,h3,h4⟩:=Adw h
 show Aak (.load1 (ptr b (o+j*esz+off))) H=_
 rw[Arj,Auu h2,h4,List.getElem?_take_of_lt ho,List.getElem?_drop]
theorem Agn{v:Value}{esz j off n:Nat}{r:List Value}(h:Afs H esz v j=some r)(ho:off+n<=esz):Aak (.loadn n (elP v esz j off)) H=some (.agg ((r.drop off).take n).toArray,H):=by
 obtain⟨b,o,n',k,rfl,h1,own,room,z,c,e,h2,h3,h4⟩:=Adw h
 show Aak (.loadn n (ptr b (o+j*esz+off))) H=_
 rw[Ark,Aq5 h2,if_pos (by omega),h4,List.drop_take,List.take_take,List.drop_drop,Nat.min_eq_left (by omega)]
 rfl
theorem Aai{v:Value}{n j:Nat}{r:List Value}(h:Afs H n v j=some r):Aak (.loadn n (elP v n j 0)) H=some (.agg r.toArray,H):=by
 obtain⟨_,_,_,_,_,hl,_⟩:=Adw h
 rw[Agn h (by omega),List.drop_zero,List.take_of_length_le (by omega)]
theorem Arx{v:Value}{esz j off n:Nat}{r:List Value}(hne:n≠esz)(h:Afs H esz v j=some r)(ho:off+n<=esz):Aak (.loadn n (elP v esz j off)) H=some (.agg ((r.drop off).take n).toArray,H):=Agn h ho
theorem Afi{KF:List Value->Aaa->Prop}{tr:List TE}(g:FuncId)(first cap:Array Value)(xs:List Value)(d:D)(un:List Nat)(r:List (Aa7×List Nat)):stD P ng (.callv (.func (.func g) first cap) xs) d un r fr tm H tr KF=Azq P ng g (first.toList++xs++cap.toList) d un r fr tm H tr KF:=_root_.id rfl
theorem Avp{v:Value}{esz j off:Nat}(h:nnS v=true):Abv (.load1 (elP v esz j off))=[bn v-1]:=by
 obtain⟨b,o,n',k,rfl⟩:=Akv h;rfl
theorem Ary{v:Value}{esz j off n:Nat}(h:nnS v=true):Abv (.loadn n (elP v esz j off))=[bn v-1]:=by
 obtain⟨b,o,n',k,rfl⟩:=Akv h;rfl
theorem An9{esz:Nat}{v:Value}{j:Nat}(h:∀b,blk v=some b->H'.get b=H.get b):Afs H' esz v j=Afs H esz v j:=by
 unfold Afs
 split
 ·rename_i b o n k
  rw[Abe,Abe,h b rfl]
 ·rfl
theorem A9i{v:Value}{n b:Nat}(h:bn v<=n)(e:blk v=some b):b<n:=by
 unfold bn at h;rw[e]at h;exact h
theorem Aab{esz:Nat}{v:Value}{j:Nat}(o:AO)(h:bn v<=H.n):Afs (H.alloc o) esz v j=Afs H esz v j:=An9 fun b e=>Aru o (A9i h e)
theorem Aad{esz:Nat}{v:Value}{j b:Nat}(o:AO)(h:bn v≠b+1)(hb:b<H.n):Afs (H.set b o) esz v j=Afs H esz v j:=An9 fun x e=>Aw0 o (by intro hx;subst hx;apply h;unfold bn;rw[e]) hb
structure Sl (H:Aaa) (esz:Nat) (v:Value) (rows:List (List Value)):Prop where
 sh:∃a k,v=.slice a rows.length k
 row:∀r∈rows,r.length=esz
 el:Abf H esz v=some rows.flatten
theorem Sl.len{esz:Nat}{v:Value}{rows:List (List Value)}(h:Sl H esz v rows):Ab9 v=rows.length:=by
 obtain⟨a,k,rfl⟩:=h.sh;rfl
theorem Sl.is{esz:Nat}{v:Value}{rows:List (List Value)}(h:Sl H esz v rows):isS v=true:=by
 obtain⟨a,k,rfl⟩:=h.sh;rfl
theorem Sl.one{esz:Nat}{v:Value}{rows:List (List Value)}(h:Sl H esz v rows):v.oneCell'=true:=by
 obtain⟨a,k,rfl⟩:=h.sh;rfl
theorem Sl.nil(H:Aaa)(esz:Nat):Sl H esz (.slice none 0 0) []:=⟨⟨_,_,rfl⟩,by simp,rfl⟩
theorem Ab7{esz:Nat}:∀{rows:List (List Value)},(∀r∈rows,r.length=esz)->rows.flatten.length=rows.length*esz
 |[],_=>by simp
 |r::rows,h=>by
  have h1:=h r (by simp)
  have h2:=Ab7 (rows:=rows) (fun x hx=>h x (by simp[hx]))
  rw[List.flatten_cons,List.length_append,h1,h2,List.length_cons,Nat.add_mul];omega
theorem Arz{esz:Nat}:∀{rows:List (List Value)},(∀r∈rows,r.length=esz)->∀(i:Nat) (hi:i<rows.length),(rows.flatten.drop (i*esz)).take esz=rows[i]
 |r::rows,h,0,_=>by
  have h1:=h r (by simp)
  rw[Nat.zero_mul,List.drop_zero,List.flatten_cons,List.take_append_of_le_length (by omega),List.take_of_length_le (by omega)];rfl
 |r::rows,h,i+1,hi=>by
  have h1:=h r (by simp)
  have h2:=Arz (rows:=rows) (fun x hx=>h x (by simp[hx])) i (by simpa using hi)
  rw[Nat.add_mul,Nat.one_mul,Nat.add_comm,<-List.drop_drop,List.flatten_cons]
  rw[show(r++rows.flatten).drop esz=rows.flatten by rw[<-h1,List.drop_left],h2]
  rfl
theorem Sl.at_{esz:Nat}{v:Value}{rows:List (List Value)}(h:Sl H esz v rows)(hz:0<esz){i:Nat}(hi:i<rows.length):nnS v=true/\Afs H esz v i=some rows[i]:=by
 have h2:=h.el
 have hfl:=Ab7 h.row
 have hpos:0<rows.flatten.length:=by rw[hfl];exact Nat.mul_pos (by omega) hz
 obtain⟨a,k,rfl⟩:=h.sh
 match a,h2 with
 |none,h2=>simp only[Abf,Option.some.injEq]at h2;rw[<-h2]at hpos;simp at hpos
 |some ⟨b,o,some q⟩,h2=>
  simp only[Abf]at h2
  rw[if_neg (by omega)]at h2;cases h2
 |some ⟨b,o,none⟩,h2=>
  refine⟨rfl,?_⟩
  simp only[Abf]at h2
  simp only[Afs,Adf]
  split at h2
  ·rename_i own room z c e hg
   split at h2
   ·rename_i hl
    have hm:(i+1)*esz<=rows.length*esz:=Nat.mul_le_mul_right esz hi
    rw[Nat.add_mul,Nat.one_mul]at hm
    rw[if_pos (by omega)]
    simp only[Option.some.injEq]at h2
    have:=Arz h.row i hi
    rw[<-h2,List.drop_take,List.take_take,List.drop_drop,Nat.min_eq_left (by omega)]at this
    rw[this]
   ·cases h2
  ·cases h2
theorem Sl.bn_le{esz:Nat}{v:Value}{rows:List (List Value)}(h:Sl H esz v rows)(hr:rows≠[])(hz:0<esz):bn v<=H.n:=by
 have hl:0<rows.length:=List.length_pos_iff.2 hr
 obtain⟨h1,h2⟩:=h.at_ hz hl
 obtain⟨b,o,n,k,rfl,_,own,room,z,c,e,hg,_⟩:=Adw h2
 exact Aaa.Bfg hg
theorem Sl.get'{esz:Nat}{v:Value}{rows:List (List Value)}(h:Sl H esz v rows)(k:∀b,blk v=some b->b<H.n->H'.get b=H.get b):Sl H' esz v rows:=by
 refine⟨h.sh,h.row,?_⟩
 have h2:=h.el
 obtain⟨a,c,rfl⟩:=h.sh
 match a,h2 with
 |none,h2=>exact h2
 |some ⟨b,o,none⟩,h2=>
  simp only[Abf]at h2 ⊢
  cases hg:H.get b with
  |none=>rw[hg]at h2;cases h2
  |some ob=>rw[k b rfl (Aaa.Bfg hg)];exact h2
 |some ⟨b,o,some _⟩,h2=>simpa[Abf]using h2
theorem Sl.keeps{esz:Nat}{v:Value}{rows:List (List Value)}(h:Sl H esz v rows)(k:Aac H H'):Sl H' esz v rows:=h.get' fun b _ hb=>k.get b hb
theorem Sl.chg{esz:Nat}{v:Value}{rows:List (List Value)}{S:List Nat}(h:Sl H esz v rows)(k:Chg S H H')(hS:∀b,blk v=some b->b∉S):Sl H' esz v rows:=h.get' fun b e hb=>k.get b hb (hS b e)
theorem Sl.chg1{esz:Nat}{v:Value}{rows:List (List Value)}{r:Nat}(h:Sl H esz v rows)(k:Chg [r] H H')(hS:bn v≠r+1):Sl H' esz v rows:=h.get' fun b e hb=>Chg1.get k hb (by intro hx;subst hx;apply hS;unfold bn;rw[e])
theorem AP.sl{e esz:Nat}{v:Value}{n:Nat}{rows:List (List Value)}(h:AP H e esz v n rows.flatten)(hr:∀r∈rows,r.length=esz)(hn:n=rows.length):Sl H esz v rows:=by
 obtain⟨a,ha⟩:=h.shape
 exact⟨⟨a,n,by rw[<-hn];exact ha⟩,hr,h.elems⟩
section
variable {KF:List Value->Aaa->Prop} {tr:List TE} (d:D) (r:List Aa7) (un:List Nat) (rd:List (Aa7×List Nat))
theorem Aw1(e s b:Nat)(x y:Value):stR P ng (.app e s b x y) d r fr tm H KF=goR P ng (Aak (.app e s b x y) H) d r fr tm KF:=Abq d r (by simp) (by simp) (by simp)
theorem A0m(e b:Nat)(x y:Value):stR P ng (.apps e b x y) d r fr tm H KF=goR P ng (Aak (.apps e b x y) H) d r fr tm KF:=Abq d r (by simp) (by simp) (by simp)
theorem A0n(e b:Nat)(x y:Value):stD P ng (.apps e b x y) d un rd fr tm H tr KF=goD P ng (.apps e b x y) (Aak (.apps e b x y) H) d un rd fr tm H tr KF:=Abh d un rd (by simp) (by simp) (by simp)
theorem Ar0(s n:Nat)(x i:Value):stR P ng (.iaddrp s n x i) d r fr tm H KF=goR P ng (Aak (.iaddrp s n x i) H) d r fr tm KF:=Abq d r (by simp) (by simp) (by simp)
theorem Ar1(s n:Nat)(x i:Value):stD P ng (.iaddrp s n x i) d un rd fr tm H tr KF=goD P ng (.iaddrp s n x i) (Aak (.iaddrp s n x i) H) d un rd fr tm H tr KF:=Abh d un rd (by simp) (by simp) (by simp)
theorem A0o(a:Bool)(s n:Nat)(x i:Value):stR P ng (.idxa a s n x i) d r fr tm H KF=goR P ng (Aak (.idxa a s n x i) H) d r fr tm KF:=Abq d r (by simp) (by simp) (by simp)
theorem A0p(a:Bool)(s n:Nat)(x i:Value):stD P ng (.idxa a s n x i) d un rd fr tm H tr KF=goD P ng (.idxa a s n x i) (Aak (.idxa a s n x i) H) d un rd fr tm H tr KF:=Abh d un rd (by simp) (by simp) (by simp)
theorem Avq(s n:Nat)(x:Value)(lo hi mx:Option Value):stR P ng (.slarr s n x lo hi mx) d r fr tm H KF=goR P ng (Aak (.slarr s n x lo hi mx) H) d r fr tm KF:=Abq d r (by simp) (by simp) (by simp)
theorem Avr(s n:Nat)(x:Value)(lo hi mx:Option Value):stD P ng (.slarr s n x lo hi mx) d un rd fr tm H tr KF=goD P ng (.slarr s n x lo hi mx) (Aak (.slarr s n x lo hi mx) H) d un rd fr tm H tr KF:=Abh d un rd (by simp) (by simp) (by simp)
theorem A4g(c:List Nat)(n:Bool)(x y:Value):stR P ng (.eqs c n x y) d r fr tm H KF=goR P ng (Aak (.eqs c n x y) H) d r fr tm KF:=Abq d r (by simp) (by simp) (by simp)
theorem A4h(c:List Nat)(n:Bool)(x y:Value):stD P ng (.eqs c n x y) d un rd fr tm H tr KF=goD P ng (.eqs c n x y) (Aak (.eqs c n x y) H) d un rd fr tm H tr KF:=Abh d un rd (by simp) (by simp) (by simp)
theorem A9j(m:Bool)(x y:Value):stR P ng (.mm m x y) d r fr tm H KF=goR P ng (Aak (.mm m x y) H) d r fr tm KF:=Abq d r (by simp) (by simp) (by simp)
theorem A9k(m:Bool)(x y:Value):stD P ng (.mm m x y) d un rd fr tm H tr KF=goD P ng (.mm m x y) (Aak (.mm m x y) H) d un rd fr tm H tr KF:=Abh d un rd (by simp) (by simp) (by simp)
theorem Avs(x:Value):stR P ng (.i2str x) d r fr tm H KF=goR P ng (Aak (.i2str x) H) d r fr tm KF:=Abq d r (by simp) (by simp) (by simp)
theorem Avt(x:Value):stD P ng (.i2str x) d un rd fr tm H tr KF=goD P ng (.i2str x) (Aak (.i2str x) H) d un rd fr tm H tr KF:=Abh d un rd (by simp) (by simp) (by simp)
theorem A4i(x:Value):stR P ng (.rng x) d r fr tm H KF=goR P ng (Aak (.rng x) H) d r fr tm KF:=Abq d r (by simp) (by simp) (by simp)
theorem A0q(x:Value):stR P ng (.next x) d r fr tm H KF=goR P ng (Aak (.next x) H) d r fr tm KF:=Abq d r (by simp) (by simp) (by simp)
theorem A0r(e:Nat)(x y:Value):stR P ng (.copy e x y) d r fr tm H KF=goR P ng (Aak (.copy e x y) H) d r fr tm KF:=Abq d r (by simp) (by simp) (by simp)
theorem A0s(e:Nat)(x y:Value):stD P ng (.copy e x y) d un rd fr tm H tr KF=goD P ng (.copy e x y) (Aak (.copy e x y) H) d un rd fr tm H tr KF:=Abh d un rd (by simp) (by simp) (by simp)
theorem A4j(e:Nat)(z:List Value)(x:Value):stR P ng (.clr e z x) d r fr tm H KF=goR P ng (Aak (.clr e z x) H) d r fr tm KF:=Abq d r (by simp) (by simp) (by simp)
end
theorem Bbk(m:Bool)(k:IntKind)(a b:Int):Aak (.mm m (.int k a) (.int k b)) H=some (.int k (if m then(if b>a then b else a)else(if b<a then b else a)),H):=by
 simp[Aak]
theorem A9l(k:IntKind)(a b:Int):Aak (.mm true (.int k a) (.int k b)) H=some (.int k (max a b),H):=by
 rw[Bbk];simp only[if_true];congr 3;split<;>omega
theorem Afj(k:IntKind)(a b:Int):Aak (.mm false (.int k a) (.int k b)) H=some (.int k (min a b),H):=by
 rw[Bbk];simp only[Bool.false_eq_true,if_false];congr 3;split<;>omega
theorem Aaz(esz n b o:Nat)(kd:IntKind)(i:Int):Aak (.iaddrp esz n (ptr b o) (.int kd i)) H=if 0<=i/\i<(n:Int)then some (ptr b (o+i.toNat*esz),H)else none:=_root_.id rfl
theorem Ar2(e esz n:Nat)(z:List Value)(ps:List (Nat×Nat×Value)):Aak (.bslice e esz n z ps) H=(Aau z ps).bind fun c=>if c.all Value.oneCell'=true/\c.length=n*esz then some (slc H.n 0 n n,H.alloc (.cells true false esz c e))else none:=by
 simp only[Aak];cases Aau z ps<;>rfl
theorem Adz(c:List Value)(o n:Nat)(v:Value)(r:List (Nat×Nat×Value)):Aau c ((o,n,v)::r)=if v.cells.toList.length=n/\o+n<=c.length then Aau (c.take o++v.cells.toList++c.drop (o+n)) r else none:=by
 simp only[Aau]
theorem Ar3(k:IntKind)(n:Int):(Value.int k n).cells.toList=[.int k n]:=_root_.id rfl
theorem Aph(n:Bool):(Value.bool n).cells.toList=[.bool n]:=_root_.id rfl
theorem Ar4(n:ByteArray):(Value.string n).cells.toList=[.string n]:=_root_.id rfl
theorem Avu(a:Option Addr)(n k:Nat):(Value.slice a n k).cells.toList=[.slice a n k]:=_root_.id rfl
theorem Ar5(b o n k:Nat):(slc b o n k).cells.toList=[slc b o n k]:=_root_.id rfl
theorem Ar6(b o:Nat):(ptr b o).cells.toList=[ptr b o]:=_root_.id rfl
theorem Avv(a:Option Addr):(Value.pointer a).cells.toList=[.pointer a]:=_root_.id rfl
theorem Ar7{v:Value}(h:isS v=true):v.cells.toList=[v]:=by obtain⟨a,n,k,rfl⟩:=Aeb h;rfl
theorem Aap{v:Value}(h:isS v=true):v.oneCell'=true:=by obtain⟨a,n,k,rfl⟩:=Aeb h;rfl
theorem Aoa(i n:Nat)(fr:List Value):Ack [.cn n i] fr H=(Adb n (fr.getD i undef) H):=by
 simp only[Ack,Af0,RX.get]
 cases Adb n (fr.getD i undef) H<;>rfl
theorem Ace(n b o:Nat):Adb n (ptr b o) H=(Adf H b o n).map fun c=>.agg c.toArray:=_root_.id rfl
theorem Aw2(b o:Nat):Ao7 (ptr b o) H=Ag2 H b o:=_root_.id rfl
theorem Amy(b o:Nat)(H:Aaa):Ab5 (.load1 (ptr b o)) H=[b]:=_root_.id rfl
theorem Amz(n b o:Nat)(H:Aaa):Ab5 (.loadn n (ptr b o)) H=[b]:=_root_.id rfl
theorem Alr{v:Value}{esz j off:Nat}(h:nnS v=true)(H:Aaa):Ab5 (.load1 (elP v esz j off)) H=[bn v-1]:=by
 show Abv _=_;exact Avp h
theorem Als{v:Value}{esz j off n:Nat}(h:nnS v=true)(H:Aaa):Ab5 (.loadn n (elP v esz j off)) H=[bn v-1]:=by
 show Abv _=_;exact Ary h
theorem Avw(A B:Aaa):Ael [] A B=True:=_root_.id rfl
theorem Avx(b:Nat)(l:List Nat)(A B:Aaa):Ael (b::l) A B=(B.get b=A.get b/\Ael l A B):=_root_.id rfl
theorem Avy(A:Aaa):Agk [] A=True:=_root_.id rfl
theorem Avz(b:Nat)(l:List Nat)(A:Aaa):Agk (b::l) A=(b<A.n/\Agk l A):=_root_.id rfl
def ob1(k:Nat)(bs:List Nat)(A B:Aaa)(x:Option TE):Prop:=match x with
 |some t=>if k=1/\t.k=3 then Agk bs t.H/\Ael bs t.H t.H' else if k=3/\(t.k=1\/t.k=2)then Ael t.bs A B else True
 |none=>True
theorem A9m(k:Nat)(bs:List Nat)(A B:Aaa)(tr:List TE)(i:Nat)(un:List Nat):Ak9 k bs A B tr (i::un)=(ob1 k bs A B tr[i]? /\Ak9 k bs A B tr un):=_root_.id rfl
theorem A9n(bs:List Nat)(A B:Aaa)(x:Option TE):ob1 0 bs A B x=True:=by unfold ob1;split<;>simp
theorem A9o(bs:List Nat)(A B:Aaa)(x:Option TE):ob1 2 bs A B x=True:=by unfold ob1;split<;>simp
theorem A9p(k:Nat)(bs:List Nat)(A B:Aaa)(j:Nat)(cs:List Nat)(C D:Aaa):ob1 k bs A B (some ⟨j,cs,C,D⟩)=if k=1/\j=3 then Agk bs C/\Ael bs C D else if k=3/\(j=1\/j=2)then Ael cs A B else True:=_root_.id rfl
end
set_option linter.defProp false in
def A3s:=(And.intro (And.intro (And.intro (And.intro (And.intro (And.intro @A0e @Abe) (And.intro @A0f (And.intro @Aa9 @Avh))) (And.intro (And.intro @Arr (And.intro @Ars @A4a)) (And.intro @Agm (And.intro @Avi @Aaj)))) (And.intro (And.intro (And.intro @Aai (And.intro @Arx @Afi)) (And.intro @Art (And.intro @Acw @Avj))) (And.intro (And.intro @A9g (And.intro @Aru @A9h)) (And.intro @Aw0 (And.intro @A0g @A0h))))) (And.intro (And.intro (And.intro (And.intro @Arv @Acd) (And.intro @Ab6 (And.intro @A4b @A4c))) (And.intro (And.intro @A0i (And.intro @A0j @A0k)) (And.intro @A4d (And.intro @A4e @Arw)))) (And.intro (And.intro (And.intro @An8 (And.intro @A0l @Avk)) (And.intro @Avl (And.intro @Avm @A4f))) (And.intro (And.intro @Avn (And.intro @Avo @Aab)) (And.intro @Aad (And.intro @Aw1 @A0m)))))) (And.intro (And.intro (And.intro (And.intro (And.intro @A0n @A33) (And.intro @Ar0 (And.intro @Ar1 @A0o))) (And.intro (And.intro @A0p (And.intro @Avq @Avr)) (And.intro @A4g (And.intro @A4h @A9j)))) (And.intro (And.intro (And.intro @A9k (And.intro @Avs @Avt)) (And.intro @A4i (And.intro @A0q @A0r))) (And.intro (And.intro @A0s (And.intro @A4j @A9l)) (And.intro @Afj (And.intro @Aaz @Ar2))))) (And.intro (And.intro (And.intro (And.intro @Ar3 (And.intro @Aph @Ar4)) (And.intro @Avu (And.intro @Ar5 @Ar6))) (And.intro (And.intro @Avv (And.intro @Amy @Amz)) (And.intro @Alr (And.intro @Als @Avw)))) (And.intro (And.intro (And.intro @Avx (And.intro @Avy @Avz)) (And.intro @Azm (And.intro @A9m @A9n))) (And.intro (And.intro @A9o (And.intro @A9p @bi_u)) (And.intro @Aoa (And.intro @Ace @Aw2)))))))
set_option linter.defProp false in
def A3c:=(And.intro (And.intro (And.intro (And.intro @List.append_nil.{0} @List.nil_append.{0}) (And.intro @List.cons_append.{0} @decide_true)) (And.intro (And.intro @decide_false @List.drop_zero.{0}) (And.intro @Option.bind_some.{0,0} @List.toList_toArray.{0}))) (And.intro (And.intro (And.intro @implies_true.{1} @implies_true.{0}) (And.intro @not_true_eq_false @not_false_eq_true)) (And.intro (And.intro @and_false @Int.toNat_zero) (And.intro @bne_self_eq_false.{0} @Bool.not_not))))
set_option linter.defProp false in
def LN:=And.intro @List.length_cons.{0} (And.intro @List.length_nil.{0} (And.intro @Acd @Ab6))
set_option linter.defProp false in
def P3:=And.intro ANs (And.intro A3s (And.intro ANc (And.intro A3c (And.intro (And.intro (And.intro (And.intro (And.intro @AOp.map.eq_1 (And.intro @AOp.map.eq_2 @AOp.map.eq_3)) (And.intro @AOp.map.eq_4 (And.intro @AOp.map.eq_5 @AOp.map.eq_6))) (And.intro (And.intro @AOp.map.eq_7 (And.intro @AOp.map.eq_8 @AOp.map.eq_9)) (And.intro (And.intro @AOp.map.eq_10 @AOp.map.eq_11) (And.intro @AOp.map.eq_12 @AOp.map.eq_13)))) (And.intro (And.intro (And.intro @AOp.map.eq_14 (And.intro @AOp.map.eq_15 @AOp.map.eq_16)) (And.intro @AOp.map.eq_17 (And.intro @AOp.map.eq_18 @AOp.map.eq_19))) (And.intro (And.intro @AOp.map.eq_20 (And.intro @AOp.map.eq_21 @AOp.map.eq_22)) (And.intro (And.intro @AOp.map.eq_23 @AOp.map.eq_24) (And.intro @AOp.map.eq_25 @AOp.map.eq_26))))) (And.intro (And.intro (And.intro (And.intro @AOp.map.eq_27 (And.intro @AOp.map.eq_28 @AOp.map.eq_29)) (And.intro @AOp.map.eq_30 (And.intro @AOp.map.eq_31 @AOp.map.eq_32))) (And.intro (And.intro @AOp.map.eq_33 (And.intro @AOp.map.eq_34 @AOp.map.eq_35)) (And.intro (And.intro @AOp.map.eq_36 @AOp.map.eq_37) (And.intro @AOp.map.eq_38 @AOp.map.eq_39)))) (And.intro (And.intro (And.intro @AOp.map.eq_40 (And.intro @AOp.map.eq_41 @AOp.map.eq_42)) (And.intro (And.intro @AOp.map.eq_43 @AOp.map.eq_44) (And.intro @AOp.map.eq_45 @AOp.map.eq_46))) (And.intro (And.intro @AOp.map.eq_47 (And.intro (And.intro @AOp.map.eq_48 (And.intro @AOp.map.eq_49 (And.intro @AOp.map.eq_50 (And.intro @AOp.map.eq_51 (And.intro @AOp.map.eq_52 (And.intro @AOp.map.eq_53 @AOp.map.eq_54)))))) (And.intro @List.take_nil.{0} @List.take_zero.{0}))) (And.intro (And.intro @List.take_succ_cons.{0} @List.drop_nil.{0}) (And.intro @List.drop_zero.{0} @List.drop_succ_cons.{0})))))))))
theorem cls0{X:Type}:(∀v,Aao (.mov v:AOp X)=0)/\(∀a b c,Aao (.pick a b c:AOp X)=0)/\(∀a b,Aao (.build a b:AOp X)=0)/\(∀v,Aao (.nilck v:AOp X)=0)/\(∀a b c,Aao (.bin a b c:AOp X)=0)/\(∀a b c d,Aao (.eqv a b c d:AOp X)=0)/\(∀a b,Aao (.un a b:AOp X)=0)/\(∀a b,Aao (.i2i a b:AOp X)=0)/\(∀v,Aao (.s2s v:AOp X)=0)/\(∀a b,Aao (.iface a b:AOp X)=0)/\(∀a b c,Aao (.mkfn a b c:AOp X)=0)/\(∀a b c,Aao (.slstr a b c:AOp X)=0)/\(∀a b,Aao (.faddr a b:AOp X)=0)/\(∀a b,Aao (.fld1 a b:AOp X)=0)/\(∀a b c,Aao (.fldn a b c:AOp X)=0)/\(∀a b c,Aao (.iaddr a b c:AOp X)=0)/\(∀a b,Aao (.idxs a b:AOp X)=0)/\(∀a b c d,Aao (.assert a b c d:AOp X)=0)/\(∀a b,Aao (.extract a b:AOp X)=0)/\(∀a b,Aao (.len a b:AOp X)=0)/\(∀a b c d,Aao (.iaddrp a b c d:AOp X)=0)/\(∀a b c d e,Aao (.idxa a b c d e:AOp X)=0)/\(∀a b c d e f,Aao (.slarr a b c d e f:AOp X)=0)/\(∀a b c d,Aao (.eqs a b c d:AOp X)=0)/\(∀a b c,Aao (.mm a b c:AOp X)=0)/\(∀a b c d e,Aao (.mm4 a b c d e:AOp X)=0)/\(∀v,Aao (.i2str v:AOp X)=0):=by
 repeat' (first|apply And.intro|(intros;rfl))
set_option linter.defProp false in
def P4:=And.intro @Aag (And.intro P3 (And.intro @Aah.eq_1 (And.intro @cls0 (And.intro @Aao.eq_1 (And.intro @Aao.eq_2 (And.intro @Aao.eq_3 (And.intro @Aao.eq_4 (And.intro @Aao.eq_5 (And.intro @Aao.eq_6 (And.intro @Aao.eq_7 (And.intro @Aao.eq_8 (And.intro @Aao.eq_9 (And.intro @Aao.eq_10 (And.intro @Aao.eq_11 (And.intro @Aao.eq_12 (And.intro @Aao.eq_13 (And.intro @Aao.eq_14 (And.intro @Aao.eq_15 (And.intro @Aao.eq_16 (And.intro @Aao.eq_17 (And.intro @Aao.eq_18 (And.intro @Aao.eq_19 (And.intro @Aao.eq_20 (And.intro @Aao.eq_21 (And.intro @Aao.eq_22 (And.intro @Aao.eq_23 (And.intro @Aao.eq_24 (And.intro @Aao.eq_25 (And.intro @Aao.eq_26 @Aao.eq_27)))))))))))))))))))))))))))))
theorem Aam(af:Af8){P:Program}{ng:Nat}{f:Nat}{args:List Value}{R:Value->Aaa->Prop}{H:Aaa}(h:∀Q:AQ,(∀fr H2,(∃v,Ack af.res fr H2=some v/\R v H2)->Q .normal fr H2)->(∀fr H2,(∃v,Ack af.res fr H2=some v/\R v H2)->Q .ret fr H2)->W P ng af.body Q (Aah af.sl args) H)(hc:Ao8 P ng af.sl f=some af:=by kernel_rfl)(hargs:An4 P f args.length=true:=by kernel_rfl):∃v H',Aaq P ng f args H v H'/\R v H':=A8z hc hargs h
structure Th where
 P:Aaa->Prop
 F:List Nat
 lt:∀H,P H->∀b∈F,b<H.n
 st:∀H H',P H->H.n<=H'.n->(∀b∈F,H'.get b=H.get b)->P H'
section
variable {P:Program} {ng:Nat} {H:Aaa} {KF:List Value->Aaa->Prop} {fr tm:List Value} {tr:List TE} {Q:AQ}
theorem Bbj{d:D}{r:List Aa7}{e esz bytes:Nat}{s x:Value}{n m:Nat}{c news:List Value}(h:AP H e esz s n c)(hx:∃a k,x=.slice a m k)(h1:Abf H esz x=some news)(hm:news.length=m*esz)
 (hs:(n+m)*bytes<=140737488355328/\n+m<=140737488355328)
 (hk:∀v' H',AP H' e esz v' (n+m) (c++news)->Chg (Ahp s) H H'->(blk v'=blk s\/blk v'=some H.n)->RW P ng r (d.frame v' fr) (d.temps v' tm) H' KF):goR P ng (Aak (.app e esz bytes s x) H) d r fr tm KF:=by
 rw[<-Aw1];exact appR h hx h1 hm hs hk
theorem A2z{d:D}{r:List (Aa7×List Nat)}{e esz bytes:Nat}{s x:Value}{n m:Nat}{c news:List Value}(h:AP H e esz s n c)(hx:∃a k,x=.slice a m k)(h1:Abf H esz x=some news)(hm:news.length=m*esz)
 (hs:(n+m)*bytes<=140737488355328/\n+m<=140737488355328)
 (hk:∀v' H',AP H' e esz v' (n+m) (c++news)->Chg (Ahp s) H H'->(blk v'=blk s\/blk v'=some H.n)->RD P ng r (d.frame v' fr) (d.temps v' tm) H' (tr++[⟨3,[],H,H'⟩]) KF):goD P ng (.app e esz bytes s x) (Aak (.app e esz bytes s x) H) d [] r fr tm H tr KF:=by
 obtain⟨v',H',e1,e2,e3,e4⟩:=h.app (bytes:=bytes) hm hs
 obtain⟨a,k,rfl⟩:=hx
 exact⟨v',H',by simp only[Aak,h1];exact e1,trivial,hk v' H' e2 e3 e4⟩
theorem AP.chg1{H H':Aaa}{e esz:Nat}{v:Value}{n:Nat}{c:List Value}{b:Nat}(h:AP H e esz v n c)(k:Chg [b] H H')(hb:Go.AM.bn v≠b+1):AP H' e esz v n c:=
 h.chg k (by intro z hz e;simp at e;subst e;apply hb;unfold Go.AM.bn;rw[Abu.1 hz])
end
theorem Acc{H:Aaa}{own room:Bool}{esz e n:Nat}{c:List Value}{b:Nat}(hb:b=H.n)(h:c.length=n*esz):Abf (H.alloc (.cells own room esz c e)) esz (slc b 0 n n)=some c:=by
 subst hb;exact Ais (Aaa.Bfd H _) h
theorem Awu{kd:IntKind}{n m:Nat}(h:0<m):Abz .rem (.int kd (n:Int)) (.int kd (m:Int))=some (.int kd ((n % m:Nat):Int)):=by
 simp only[Abz,if_true,Aj7]
 rw[if_neg (by omega)]
 rfl
def via(ρ:Nat->Option Nat)(σ:Sg):Sg:=fun b=>(ρ b).bind σ
theorem Ajp{ρ:Nat->Option Nat}{σ:Sg}{b c:Nat}{i:BI}(h:ρ b=some c)(k:σ c=some i):via ρ σ b=some i:=by
 unfold via;rw[h];exact k
theorem Amk{ρ:Nat->Option Nat}{σ:Sg}{b:Nat}{i:BI}(h:via ρ σ b=some i):∃c,ρ b=some c/\σ c=some i:=by
 unfold via at h
 cases hb:ρ b with
 |none=>rw[hb]at h;cases h
 |some c=>rw[hb]at h;exact⟨c,rfl,h⟩
inductive NV (ρ:Nat->Option Nat):Value->Value->Prop
 |bool (b:Bool):NV ρ (.bool b) (.bool b)
 |int (k:IntKind) (n:Int):NV ρ (.int k n) (.int k n)
 |string (s:ByteArray):NV ρ (.string s) (.string s)
 |nilPtr:NV ρ (.pointer none) (.pointer none)
 |ptr {b c o:Nat} (h:ρ b=some c):NV ρ (.pointer (some ⟨b,o,none⟩)) (.pointer (some ⟨c,o,none⟩))
 |nilSl:NV ρ (.slice none 0 0) (.slice none 0 0)
 |sl {b c o n k:Nat} (h:ρ b=some c):NV ρ (.slice (some ⟨b,o,none⟩) n k) (.slice (some ⟨c,o,none⟩) n k)
 |slz {x:Addr} (hx:x.spot.isSome=true):NV ρ (.slice (some x) 0 0) (.slice (some x) 0 0)
 |nilMap:NV ρ (.map none) (.map none)
 |map {b c:Nat} (h:ρ b=some c):NV ρ (.map (some b)) (.map (some c))
 |func (fn:Fn) (xs xs' ys ys':Array Value) (h1:xs.size=xs'.size) (h2:∀i (a:i<xs.size) (b:i<xs'.size),NV ρ xs[i] xs'[i])
  (h3:ys.size=ys'.size) (h4:∀i (a:i<ys.size) (b:i<ys'.size),NV ρ ys[i] ys'[i]):NV ρ (.func fn xs ys) (.func fn xs' ys')
 |nilFunc:NV ρ .nilFunc .nilFunc
 |iface (t:TypeId) {v v':Value} (h:NV ρ v v'):NV ρ (.iface t v) (.iface t v')
 |nilIface:NV ρ .nilIface .nilIface
 |agg (xs xs':Array Value) (h1:xs.size=xs'.size) (h2:∀i (a:i<xs.size) (b:i<xs'.size),NV ρ xs[i] xs'[i]):NV ρ (.agg xs) (.agg xs')
 |tuple (xs xs':Array Value) (h1:xs.size=xs'.size) (h2:∀i (a:i<xs.size) (b:i<xs'.size),NV ρ xs[i] xs'[i]):NV ρ (.tuple xs) (.tuple xs')
inductive NL (ρ:Nat->Option Nat):List Value->List Value->Prop
 |nil:NL ρ [] []
 |cons {v v':Value} {l l':List Value} (h:NV ρ v v') (t:NL ρ l l'):NL ρ (v::l) (v'::l')
theorem NV.via{ρ:Nat->Option Nat}{σ:Sg}{a b:Value}(h:NV ρ a b):∀{c:Value},VR σ b c->VR (AM.via ρ σ) a c:=by
 induction h with
 |bool b=>intro c k;cases k;exact .bool _
 |int k n=>intro c k;cases k;exact .int _ _
 |string s=>intro c k;cases k;exact .string _
 |nilPtr=>intro c k;cases k;exact .nilPtr
 |ptr e=>intro c k;cases k with|ptr e2=>exact .ptr (Ajp e e2)
 |nilSl=>intro c k;cases k;exact .nilSl
 |sl e=>
  intro c k
  cases k with
  |sl e2 hn2 hk2=>exact .sl (Ajp e e2) hn2 hk2
  |sl0 e2=>exact .sl0 (Ajp e e2)
  |slz hx=>simp at hx
 |slz hx=>
  intro c k
  cases k with
  |sl e2 hn2 hk2=>simp at hx
  |sl0 e2=>exact .slz hx
  |slz _=>exact .slz hx
 |nilMap=>intro c k;cases k;exact .nilMap
 |map e=>intro c k;cases k with|map e2=>exact .map (Ajp e e2)
 |func fn xs xs' ys ys' h1 _ h3 _ i2 i4=>
  intro c k
  cases k with
  |func _ _ zs _ us g1 g2 g3 g4=>exact .func fn xs zs ys us (by omega) (fun i a b=>i2 i a (by omega) (g2 i (by omega) b)) (by omega) (fun i a b=>i4 i a (by omega) (g4 i (by omega) b))
 |nilFunc=>intro c k;cases k;exact .nilFunc
 |iface t _ ih=>intro c k;cases k with|iface _ k=>exact .iface t (ih k)
 |nilIface=>intro c k;cases k;exact .nilIface
 |agg xs xs' h1 _ ih=>
  intro c k
  cases k with
  |agg _ zs g1 g2=>exact .agg xs zs (by omega) (fun i a b=>ih i a (by omega) (g2 i (by omega) b))
 |tuple xs xs' h1 _ ih=>
  intro c k
  cases k with
  |tuple _ zs g1 g2=>exact .tuple xs zs (by omega) (fun i a b=>ih i a (by omega) (g2 i (by omega) b))
theorem NL.via{ρ:Nat->Option Nat}{σ:Sg}{a b:List Value}(h:NL ρ a b):∀{c:List Value},VL σ b c->VL (AM.via ρ σ) a c:=by
 induction h with
 |nil=>intro c k;cases k;exact .nil
 |cons h _ ih=>intro c k;cases k with|cons k1 k2=>exact .cons (h.via k1) (ih k2)
theorem NL.length{ρ:Nat->Option Nat}{a b:List Value}(h:NL ρ a b):a.length=b.length:=by
 induction h with
 |nil=>rfl
 |cons _ _ ih=>simp[ih]
theorem NL.one{ρ:Nat->Option Nat}{a b:List Value}(h:NL ρ a b)(hb:∀v∈b,v.oneCell'=true):∀v∈a,v.oneCell'=true:=by
 induction h with
 |nil=>simp
 |cons h _ ih=>
  intro v hv
  rcases List.mem_cons.1 hv with rfl|hv
  ·have:=hb _ (List.mem_cons_self ..)
   cases h<;>first|exact this|rfl
  ·exact ih (fun v hv=>hb v (List.mem_cons_of_mem _ hv)) v hv
inductive NE (ρ:Nat->Option Nat):List MapEntry->List MapEntry->Prop
 |nil:NE ρ [] []
 |cons {e e':MapEntry} {l l':List MapEntry} (hk:e'.key=e.key) (hb:e'.born=e.born) (h:NV ρ e.val e'.val) (t:NE ρ l l'):NE ρ (e::l) (e'::l')
theorem NE.via{ρ:Nat->Option Nat}{σ:Sg}{a b:List MapEntry}(h:NE ρ a b):∀{c:List MapEntry},ML σ b c->ML (AM.via ρ σ) a c:=by
 induction h with
 |nil=>intro c k;cases k;exact .nil
 |cons hk hb h _ ih=>intro c k;cases k with|cons k1 k2 k3 k4=>exact .cons (k1.trans hk) (k2.trans hb) (h.via k3) (ih k4)
def NO(ρ:Nat->Option Nat)(o o2:Obj):Prop:=match o with
 | .map es k=>∃es2,o2=.map es2 k/\NE ρ es.toList es2.toList
 |o=>o2=o
theorem NO.via{ρ:Nat->Option Nat}{σ:Sg}{o o2 o':Obj}(h:NO ρ o o2)(k:JR σ o2 o'):JR (AM.via ρ σ) o o':=by
 cases o with
 |map es c=>
  obtain⟨es2,rfl,h2⟩:=h
  obtain⟨es',rfl,k2⟩:=k
  exact⟨es',rfl,h2.via k2⟩
 |_=>cases h;exact k
def AOr(ρ:Nat->Option Nat)(a b:AO):Prop:=match a with
 | .dead=>True
 | .cells own room esz c e=>∃own' c',b=.cells own' room esz c' e/\(own=true->own'=true)/\NL ρ c c'
 | .obj own o=>∃own' o2,b=.obj own' o2/\(own=true->own'=true)/\NO ρ o o2
 | .loop .. =>False
theorem AOr.own{ρ:Nat->Option Nat}{a b:AO}(h:AOr ρ a b)(ha:a.own=true):b.own=true:=by
 cases a with
 |dead=>cases ha
 |cells own room esz c e=>obtain⟨own',c',rfl,h1,_⟩:=h;exact h1 ha
 |obj own o=>obtain⟨own',o2,rfl,h1,_⟩:=h;exact h1 ha
 |loop own st pe L=>exact h.elim
theorem AOr.live{ρ:Nat->Option Nat}{a b:AO}(h:AOr ρ a b)(ha:a.live=true):b.live=true:=by
 cases a with
 |dead=>cases ha
 |cells own room esz c e=>obtain⟨own',c',rfl,h1,_⟩:=h;rfl
 |obj own o=>obtain⟨own',o2,rfl,h1,_⟩:=h;rfl
 |loop own st pe L=>exact h.elim
theorem AOr.or{ρ:Nat->Option Nat}{a b:AO}(h:AOr ρ a b){σ:Sg}{w:World}{i:BI}(k:OR σ w i b):OR (AM.via ρ σ) w i a:=by
 cases a with
 |dead=>trivial
 |cells own room esz c e=>
  obtain⟨own',c',rfl,h1,h2⟩:=h
  obtain⟨a1,a2,a3,a4,a9,d,fr,a5,a6,a7,a8⟩:=k
  have hl:=h2.length
  exact⟨by rw[hl];exact a1,a2,a3,by rw[hl];exact a4,h2.one a9,d,fr,a5,a6,by rw[hl];exact h2.via a7,fun ho=>by rw[hl];exact a8 (h1 ho)⟩
 |obj own o=>
  obtain⟨own',o2,rfl,h1,h2⟩:=h
  obtain⟨o',k1,k2,k3⟩:=k
  exact⟨o',k1,h2.via k2,k3⟩
 |loop own st pe L=>exact h.elim
variable {P:Program} {ng:Nat} {f:FuncId} {args:List Value} {H H' H'':Aaa} {v v'':Value}
def A2t(ng:Nat)(args:List Value)(H:Aaa)(v:Value):Prop:=∀(σ:Sg) (w:World) (args':List Value),HR ng σ H.get w->VL σ args args'->∃x,VR σ v x
theorem Aaq.gc(h:Aaq P ng f args H v H')(ρ:Nat->Option Nat)(hn:H.n<=H''.n)
 (r0:∀b,b<H.n->ρ b=some b) (r1:∀b c,ρ b=some c->b<H''.n/\(H.n<=b->H.n<=c)) (ri:∀b1 b2 c,ρ b1=some c->ρ b2=some c->b1=b2)
 (ro:∀b c o',ρ b=some c->H'.get c=some o'->(b=c/\b<H.n/\H.get b=some o'/\H''.get b=some o')\/∃o'',H''.get b=some o''/\AOr ρ o'' o')
 (rv:(v''=v/\A2t ng args H v)\/NV ρ v'' v):Aaq P ng f args H v'' H'':=by
 obtain⟨h0,h1,h2⟩:=h
 refine⟨h0,hn,fun σ w args' hr ha=>?_⟩
 refine(h2 σ w args' hr ha).mono ?_
 rintro e w' ⟨v',σ',rfl,k1,k2,k3⟩
 have old:∀b i,σ b=some i->b<H.n:=fun b i hb=>by
  obtain⟨o,g,_⟩:=hr.obj b i hb
  exact Aaa.Bfg g
 have sub:σ.le (AM.via ρ σ'):=fun b i hb=>Ajp (r0 b (old b i hb)) (k2.sub b i hb)
 have back:∀b i,b<H.n->σ' b=some i->σ b=some i:=fun b i hb hs=>by
  cases hsb:σ b with
  |none=>have:=(k2.new b i hsb hs).1.1;omega
  |some j=>have:=k2.sub b j hsb;rw[hs]at this;exact this.symm
 have meet_le:(meet σ' σ).le (AM.via ρ σ'):=fun b i hb=>by
  unfold meet at hb
  split at hb
  ·rename_i hs
   obtain⟨j,hj⟩:=Option.isSome_iff_exists.1 hs
   exact Ajp (r0 b (old b j hj)) hb
  ·cases hb
 have obj:∀b i,AM.via ρ σ' b=some i->∃c o'' o',ρ b=some c/\σ' c=some i/\H''.get b=some o''/\H'.get c=some o'/\OR (AM.via ρ σ') w' i o''/\(o''.own=true->o'.own=true)/\(o''.live=true->o'.live=true):=by
  intro b i hb
  obtain⟨c,hc,hs⟩:=Amk hb
  obtain⟨o',g1,g2⟩:=k1.obj c i hs
  rcases ro b c o' hc g1 with⟨rfl,hlt,e1,e2⟩|⟨o'',e1,e2⟩
  ·refine⟨b,o',o',hc,hs,e2,g1,?_,fun x=>x,fun x=>x⟩
   have hsb:=back b i hlt hs
   obtain⟨o2,f1,f2⟩:=hr.obj b i hsb
   rw[e1]at f1;cases f1
   exact(g2.meet f2).mono meet_le
  ·exact⟨c,o'',o',hc,hs,e1,g1,e2.or g2,e2.own,e2.live⟩
 refine⟨v',AM.via ρ σ',rfl,⟨?_,?_,?_,?_⟩,⟨sub,?_,?_,?_,k2.keep,k2.size,hn,k2.os,k2.tape,k2.output⟩,?_⟩
 ·intro b i hb
  obtain⟨c,o'',o',_,_,e1,_,e2,_⟩:=obj b i hb
  exact⟨o'',e1,e2⟩
 ·intro b1 b2 i1 i2 o1 o2 hne hb1 hb2 ho1 ho2 hw hl
  obtain⟨c1,p1,q1,a1,a2,a3,a4,_,a5,_⟩:=obj b1 i1 hb1
  obtain⟨c2,p2,q2,d1,d2,d3,d4,_,_,d6⟩:=obj b2 i2 hb2
  rw[ho1]at a3;cases a3
  rw[ho2]at d3;cases d3
  exact k1.inj c1 c2 i1 i2 q1 q2 (fun hc=>by subst hc;exact hne (ri b1 b2 c1 a1 d1)) a2 d2 a4 d4 (a5 hw) (d6 hl)
 ·intro b i hb
  obtain⟨c,_,hs⟩:=Amk hb
  exact k1.lt c i hs
 ·intro g hg
  obtain⟨i,g1,g2,g3⟩:=hr.glob g hg
  exact⟨i,sub g i g1,g2,g3⟩
 ·intro b i hb hs
  obtain⟨c,hc,hs'⟩:=Amk hs
  by_cases hlt:b<H.n
  ·have:=r0 b hlt
   rw[hc]at this;cases this
   rw[back b i hlt hs']at hb;cases hb
  ·have hcn:=(r1 b c hc).2 (by omega)
   have hsc:σ c=none:=by
    cases hsc:σ c with
    |none=>rfl
    |some j=>have:=old c j hsc;omega
   exact⟨⟨by omega,(r1 b c hc).1⟩,(k2.new c i hsc hs').2⟩
 ·intro b i o'' hb ho hw
  obtain⟨c,p1,q1,a1,a2,a3,a4,_,a5,_⟩:=obj b i (sub b i hb)
  rw[r0 b (old b i hb)]at a1;cases a1
  rw[ho]at a3;cases a3
  exact k2.own b i q1 hb a4 (a5 hw)
 ·intro b i o'' hb ho hw
  obtain⟨c,p1,q1,a1,a2,a3,a4,_,_,a6⟩:=obj b i (sub b i hb)
  rw[r0 b (old b i hb)]at a1;cases a1
  rw[ho]at a3;cases a3
  exact k2.live b i q1 hb a4 (a6 hw)
 ·rcases rv with⟨rfl,hst⟩|hrv
  ·obtain⟨x,hx⟩:=hst σ w args' hr ha
   exact(k3.meet hx).mono meet_le
  ·exact hrv.via k3
theorem NV.plain{ρ:Nat->Option Nat}{v:Value}(h:Aca v=true):NV ρ v v:=by
 unfold Aca at h
 split at h<;>first|constructor|cases h
theorem NL.plain{ρ:Nat->Option Nat}:∀{l:List Value},l.all Aca=true->NL ρ l l
 |[],_=>.nil
 |v::l,h=>by
  simp only[List.all_cons,Bool.and_eq_true]at h
  exact .cons (NV.plain h.1) (NL.plain h.2)
theorem NL.get{ρ:Nat->Option Nat}{l l':List Value}(h:NL ρ l l'):∀(i:Nat) (a:i<l.length) (b:i<l'.length),NV ρ l[i] l'[i]:=by
 induction h with
 |nil=>intro i a;simp at a
 |cons h _ ih=>
  intro i a b
  cases i with
  |zero=>exact h
  |succ i=>exact ih i (by simpa using a) (by simpa using b)
theorem NV.agg_of{ρ:Nat->Option Nat}{l l':List Value}(h:NL ρ l l'):NV ρ (.agg l.toArray) (.agg l'.toArray):=
 .agg _ _ (by simpa using h.length) (fun i a b=>by simpa using h.get i (by simpa using a) (by simpa using b))
theorem NV.tuple_of{ρ:Nat->Option Nat}{l l':List Value}(h:NL ρ l l'):NV ρ (.tuple l.toArray) (.tuple l'.toArray):=
 .tuple _ _ (by simpa using h.length) (fun i a b=>by simpa using h.get i (by simpa using a) (by simpa using b))
def rho(n:Nat)(bs:List Nat):Nat->Option Nat:=fun b=>if b<n then some b else bs[b-n]?
theorem Azc{n:Nat}{bs:List Nat}{b:Nat}(h:b<n):rho n bs b=some b:=by unfold rho;rw[if_pos h]
theorem Aaq.gc0(h:Aaq P ng f args H v H')(k:Aac H H')(hv:A2t ng args H v\/NV (rho H.n []) v v):Aaq P ng f args H v H:=by
 refine h.gc (rho H.n []) (Nat.le_refl _) (fun b hb=>Azc hb) ?_ ?_ ?_ ?_
 ·intro b c hb
  unfold rho at hb
  split at hb
  ·cases hb;exact⟨by assumption,by omega⟩
  ·simp at hb
 ·intro b1 b2 c h1 h2
  unfold rho at h1 h2
  split at h1<;>split at h2<;>simp_all
 ·intro b c o' hb ho
  unfold rho at hb
  split at hb
  ·rename_i hlt
   cases hb
   have:=k.get b hlt
   rw[ho]at this
   exact .inl ⟨rfl,hlt,this.symm,this.symm⟩
  ·simp at hb
 ·rcases hv with hv|hv
  ·exact .inl ⟨rfl,hv⟩
  ·exact .inr hv
section
variable {KF:List Value->Aaa->Prop} {fr tm:List Value} {tr:List TE} {K:Aaa}
end
theorem gcb{P:Program}{ng:Nat}{f:FuncId}{xs:List Value}{H:Aaa}{b:Bool}(h:∃w H',Aaq P ng f xs H w H'/\w=.bool b/\Aac H H'):∃w H',Aaq P ng f xs H w H'/\w=.bool b/\H'=H:=by
 obtain⟨_,_,a,rfl,k⟩:=h
 exact⟨_,_,a.gc0 k (.inr (.bool _)),rfl,rfl⟩
def WR(H:Aaa)(e esz:Nat)(v:Value)(n:Nat)(c:List Value):Prop:=
 (v=.slice none 0 0/\n=0/\c=[])\/∃b k room d,v=slc b 0 n k/\n<=k/\d.length=k*esz/\d.take (n*esz)=c/\H.get b=some (.cells true room esz d e)
section
variable {H H':Aaa} {e esz:Nat} {v:Value} {n:Nat} {c:List Value}
theorem AP.wr(h:AP H e esz v n c):WR H e esz v n c:=by
 rcases h with h|⟨b,room,rfl,h1,h2⟩
 ·exact .inl h
 ·exact .inr ⟨b,n,room,c,rfl,Nat.le_refl _,h1,by rw[<-h1,List.take_length],h2⟩
theorem WR.elems(h:WR H e esz v n c):Abf H esz v=some c:=by
 rcases h with⟨rfl,rfl,rfl⟩|⟨b,k,room,d,rfl,h1,h2,rfl,h4⟩
 ·rfl
 ·have:=Nat.mul_le_mul_right esz h1
  simp only[Abf,slc,h4]
  rw[if_pos (by omega),List.drop_zero]
theorem WR.shape(h:WR H e esz v n c):∃a k,v=.slice a n k:=by
 rcases h with⟨rfl,rfl,rfl⟩|⟨b,k,room,d,rfl,h1,h2,h3,h4⟩
 ·exact⟨_,_,rfl⟩
 ·exact⟨_,_,rfl⟩
theorem WR.is(h:WR H e esz v n c):isS v=true:=by obtain⟨a,k,rfl⟩:=h.shape;rfl
theorem WR.lt(h:WR H e esz v n c){b:Nat}(hb:blk v=some b):b<H.n:=by
 rcases h with⟨rfl,rfl,rfl⟩|⟨b',k,room,d,rfl,h1,h2,h3,h4⟩
 ·cases hb
 ·cases hb;exact Aaa.Bfg h4
theorem WR.chg{S:List Nat}(h:WR H e esz v n c)(k:Chg S H H')(hS:∀x∈Ahp v,x∉S):WR H' e esz v n c:=by
 rcases h with h|⟨b,m,room,d,rfl,h1,h2,h3,h4⟩
 ·exact .inl h
 ·exact .inr ⟨b,m,room,d,rfl,h1,h2,h3,k.at_ h4 (hS b (Abu.2 rfl))⟩
theorem WR.keeps(h:WR H e esz v n c)(k:Aac H H'):WR H' e esz v n c:=h.chg (k.chg []) (by simp)
theorem WR.sl{rows:List (List Value)}(h:WR H e esz v n rows.flatten)(hr:∀r∈rows,r.length=esz)(hn:n=rows.length):Sl H esz v rows:=by
 obtain⟨a,k,rfl⟩:=h.shape
 exact⟨⟨a,k,by rw[hn]⟩,hr,h.elems⟩
theorem WR.app{bytes m:Nat}{news:List Value}(h:WR H e esz v n c)(hm:news.length=m*esz)(hs:(n+m)*bytes<=140737488355328/\n+m<=140737488355328):
 ∃v' H',Ajd H e esz bytes v m news=some (v',H')/\WR H' e esz v' (n+m) (c++news)/\Chg (Ahp v) H H'/\(blk v'=blk v\/blk v'=some H.n):=by
 rcases h with⟨rfl,rfl,rfl⟩|⟨b,k,room,d,rfl,h1,h2,h3,h4⟩
 ·obtain⟨v',H',a,b,d⟩:=AP.app (H:=H) (e:=e) (esz:=esz) (v:=.slice none 0 0) (n:=0) (c:=[]) (.inl ⟨rfl,rfl,rfl⟩) hm hs
  exact⟨v',H',a,b.wr,d⟩
 ·simp only[Ajd,slc]
  by_cases hm0:m=0
  ·subst hm0
   have:news=[]:=by rw[<-List.length_eq_zero_iff];omega
   subst this
   rw[if_pos rfl]
   exact⟨_,_,rfl,.inr ⟨b,k,room,d,rfl,h1,h2,by simpa using h3,h4⟩,Chg.refl _ _,.inl rfl⟩
  ·have hle:=Nat.mul_le_mul_right esz h1
   have hc:c.length=n*esz:=by rw[<-h3,List.length_take,h2];omega
   have hnm:(n+m)*esz=n*esz+m*esz:=Nat.add_mul _ _ _
   rw[if_neg hm0,if_pos hs]
   simp only[h4,true_and]
   rw[if_pos (show 0+k*esz<=d.length by omega)]
   by_cases hk:n+m<=k
   ·have hle2:=Nat.mul_le_mul_right esz hk
    rw[if_pos hk]
    simp only[if_true]
    refine⟨_,_,rfl,.inr ⟨b,k,room,_,rfl,hk,?_,?_,Aaa.Bfe h4 _⟩,Chg.set H (Aaa.Bfg h4) _,.inl rfl⟩
    ·rw[List.length_append,List.length_append,List.length_take,List.length_drop,hm];omega
    ·rw[Nat.zero_add,h3,List.take_append_of_le_length (by rw[List.length_append,hc,hm];omega),List.take_of_length_le (by rw[List.length_append,hc,hm];omega)]
   ·rw[if_neg hk,List.drop_zero,h3]
    have hlen:(c++news).length=(n+m)*esz:=by rw[List.length_append,hc,hm,Nat.add_mul]
    split
    ·exact⟨_,_,rfl,.inr ⟨H.n,n+m,true,_,rfl,Nat.le_refl _,hlen,by rw[<-hlen,List.take_length],Aaa.Bfd H _⟩,(Chg.refl _ _).alloc _,.inr rfl⟩
    ·exact⟨_,_,rfl,.inr ⟨H.n,n+m,true,_,rfl,Nat.le_refl _,hlen,by rw[<-hlen,List.take_length],Aaa.Bfd (H.set b .dead) _⟩,(Chg.set H (Aaa.Bfg h4) _).alloc _,.inr rfl⟩
end
section
variable {P:Program} {ng:Nat} {H:Aaa} {KF:List Value->Aaa->Prop} {fr tm:List Value} {tr:List TE} {e esz:Nat} {v:Value} {n:Nat} {c:List Value}
theorem WR.appR{d:D}{r:List Aa7}{bytes:Nat}{x:Value}{m:Nat}{news:List Value}(h:WR H e esz v n c)(hx:∃a k,x=.slice a m k)(h1:Abf H esz x=some news)(hm:news.length=m*esz)
 (hs:(n+m)*bytes<=140737488355328/\n+m<=140737488355328)
 (hk:∀v' H',WR H' e esz v' (n+m) (c++news)->Chg (Ahp v) H H'->(blk v'=blk v\/blk v'=some H.n)->RW P ng r (d.frame v' fr) (d.temps v' tm) H' KF):goR P ng (Aak (.app e esz bytes v x) H) d r fr tm KF:=by
 obtain⟨v',H',e1,e2,e3,e4⟩:=h.app (bytes:=bytes) hm hs
 obtain⟨a,k,rfl⟩:=hx
 refine⟨v',H',?_,hk v' H' e2 e3 e4⟩
 simp only[Aak,h1];exact e1
end
def Aeu:Nat->Ab8->Ab8
 |0,_=>.skip
 |1,.seq a _=>a
 |n+2,.seq a b=>.seq a (Aeu (n+1) b)
 |_+1,c=>c
def Ab1:Nat->Ab8->Ab8
 |0,c=>c
 |n+1,.seq _ b=>Ab1 n b
 |_+1,_=>.skip
def cok:Nat->Ab8->Bool
 |0,_=>false
 |1,.seq _ _=>true
 |n+2,.seq _ b=>cok (n+1) b
 |_+1,_=>false
variable {P:Program} {ng:Nat} {H:Aaa} {Q:AQ} {fr:List Value}
theorem At4(Q:AQ)(K K':List Value->Aaa->Prop):(Q.andThen K).andThen K'=Q.andThen K':=by
 funext e fr H
 cases e<;>rfl
theorem Bbi:∀(n:Nat) (c:Ab8) (Q:AQ) (fr:List Value) (H:Aaa),cok n c=true->W P ng c Q fr H=W P ng (Aeu n c) (Q.andThen (W P ng (Ab1 n c) Q)) fr H
 |0,c,Q,fr,H,h=>by simp[cok]at h
 |1,c,Q,fr,H,h=>by
  cases c<;>simp[cok]at h
  rfl
 |n+2,c,Q,fr,H,h=>by
  cases c<;>simp[cok]at h
  rename_i a b
  simp only[Aeu,Ab1,A23]
  rw[At4]
  congr 1
  funext e fr H
  cases e
  ·exact Bbi (n+1) b Q fr H h
  all_goals rfl
theorem Aco{c:Ab8}(n:Nat)(M:List Value->Aaa->Prop)(hok:cok n c=true)
 (h1:∀Q':AQ,(∀fr H,M fr H->Q' .normal fr H)->(∀i fr H,Q (.exit i) fr H->Q' (.exit i) fr H)->(∀fr H,Q .ret fr H->Q' .ret fr H)->W P ng (Aeu n c) Q' fr H)
 (h2:∀fr H,M fr H->W P ng (Ab1 n c) Q fr H):W P ng c Q fr H:=by
 rw[Bbi n c Q fr H hok]
 exact h1 _ (fun fr H h=>h2 fr H h) (fun _ _ _ h=>h) (fun _ _ h=>h)
section
variable {P:Program} {ng:Nat} {H:Aaa} {Q:AQ} {fr tm:List Value}
theorem An0(l:List UInt8):(⟨l.toArray⟩:ByteArray).size=l.length:=by simp[ByteArray.size]
theorem Abs(b:Nat)(xs:List Value)(d:D)(r:List Aa7)(KF:List Value->Aaa->Prop):stR P ng (.callv (.chan (some b)) xs) d r fr tm H KF=∃v H',Aej P ng b xs H v H'/\RW P ng r (d.frame v fr) (d.temps v tm) H' KF:=_root_.id rfl
theorem Aem{b:Nat}{xs:List Value}{R K:Value->Aaa->Prop}(h:∃v H',Aej P ng b xs H v H'/\R v H')(k:∀v H',R v H'->K v H'):∃v H',Aej P ng b xs H v H'/\K v H':=by
 obtain⟨v,H',h1,h2⟩:=h;exact⟨v,H',h1,k v H' h2⟩
end
end Go.AM
namespace Go.AM.Fd
open Nat (reduceAdd reduceEqDiff reduceLT reduceLeDiff reduceMul reduceSub)
open Go.Proofs Go.AM.F
def Ame(l:List UInt8)(p:Nat):Nat×Nat:=Utf8.decode ⟨l.toArray⟩ p
theorem Ah6{l:List UInt8}{p:Nat}:1<=(Ame l p).2 :=by
 unfold Ame Utf8.decode
 repeat' split
 all_goals (first|omega|(simp only[];repeat' split))
 all_goals first|omega|(dsimp only[];repeat' split)
 all_goals omega
def A07(l:List UInt8):Nat->Nat->List (Nat×Int)
 |0,_=>[]
 |k+1,p=>if p<l.length then(p,((Ame l p).1 :Int))::A07 l k (p+(Ame l p).2)else[]
theorem Aix{l:List UInt8}:∀{k p:Nat},l.length-p<=k->A07 l k p=A07 l (l.length-p) p
 |0,p,h=>by rw[show l.length-p=0 by omega]
 |k+1,p,h=>by
  by_cases hp:p<l.length
  ·obtain⟨m,hm⟩:∃m,l.length-p=m+1:=⟨l.length-p-1,by omega⟩
   have h1:=Ah6 (l:=l) (p:=p)
   rw[hm]
   simp only[A07,if_pos hp]
   rw[Aix (k:=k) (by omega),Aix (k:=m) (by omega)]
  ·rw[show l.length-p=0 by omega]
   simp[A07,hp]
def Ala(l:List UInt8)(p:Nat):List (Nat×Int):=A07 l (l.length-p) p
theorem Alw{l:List UInt8}{p:Nat}(h:p<l.length):Ala l p=(p,((Ame l p).1 :Int))::Ala l (p+(Ame l p).2):=by
 obtain⟨m,hm⟩:∃m,l.length-p=m+1:=⟨l.length-p-1,by omega⟩
 have h1:=Ah6 (l:=l) (p:=p)
 unfold Ala
 rw[hm]
 simp only[A07,if_pos h]
 rw[Aix (k:=m) (by omega)]
theorem Aol{l:List UInt8}{p:Nat}(h:¬p<l.length):Ala l p=[]:=by
 unfold Ala
 rw[show l.length-p=0 by omega]
 rfl
theorem Ax8{H:Aaa}(l:List UInt8):Aak (.rng (.string ⟨l.toArray⟩)) H=some (ptr H.n 0,H.alloc (.obj true (.stringIter ⟨l.toArray⟩ 0))):=rfl
theorem Asx{H:Aaa}{b p:Nat}{l:List UInt8}(hg:H.get b=some (.obj true (.stringIter ⟨l.toArray⟩ p)))(h:p<l.length):
 Aak (.next (ptr b 0)) H=some (.tuple #[.bool true,.int .i64 (p:Int),.int .i32 ((Ame l p).1 :Int)],H.set b (.obj true (.stringIter ⟨l.toArray⟩ (p+(Ame l p).2)))):=by
 simp only[Aak,ptr,hg,An0]
 rw[if_pos h]
 rfl
theorem Asy{H:Aaa}{b p:Nat}{l:List UInt8}(hg:H.get b=some (.obj true (.stringIter ⟨l.toArray⟩ p)))(h:¬p<l.length):Aak (.next (ptr b 0)) H=some (.tuple #[.bool false],H):=by
 simp only[Aak,ptr,hg,An0]
 rw[if_neg h]
def sgn(r:Int):Bool:=decide (33<=r)&&(decide (r<127)||decide (160<r))&&r != 58&&r != 35&&r != 43&&r != 45&&r != 65533
theorem t110(H:Aaa)(r:Int):∃w H',Aaq Tryz.prog 0 110 [.int .i32 r] H w H'/\w=.bool (sgn r)/\H'=H:=by
 refine Aam Aty ?_
 intro Q hq1 hq2
 by_cases h1:33<=r
 ·by_cases h2:r=58
  ·subst h2;simp(disch:=first|assumption|omega)only[Aty,P4,seval];exact hq2 _ _ ⟨_,rfl,rfl,rfl⟩
  by_cases h3:r=35
  ·subst h3;simp(disch:=first|assumption|omega)only[Aty,P4,seval];exact hq2 _ _ ⟨_,rfl,rfl,rfl⟩
  by_cases h4:r=43
  ·subst h4;simp(disch:=first|assumption|omega)only[Aty,P4,seval];exact hq2 _ _ ⟨_,rfl,rfl,rfl⟩
  by_cases h5:r=45
  ·subst h5;simp(disch:=first|assumption|omega)only[Aty,P4,seval];exact hq2 _ _ ⟨_,rfl,rfl,rfl⟩
  by_cases h6:r=65533
  ·subst h6;simp(disch:=first|assumption|omega)only[Aty,P4,seval];exact hq2 _ _ ⟨_,rfl,rfl,rfl⟩
  by_cases h7:r<127
  ·simp(disch:=first|assumption|omega)only[Aty,P4,seval]
   exact hq2 _ _ ⟨_,rfl,by simp[sgn,Ae8,h1,h2,h3,h4,h5,h6,h7],rfl⟩
  ·by_cases h8:160<r
   ·simp(disch:=first|assumption|omega)only[Aty,P4,seval]
    exact hq2 _ _ ⟨_,rfl,by simp[sgn,Ae8,h1,h2,h3,h4,h5,h6,h7,h8],rfl⟩
   ·simp(disch:=first|assumption|omega)only[Aty,P4,seval]
    exact hq2 _ _ ⟨_,rfl,by simp[sgn,Ae8,h1,h2,h3,h4,h5,h6,h7,h8],rfl⟩
 ·simp(disch:=first|assumption|omega)only[Aty,P4,seval]
  exact hq2 _ _ ⟨_,rfl,by simp[sgn,Ae8,h1],rfl⟩
theorem t122(H:Aaa)(r:Int):∃w H',Aaq Tryz.prog 0 122 [.int .i32 r] H w H'/\w=.bool (sgn r)/\H'=H:=by
 refine Aam Atx ?_
 intro Q hq1 hq2
 by_cases h1:r<33
 ·simp(disch:=first|assumption|omega)only[Atx,P4,seval]
  exact hq2 _ _ ⟨_,rfl,by simp[sgn,Ae8,show¬33<=r by omega],rfl⟩
 have h1':33<=r:=by omega
 by_cases h2:r=58
 ·subst h2;simp(disch:=first|assumption|omega)only[Atx,P4,seval];exact hq2 _ _ ⟨_,rfl,rfl,rfl⟩
 by_cases h3:r=35
 ·subst h3;simp(disch:=first|assumption|omega)only[Atx,P4,seval];exact hq2 _ _ ⟨_,rfl,rfl,rfl⟩
 by_cases h4:r=43
 ·subst h4;simp(disch:=first|assumption|omega)only[Atx,P4,seval];exact hq2 _ _ ⟨_,rfl,rfl,rfl⟩
 by_cases h5:r=45
 ·subst h5;simp(disch:=first|assumption|omega)only[Atx,P4,seval];exact hq2 _ _ ⟨_,rfl,rfl,rfl⟩
 by_cases h6:r=65533
 ·subst h6;simp(disch:=first|assumption|omega)only[Atx,P4,seval];exact hq2 _ _ ⟨_,rfl,rfl,rfl⟩
 by_cases h7:127<=r
 ·by_cases h8:r<=160
  ·simp(disch:=first|assumption|omega)only[Atx,P4,seval]
   exact hq2 _ _ ⟨_,rfl,by simp[sgn,Ae8,h1',h2,h3,h4,h5,h6,show¬r<127 by omega,show¬160<r by omega],rfl⟩
  ·simp(disch:=first|assumption|omega)only[Atx,P4,seval]
   exact hq2 _ _ ⟨_,rfl,by simp[sgn,Ae8,h1',h2,h3,h4,h5,h6,show¬r<127 by omega,show 160<r by omega],rfl⟩
 ·simp(disch:=first|assumption|omega)only[Atx,P4,seval]
  exact hq2 _ _ ⟨_,rfl,by simp[sgn,Ae8,h1',h2,h3,h4,h5,h6,show r<127 by omega],rfl⟩
def Acq(l:List UInt8):Bool:=(Ala l 0).all (fun x=>sgn x.2)&&decide (1<=(Ala l 0).length)&&decide ((Ala l 0).length<=16)
theorem t93(H:Aaa)(l:List UInt8)(hl:l.length<=9223372036854775807):∃w H',Aaq Tryz.prog 0 93 [.string ⟨l.toArray⟩] H w H'/\w=.bool (Acq l)/\H'=H:=by
 suffices h:∃w H',Aaq Tryz.prog 0 93 [.string ⟨l.toArray⟩] H w H'/\w=.bool (Acq l)/\Aac H H' by
  obtain⟨_,_,a,rfl,k⟩:=h
  exact⟨_,_,a.gc0 k (.inr (.bool _)),rfl,rfl⟩
 refine Aam f93 ?_
 intro Q hq1 hq2
 simp(disch:=first|assumption|omega)only[f93,P3,seval,Aah,Aao,Ax8]
 rw[Aag]
 refine Aal (fun k fr K=>∃p n x1 x3 x5 x6 x7,fr=[.string ⟨l.toArray⟩,x1,.int .i64 ((n:Nat):Int),x3,ptr H.n 0,x5,x6,x7]/\K.get H.n=some (.obj true (.stringIter ⟨l.toArray⟩ p))/\Aac H K∧
  Acq l=((Ala l p).all (fun x=>sgn x.2)&&decide (1<=n+(Ala l p).length)&&decide (n+(Ala l p).length<=16))/\n<=p/\k=l.length-p) l.length
  ⟨0,0,_,_,_,_,_,rfl,Aaa.Bfd _ _,(Aac.refl H).alloc _,by simp[Acq],Nat.le_refl _,rfl⟩ ?_
 rintro Q' k fr K ⟨p,n,x1,x3,x5,x6,x7,rfl,hg,hk,hr,hnp,rfl⟩ hn hx hret
 by_cases hp:p<l.length
 ·have hstep:=Alw hp
  have hpos:=Ah6 (l:=l) (p:=p)
  simp(disch:=first|assumption|omega)only[P4,seval,Asx hg hp]
  refine Aae (t122 _ _) ?_
  rintro _ K2 ⟨rfl,rfl⟩
  cases hs:sgn ((Ame l p).1 :Int)with
  |false=>
   simp(disch:=first|assumption|omega)only[P4,seval]
   refine hret _ _ (hq2 _ _ ⟨_,rfl,?_,?_⟩)
   ·rw[hr,hstep];simp[hs];rfl
   ·exact hk.set (Nat.le_refl _) (Aaa.Bfg hg) _
  |true=>
   have hw:=wrS (i:=n) (by omega)
   simp(disch:=first|assumption|omega)only[P4,seval,hw]
   refine hn _ _ _ ⟨p+(Ame l p).2,n+1,_,_,_,_,_,rfl,Aaa.Bfe hg _,hk.set (Nat.le_refl _) (Aaa.Bfg hg) _,?_,by omega,rfl⟩ (by omega)
   rw[hr,hstep]
   simp only[List.all_cons,hs,Bool.true_and,List.length_cons,show n+((Ala l (p+(Ame l p).2)).length+1)=n+1+(Ala l (p+(Ame l p).2)).length by omega]
 ·have hend:=Aol hp
  simp(disch:=first|assumption|omega)only[P4,seval,Asy hg hp]
  refine hx 0 _ _ ?_
  rw[hend]at hr
  simp only[List.all_nil,Bool.true_and,List.length_nil,Nat.add_zero]at hr
  by_cases h1:1<=n
  ·have h1':(1:Int)<=(n:Int):=by omega
   simp(disch:=first|assumption|omega)only[P4,seval]
   refine hq2 _ _ ⟨_,rfl,?_,hk⟩
   rw[hr]
   simp only[Ae8,List.getD_cons_succ,List.getD_cons_zero,h1,decide_true,Bool.true_and]
   congr 1
   rw[decide_eq_decide];omega
  ·have h1':¬(1:Int)<=(n:Int):=by omega
   simp(disch:=first|assumption|omega)only[P4,seval]
   refine hq2 _ _ ⟨_,rfl,?_,hk⟩
   rw[hr]
   simp only[Ae8,List.getD_cons_succ,List.getD_cons_zero,h1,decide_false,Bool.false_and]
theorem t79(H:Aaa)(l:List UInt8)(hl:l.length<=9223372036854775807):∃w H',Aaq Tryz.prog 0 79 [.string ⟨l.toArray⟩] H w H'/\w=.bool (Acq l)/\H'=H:=by
 suffices h:∃w H',Aaq Tryz.prog 0 79 [.string ⟨l.toArray⟩] H w H'/\w=.bool (Acq l)/\Aac H H' by
  obtain⟨_,_,a,rfl,k⟩:=h
  exact⟨_,_,a.gc0 k (.inr (.bool _)),rfl,rfl⟩
 refine Aam f79 ?_
 intro Q hq1 hq2
 simp(disch:=first|assumption|omega)only[f79,P3,seval,Aah,Aao,Ax8]
 rw[Aag]
 refine Aal (fun k fr K=>∃p n x1 x3 x5 x6 x7,fr=[.string ⟨l.toArray⟩,x1,.int .i64 ((n:Nat):Int),x3,ptr H.n 0,x5,x6,x7]/\K.get H.n=some (.obj true (.stringIter ⟨l.toArray⟩ p))/\Aac H K∧
  Acq l=((Ala l p).all (fun x=>sgn x.2)&&decide (1<=n+(Ala l p).length)&&decide (n+(Ala l p).length<=16))/\n<=p/\k=l.length-p) l.length
  ⟨0,0,_,_,_,_,_,rfl,Aaa.Bfd _ _,(Aac.refl H).alloc _,by simp[Acq],Nat.le_refl _,rfl⟩ ?_
 rintro Q' k fr K ⟨p,n,x1,x3,x5,x6,x7,rfl,hg,hk,hr,hnp,rfl⟩ hn hx hret
 by_cases hp:p<l.length
 ·have hstep:=Alw hp
  have hpos:=Ah6 (l:=l) (p:=p)
  simp(disch:=first|assumption|omega)only[P4,seval,Asx hg hp]
  refine Aae (t110 _ _) ?_
  rintro _ K2 ⟨rfl,rfl⟩
  cases hs:sgn ((Ame l p).1 :Int)with
  |false=>
   simp(disch:=first|assumption|omega)only[P4,seval]
   refine hret _ _ (hq2 _ _ ⟨_,rfl,?_,?_⟩)
   ·rw[hr,hstep];simp[hs];rfl
   ·exact hk.set (Nat.le_refl _) (Aaa.Bfg hg) _
  |true=>
   have hw:=wrS (i:=n) (by omega)
   simp(disch:=first|assumption|omega)only[P4,seval,hw]
   refine hn _ _ _ ⟨p+(Ame l p).2,n+1,_,_,_,_,_,rfl,Aaa.Bfe hg _,hk.set (Nat.le_refl _) (Aaa.Bfg hg) _,?_,by omega,rfl⟩ (by omega)
   rw[hr,hstep]
   simp only[List.all_cons,hs,Bool.true_and,List.length_cons,show n+((Ala l (p+(Ame l p).2)).length+1)=n+1+(Ala l (p+(Ame l p).2)).length by omega]
 ·have hend:=Aol hp
  simp(disch:=first|assumption|omega)only[P4,seval,Asy hg hp]
  refine hx 0 _ _ ?_
  rw[hend]at hr
  simp only[List.all_nil,Bool.true_and,List.length_nil,Nat.add_zero]at hr
  by_cases h1:1<=n
  ·have h1':(1:Int)<=(n:Int):=by omega
   simp(disch:=first|assumption|omega)only[P4,seval]
   refine hq2 _ _ ⟨_,rfl,?_,hk⟩
   rw[hr]
   simp only[Ae8,List.getD_cons_succ,List.getD_cons_zero,h1,decide_true,Bool.true_and]
   congr 1
   rw[decide_eq_decide];omega
  ·have h1':¬(1:Int)<=(n:Int):=by omega
   simp(disch:=first|assumption|omega)only[P4,seval]
   refine hq2 _ _ ⟨_,rfl,?_,hk⟩
   rw[hr]
   simp only[Ae8,List.getD_cons_succ,List.getD_cons_zero,h1,decide_false,Bool.false_and]
def Akz(t:List UInt8):List Value:=[.string ⟨t.toArray⟩]
def TL(H:Aaa)(v:Value)(ts:List (List UInt8)):Prop:=Sl H 1 v (ts.map Akz)
theorem TL.len{H:Aaa}{v:Value}{ts:List (List UInt8)}(h:TL H v ts):Ab9 v=ts.length:=by
 have:=Sl.len h;simpa using this
theorem TL.at_{H:Aaa}{v:Value}{ts:List (List UInt8)}(h:TL H v ts){i:Nat}(hi:i<ts.length):nnS v=true/\Afs H 1 v i=some (Akz (ts.getD i [])):=by
 have:=Sl.at_ h (by omega) (i:=i) (by simpa using hi)
 refine⟨this.1,?_⟩
 rw[this.2]
 simp[List.getD,List.getElem?_eq_getElem hi]
theorem TL.keeps{H K:Aaa}{v:Value}{ts:List (List UInt8)}(h:TL H v ts)(k:Aac H K):TL K v ts:=Sl.keeps h k
end Go.AM.Fd
namespace Go.AM
section
variable {P:Program} {ng:Nat} {H:Aaa} {Q:AQ} {fr tm:List Value} {KF:List Value->Aaa->Prop} {tr:List TE}
variable (d:D) (r:List Aa7) (un:List Nat) (rd:List (Aa7×List Nat))
theorem Anu:stR P ng (.mkmap) d r fr tm H KF=goR P ng (Aak .mkmap H) d r fr tm KF:=Abq d r (by simp) (by simp) (by simp)
theorem Ae0(k:TypeDesc)(z:Value)(ok:Bool)(x y:Value):stR P ng (.mget k z ok x y) d r fr tm H KF=goR P ng (Aak (.mget k z ok x y) H) d r fr tm KF:=Abq d r (by simp) (by simp) (by simp)
theorem Aqv(k:TypeDesc)(x y v:Value):stR P ng (.mset k x y v) d r fr tm H KF=goR P ng (Aak (.mset k x y v) H) d r fr tm KF:=Abq d r (by simp) (by simp) (by simp)
theorem Akm(e esz b:Nat)(z:List Value)(s x:Value):stR P ng (.appz e esz b z s x) d r fr tm H KF=goR P ng (Aak (.appz e esz b z s x) H) d r fr tm KF:=Abq d r (by simp) (by simp) (by simp)
theorem Anv(x:Value):stR P ng (.cap x) d r fr tm H KF=goR P ng (Aak (.cap x) H) d r fr tm KF:=Abq d r (by simp) (by simp) (by simp)
end
section
variable {H:Aaa}
theorem Aqw:Aak .mkmap H=some (.map (some H.n),H.alloc (.obj true (.map #[] 0))):=_root_.id rfl
theorem Anw:Aak (.cap (.slice none 0 0)) H=some (.int .i64 0,H):=_root_.id rfl
end
theorem Aqx(a:Option Nat):(Value.map a).cells.toList=[.map a]:=_root_.id rfl
structure Enc (d:TypeDesc) {κ:Type} [DecidableEq κ] (enc:κ->Value):Prop where
 same:∀a b,Instr.sameNow d (enc a) (enc b)=some (decide (a=b))
 key:∀a,Ayz d (enc a)=true
theorem Awr:Enc (.int .i64) (fun n:Int=>.int .i64 n):=⟨fun a b=>by
 show(if IntKind.i64=IntKind.i64 then some (a==b)else none)=_
 rw[if_pos rfl]
 by_cases h:a=b<;>simp[h],fun a=>rfl⟩
theorem A2y:Enc .string (fun l:List UInt8=>.string ⟨l.toArray⟩):=⟨fun a b=>by
 show some ((⟨a.toArray⟩:ByteArray)==⟨b.toArray⟩)=_
 have h:((⟨a.toArray⟩:ByteArray)==⟨b.toArray⟩)=true↔a=b:=by
  rw[MapKept.bytes_beq]
  constructor
  ·intro h;cases h;rfl
  ·rintro rfl;rfl
 by_cases e:a=b
 ·rw[h.2 e];simp[e]
 ·have:((⟨a.toArray⟩:ByteArray)==⟨b.toArray⟩)=false:=by
   cases hb:((⟨a.toArray⟩:ByteArray)==⟨b.toArray⟩)
   ·rfl
   ·exact absurd (h.1 hb) e
  rw[this];simp[e],fun a=>rfl⟩
section
variable {κ:Type} [DecidableEq κ] {enc:κ->Value} {d:TypeDesc} {H:Aaa}
def Ady(k:κ):List (κ×Value)->Option Value
 |[]=>none
 |(a,v)::l=>if k=a then some v else Ady k l
def Amt(k:κ)(x:Value):List (κ×Value)->List (κ×Value)
 |[]=>[(k,x)]
 |(a,v)::l=>if k=a then(k,x)::l else(a,v)::Amt k x l
theorem Ajv(a k:κ)(x:Value):∀l:List (κ×Value),Ady a (Amt k x l)=if a=k then some x else Ady a l
 |[]=>by simp[Amt,Ady]
 |(b,v)::l=>by
  simp only[Amt]
  split
  ·rename_i h
   subst h
   simp only[Ady]
   split<;>rfl
  ·rename_i h
   simp only[Ady,Ajv a k x l]
   split
   ·rename_i h2
    subst h2
    rw[if_neg (fun e=>h e.symm)]
   ·rfl
theorem Akn{k:κ}{x:Value}:∀{l:List (κ×Value)},Ady k l=none->Amt k x l=l++[(k,x)]
 |[],_=>rfl
 |(a,v)::l,h=>by
  simp only[Ady]at h
  split at h
  ·cases h
  ·rename_i hk
   simp only[Amt,if_neg hk,Akn h,List.cons_append]
theorem Anx{k:κ}{x:Value}{p:κ×Value}:∀{l:List (κ×Value)},p∈Amt k x l->p∈l\/p=(k,x)
 |[],h=>by simp[Amt]at h;exact .inr h
 |(a,v)::l,h=>by
  simp only[Amt]at h
  split at h
  ·simp only[List.mem_cons]at h ⊢
   rcases h with rfl|h
   ·exact .inr rfl
   ·exact .inl (.inr h)
  ·simp only[List.mem_cons]at h ⊢
   rcases h with rfl|h
   ·exact .inl (.inl rfl)
   ·rcases Anx h with h|h
    ·exact .inl (.inr h)
    ·exact .inr h
def MP(enc:κ->Value)(H:Aaa)(b:Nat)(l:List (κ×Value)):Prop:=
 (∃es clock,H.get b=some (.obj true (.map es clock))/\es.toList.map (fun e=>(e.key,e.val))=l.map (fun p=>(enc p.1,p.2)))/\∀p∈l,A2i p.2=true
omit [DecidableEq κ]in
theorem MP.lt{b:Nat}{l:List (κ×Value)}(h:MP enc H b l):b<H.n:=by
 obtain⟨⟨es,c,h1,_⟩,_⟩:=h;exact Aaa.Bfg h1
omit [DecidableEq κ]in
theorem MP.get{H':Aaa}{b:Nat}{l:List (κ×Value)}(h:MP enc H b l)(e:H'.get b=H.get b):MP enc H' b l:=by
 obtain⟨⟨es,c,h1,h2⟩,h3⟩:=h;exact⟨⟨es,c,by rw[e];exact h1,h2⟩,h3⟩
omit [DecidableEq κ]in
theorem MP.new(H:Aaa):MP enc (H.alloc (.obj true (.map #[] 0))) H.n []:=⟨⟨#[],0,Aaa.Bfd _ _,rfl⟩,by simp⟩
theorem Aio(E:Enc d enc)(k:κ):∀(es:List MapEntry) (l:List (κ×Value)) (i:Nat),es.map (fun e=>(e.key,e.val))=l.map (fun p=>(enc p.1,p.2))→
 ∃r,Instr.findNow d (enc k) es i=some r/\r.map (·.2)=Ady k l/\∀j v,r=some (j,v)->i<=j/\∀x,((es.modify (j-i) fun e=>{e with key:=enc k,val:=x}).map (fun e=>(e.key,e.val)))=(Amt k x l).map (fun p=>(enc p.1,p.2))
 |[],l,i,h=>by
  have:l=[]:=by cases l<;>simp_all
  subst this
  exact⟨none,rfl,rfl,fun j v h=>by cases h⟩
 |e::es,l,i,h=>by
  cases l with
  |nil=>simp at h
  |cons p l=>
   obtain⟨a,v⟩:=p
   simp only[List.map_cons,List.cons.injEq,Prod.mk.injEq]at h
   obtain⟨⟨h1,h2⟩,h3⟩:=h
   by_cases hk:k=a
   ·subst hk
    refine⟨some (i,e.val),?_,by simp[Ady,h2],?_⟩
    ·unfold Instr.findNow
     rw[h1,E.same]
     simp
    ·intro j w hj
     cases hj
     refine⟨Nat.le_refl _,fun x=>?_⟩
     simp[Amt,h3]
   ·obtain⟨r,r1,r2,r3⟩:=Aio E k es l (i+1) h3
    refine⟨r,?_,by simp[Ady,hk,r2],?_⟩
    ·unfold Instr.findNow
     rw[h1,E.same]
     simp[hk,r1]
    ·intro j w hj
     obtain⟨q1,q2⟩:=r3 j w hj
     refine⟨by omega,fun x=>?_⟩
     rw[show j-i=(j-(i+1))+1 by omega]
     simp only[List.modify_succ_cons,List.map_cons,Amt,if_neg hk,q2 x,h1,h2]
def A7o(z:Value)(ok:Bool):Option Value->Value
 |some v=>if ok then .tuple #[v,.bool true]else v
 |none=>if ok then .tuple #[z,.bool false]else z
theorem Alk{k:κ}{v:Value}:∀{l:List (κ×Value)},Ady k l=some v->(k,v)∈l
 |(a,w)::l,h=>by
  simp only[Ady]at h
  split at h
  ·rename_i e;cases h;subst e;simp
  ·simp[Alk h]
theorem Aws(E:Enc d enc){b:Nat}{l:List (κ×Value)}(h:MP enc H b l)(k:κ)(z:Value)(ok:Bool):Aak (.mget d z ok (.map (some b)) (enc k)) H=some (A7o z ok (Ady k l),H):=by
 obtain⟨⟨es,c,h1,h2⟩,h3⟩:=h
 obtain⟨r,r1,r2,_⟩:=Aio E k es.toList l 0 h2
 simp only[Aak,E.key,if_true,h1,r1,<-r2]
 cases r with
 |none=>rfl
 |some p=>
  obtain⟨j,v⟩:=p
  have:A2i v=true:=h3 _ (Alk (k:=k) (by rw[<-r2];rfl))
  simp[Ap2,this,A7o]
theorem Awt(E:Enc d enc){b:Nat}{l:List (κ×Value)}(h:MP enc H b l)(k:κ){x:Value}(hx:A2i x=true):∃o,Aak (.mset d (.map (some b)) (enc k) x) H=some (undef,H.set b o)/\MP enc (H.set b o) b (Amt k x l):=by
 obtain⟨⟨es,c,h1,h2⟩,h3⟩:=h
 obtain⟨r,r1,r2,r3⟩:=Aio E k es.toList l 0 h2
 have hg:∀p∈Amt k x l,A2i p.2=true:=fun p hp=>by
  rcases Anx hp with hp|rfl
  ·exact h3 p hp
  ·exact hx
 simp only[Aak,E.key,hx,and_self,if_true,h1,r1]
 cases r with
 |none=>
  refine⟨_,rfl,⟨⟨_,_,Aaa.Bfe h1 _,?_⟩,hg⟩⟩
  rw[Akn (by rw[<-r2];rfl)]
  simp[h2]
 |some p=>
  obtain⟨j,v⟩:=p
  refine⟨_,rfl,⟨⟨_,_,Aaa.Bfe h1 _,?_⟩,hg⟩⟩
  obtain⟨_,q⟩:=r3 j v rfl
  have:=q x
  simpa using this
end
end Go.AM
namespace Go.AM.Fd
open Go.Proofs Go.AM.F
structure Ro where
 n:List UInt8
 g:Int
 path:List Int
 pts:List (Int×Bool)
 ov:List Int
 fl:List (Int×Bool)
structure Ly where
 s:List (List UInt8)
 p:List (List UInt8×Int)
 g:List (List UInt8×Int)
 r:List Ro
def Ag1(n:Int):List Value:=[.int .i64 n]
def Aft(x:Int×Bool):List Value:=[.int .i64 x.1,.bool x.2]
def Bed(x:List UInt8×Int):List Value:=[.string ⟨x.1.toArray⟩,.int .i64 x.2]
def IL(H:Aaa)(v:Value)(l:List Int):Prop:=Sl H 1 v (l.map Ag1)
def NL(H:Aaa)(v:Value)(l:List (Int×Bool)):Prop:=Sl H 2 v (l.map Aft)
def PL(H:Aaa)(v:Value)(l:List (List UInt8×Int)):Prop:=Sl H 2 v (l.map Bed)
structure RV where
 r:Ro
 vp:Value
 vq:Value
 vo:Value
 vf:Value
def RV.row(x:RV):List Value:=[.string ⟨x.r.n.toArray⟩,.int .i64 x.r.g,x.vp,x.vq,x.vo,x.vf]
structure RV.ok (H:Aaa) (x:RV):Prop where
 p:IL H x.vp x.r.path
 q:NL H x.vq x.r.pts
 o:IL H x.vo x.r.ov
 f:NL H x.vf x.r.fl
def RL(H:Aaa)(v:Value)(xs:List RV):Prop:=Sl H 6 v (xs.map RV.row)
structure V4 where
 s:Value
 p:Value
 g:Value
 r:Value
def V4.l(u:V4):List Value:=[u.s,u.p,u.g,u.r]
structure LyR (H:Aaa) (u:V4) (xs:List RV) (L:Ly):Prop where
 s:TL H u.s L.s
 p:PL H u.p L.p
 g:PL H u.g L.g
 r:RL H u.r xs
 e:xs.map (·.r)=L.r
 ok:∀x∈xs,x.ok H
section
variable {H K:Aaa} {v:Value}
theorem IL.len{l:List Int}(h:IL H v l):Ab9 v=l.length:=by have:=Sl.len h;simpa using this
theorem NL.len{l:List (Int×Bool)}(h:NL H v l):Ab9 v=l.length:=by have:=Sl.len h;simpa using this
theorem PL.len{l:List (List UInt8×Int)}(h:PL H v l):Ab9 v=l.length:=by have:=Sl.len h;simpa using this
theorem RL.len{l:List RV}(h:RL H v l):Ab9 v=l.length:=by have:=Sl.len h;simpa using this
theorem IL.keeps{l:List Int}(h:IL H v l)(k:Aac H K):IL K v l:=Sl.keeps h k
theorem NL.keeps{l:List (Int×Bool)}(h:NL H v l)(k:Aac H K):NL K v l:=Sl.keeps h k
theorem PL.keeps{l:List (List UInt8×Int)}(h:PL H v l)(k:Aac H K):PL K v l:=Sl.keeps h k
theorem RL.keeps{l:List RV}(h:RL H v l)(k:Aac H K):RL K v l:=Sl.keeps h k
theorem IL.at_{l:List Int}(h:IL H v l){i:Nat}(hi:i<l.length):nnS v=true/\Afs H 1 v i=some [.int .i64 (l.getD i 0)]:=by
 have:=Sl.at_ h (by omega) (i:=i) (by simpa using hi)
 refine⟨this.1,?_⟩
 rw[this.2];simp[List.getD,List.getElem?_eq_getElem hi,Ag1]
theorem NL.at_{l:List (Int×Bool)}(h:NL H v l){i:Nat}(hi:i<l.length):nnS v=true/\Afs H 2 v i=some [.int .i64 (l.getD i (0,false)).1,.bool (l.getD i (0,false)).2]:=by
 have:=Sl.at_ h (by omega) (i:=i) (by simpa using hi)
 refine⟨this.1,?_⟩
 rw[this.2];simp[List.getD,List.getElem?_eq_getElem hi,Aft]
theorem PL.at_{l:List (List UInt8×Int)}(h:PL H v l){i:Nat}(hi:i<l.length):nnS v=true/\Afs H 2 v i=some [.string ⟨(l.getD i ([],0)).1.toArray⟩,.int .i64 (l.getD i ([],0)).2]:=by
 have:=Sl.at_ h (by omega) (i:=i) (by simpa using hi)
 refine⟨this.1,?_⟩
 rw[this.2];simp[List.getD,List.getElem?_eq_getElem hi,Bed]
def rv0:RV:=⟨⟨[],0,[],[],[],[]⟩,.slice none 0 0,.slice none 0 0,.slice none 0 0,.slice none 0 0⟩
theorem RL.at_{l:List RV}(h:RL H v l){i:Nat}(hi:i<l.length):nnS v=true/\Afs H 6 v i=some (l.getD i rv0).row:=by
 have:=Sl.at_ h (by omega) (i:=i) (by simpa using hi)
 refine⟨this.1,?_⟩
 rw[this.2];simp[List.getD,List.getElem?_eq_getElem hi]
theorem RV.ok.keeps{x:RV}(h:x.ok H)(k:Aac H K):x.ok K:=⟨h.p.keeps k,h.q.keeps k,h.o.keeps k,h.f.keeps k⟩
theorem LyR.keeps{u:V4}{xs:List RV}{L:Ly}(h:LyR H u xs L)(k:Aac H K):LyR K u xs L:=
 ⟨h.s.keeps k,h.p.keeps k,h.g.keeps k,h.r.keeps k,h.e,fun x hx=>(h.ok x hx).keeps k⟩
theorem LyR.rlen{u:V4}{xs:List RV}{L:Ly}(h:LyR H u xs L):xs.length=L.r.length:=by rw[<-h.e];simp
theorem LyR.rat{u:V4}{xs:List RV}{L:Ly}(h:LyR H u xs L){i:Nat}(hi:i<L.r.length):(xs.getD i rv0).ok H/\(xs.getD i rv0).r=L.r.getD i rv0.r:=by
 have hi':i<xs.length:=by rw[h.rlen];exact hi
 have e:xs.getD i rv0=xs[i]:=by simp[List.getD,List.getElem?_eq_getElem hi']
 refine⟨by rw[e];exact h.ok _ (List.getElem_mem _),?_⟩
 rw[e]
 have:(xs.map (·.r))[i]'(by simpa using hi')=L.r[i]:=by
  have:=h.e
  simp only[<-this]
 simp only[List.getElem_map]at this
 rw[this];simp[List.getD,List.getElem?_eq_getElem hi]
end
end Go.AM.Fd
namespace Go.AM.F
def Bbt:TypeId->List Value
 |87=>[(.string ByteArray.empty),(.int .i64 0),(.slice none 0 0),(.slice none 0 0),(.slice none 0 0),(.slice none 0 0)]
 |175=>[(.slice none 0 0),(.slice none 0 0),(.slice none 0 0),(.slice none 0 0),(.map none)]
 |89=>[(.string ByteArray.empty),(.int .i64 0)]
 |90=>[(.string ByteArray.empty),(.int .i64 0)]
 |120=>[(.int .i64 0),(.bool false)]
 |_=>[]
def Bbu:TypeId->Value
 |_=>undef
def Bbv:TypeId->List Nat
 |_=>[]
def Bbw:Nat->TypeId->List Value
 |1,3=>[(.int .i64 0)]
 |1,9=>[(.string ByteArray.empty)]
 |_,_=>[]
structure QzD (sl:List Nat) (n:Nat) where
 p:CzV sl n:=by
  refine(fun(_:Cz Bbt Bbu Bbv Bbw Go.Proofs.Tryz.prog 0 ?sl ?n ?a)=>(CzV.mk ?a:CzV ?sl ?n)) ?h
  case h=>
  intro zc zv zk zr hc hv hk hr
  conv=>lhs;cbv;try simp only[hc,hv,hk,hr,Bbt,Bbu,Bbv,Bbw]
noncomputable def f7:=({}:QzD [0,1,2,4,5,6,7,8,9,10,20,41,63,85,109] 7).p.a
noncomputable def f61:=({}:QzD [0,1,2,3,4,5,6,7,8,9,10,11,12,13,14,15,16,42,47,48,49,50,68,69,70,71,98,99,100,101,128,129,130,131] 61).p.a
noncomputable def f94:=({}:QzD [0,1,2,6,8,18] 94).p.a
noncomputable def f95:=({}:QzD [0,1,4,6,7,8,9,10,19] 95).p.a
noncomputable def f96:=({}:QzD [0,1,4,5,6,7,8,9,10,23] 96).p.a
noncomputable def f47:=({}:QzD [0,1,2,3,4,5,6,7,8,10,16,35,40,54,59,73,78,131] 47).p.a
noncomputable def f77:=({}:QzD [0,1,2] 77).p.a
noncomputable def f78:=({}:QzD [0,1,2,3,4,5,6,15,31,47] 78).p.a
noncomputable def f80:=({}:QzD [0,1,4,5,9,17] 80).p.a
noncomputable def f81:=({}:QzD [0,1,4,5,13,28] 81).p.a
noncomputable def f82:=({}:QzD [0,2,3,4,12] 82).p.a
end Go.AM.F
namespace Go.AM.Fd
open Nat (reduceAdd reduceEqDiff reduceLT reduceLeDiff reduceMul reduceSub)
open Go.Proofs Go.AM.F
def inB(n x:Int):Bool:=decide (0<=x)&&decide (x<n)
theorem Afu{α:Type}{p:α->Bool}{l:List α}{i:Nat}{d:α}(h:i<l.length)(hp:(l.take i).all p=true)(hx:p (l.getD i d)=true):(l.take (i+1)).all p=true:=by
 rw[List.take_add_one,List.all_append,hp,List.getElem?_eq_getElem h]
 simpa[List.getD,List.getElem?_eq_getElem h]using hx
theorem Agc{α:Type}{p:α->Bool}{l:List α}{i:Nat}{d:α}(h:i<l.length)(hx:p (l.getD i d)=false):l.all p=false:=by
 rw[List.all_eq_false]
 exact⟨l[i],List.getElem_mem _,by simpa[List.getD,List.getElem?_eq_getElem h]using hx⟩
theorem t95{H:Aaa}{v:Value}{l:List Int}(n:Int)(h:IL H v l)(hl:l.length<=9223372036854775807):∃w H',Aaq Tryz.prog 0 95 [.int .i64 n,v] H w H'/\w=.bool (l.all (inB n))/\H'=H:=by
 refine Aam f95 ?_
 intro Q hq1 hq2
 have ia:=Sl.is h
 have la:=h.len
 simp(disch:=first|assumption|omega)only[f95,P3,seval,Aah,Aao,la]
 rw[Aag]
 refine Aal (fun k fr K=>∃i x3 x7 x8,fr=[.int .i64 n,v,.bool false,x3,v,.int .i64 ((l.length:Nat):Int),.int .i64 ((i:Nat):Int),x7,x8]/\K=H/\i<=l.length/\(l.take i).all (inB n)=true/\k=l.length-i) l.length
  ⟨0,_,_,_,rfl,rfl,by omega,by simp,rfl⟩ ?_
 rintro Q' k fr K ⟨i,x3,x7,x8,rfl,rfl,hi,hp,rfl⟩ hn hx hret
 by_cases hlt:i<l.length
 ·obtain⟨na,ra⟩:=h.at_ hlt
  have h0:(0:Int)<=(i:Int):=by omega
  have h1:(i:Int)<((Ab9 v:Nat):Int):=by omega
  have h3:(i:Int)<((l.length:Nat):Int):=by omega
  have hw:=wrS (i:=i) (by omega)
  have stop:inB n (l.getD i 0)=false->l.all (inB n)=false:=fun e=>Agc hlt e
  have go:inB n (l.getD i 0)=true->(l.take (i+1)).all (inB n)=true:=fun e=>Afu hlt hp e
  generalize l.getD i 0=x at*
  by_cases hx0:x<0
  ·simp(disch:=first|assumption|omega)only[P4,seval,la,ra,na,Aaj]
   refine hret _ _ (hq2 _ _ ⟨_,rfl,?_,rfl⟩)
   rw[stop (by simp[inB];omega)];rfl
  ·by_cases hxn:n<=x
   ·simp(disch:=first|assumption|omega)only[P4,seval,la,ra,na,Aaj]
    refine hret _ _ (hq2 _ _ ⟨_,rfl,?_,rfl⟩)
    rw[stop (by simp[inB];omega)];rfl
   ·simp(disch:=first|assumption|omega)only[P4,seval,la,ra,na,Aaj,hw]
    exact hn _ _ _ ⟨i+1,_,_,_,rfl,rfl,by omega,go (by simp[inB];omega),rfl⟩ (by omega)
 ·have h3:¬(i:Int)<((l.length:Nat):Int):=by omega
  simp(disch:=first|assumption|omega)only[P4,seval,la]
  refine hx 0 _ _ ?_
  simp(disch:=first|assumption|omega)only[P4,seval]
  refine hq2 _ _ ⟨_,rfl,?_,rfl⟩
  rw[List.take_of_length_le (by omega)]at hp
  rw[hp];rfl
theorem t96{H:Aaa}{v:Value}{l:List (Int×Bool)}(n:Int)(h:NL H v l)(hl:l.length<=9223372036854775807):∃w H',Aaq Tryz.prog 0 96 [v,.int .i64 n] H w H'/\w=.bool (decide (l.length<=16)&&l.all (fun x=>inB n x.1))/\H'=H:=by
 refine gcb ?_
 refine Aam f96 ?_
 intro Q hq1 hq2
 have ia:=Sl.is h
 have la:=h.len
 simp(disch:=first|assumption|omega)only[f96,P3,seval,Aah,Aao,la]
 rw[Aag]
 refine Aal (fun k fr K=>∃i x3 x4 x8 x9,fr=[v,.int .i64 n,.bool false,x3,x4,v,.int .i64 ((l.length:Nat):Int),.int .i64 ((i:Nat):Int),x8,x9]/\Aac H K/\i<=l.length/\i<=16/\(l.take i).all (fun x=>inB n x.1)=true/\k=l.length-i) l.length
  ⟨0,_,_,_,_,rfl,Aac.refl H,by omega,by omega,by simp,rfl⟩ ?_
 rintro Q' k fr K ⟨i,x3,x4,x8,x9,rfl,hk,hi,hi6,hp,rfl⟩ hn hx hret
 by_cases hlt:i<l.length
 ·obtain⟨na,ra⟩:=(h.keeps hk).at_ hlt
  have hbl:=Sl.bn_le (h.keeps hk) (by intro e;simp at e;subst e;simp at hlt) (by omega)
  have h0:(0:Int)<=(i:Int):=by omega
  have h1:(i:Int)<((Ab9 v:Nat):Int):=by omega
  have h3:(i:Int)<((l.length:Nat):Int):=by omega
  have hw:=wrS (i:=i) (by omega)
  have stop:inB n (l.getD i (0,false)).1 =false->l.all (fun x=>inB n x.1)=false:=fun e=>Agc (d:=(0,false)) hlt e
  have go:inB n (l.getD i (0,false)).1 =true->(l.take (i+1)).all (fun x=>inB n x.1)=true:=fun e=>Afu (d:=(0,false)) hlt hp e
  generalize l.getD i (0,false)=x at*
  have o1:one1 (Value.int .i64 x.1)=True:=by simp[one1,Aav]
  by_cases h6:(16:Int)<=(i:Int)
  ·simp(disch:=first|assumption|omega|(simp only[LN]<;>omega)|(simp(disch:=first|assumption|omega|(simp only[LN]<;>omega))only[Aab,Aad];assumption))only[P4,seval,la,ra,na,Aai,h6]
   refine hret _ _ (hq2 _ _ ⟨_,rfl,?_,?_⟩)
   ·have:¬l.length<=16:=by omega
    simp[Ae8,this]
   ·exact(hk.alloc _)
  ·simp(disch:=first|assumption|omega|(simp only[LN]<;>omega)|(simp(disch:=first|assumption|omega|(simp only[LN]<;>omega))only[Aab,Aad];assumption))only[P4,seval,la,ra,na,Aai,h6]
   have hk2:=(hk.alloc (.cells true false 2 [.int .i64 x.1,.bool x.2] 120)).alloc (.cells true false 1 [.int .i64 x.1] 3)
   have hil:IL ((K.alloc (.cells true false 2 [.int .i64 x.1,.bool x.2] 120)).alloc (.cells true false 1 [.int .i64 x.1] 3)) (slc (K.n+1) 0 1 1) [x.1]:=
    ⟨⟨_,_,rfl⟩,by simp[Ag1],by rw[Acc (by simp[Acd]) rfl];rfl⟩
   refine Aae (t95 n hil (by simp)) ?_
   rintro _ _ ⟨rfl,rfl⟩
   cases hb:inB n x.1 with
   |false=>
    have e:[x.1].all (inB n)=false:=by simp[hb]
    simp(disch:=first|assumption|omega)only[P4,seval,e]
    refine hret _ _ (hq2 _ _ ⟨_,rfl,?_,hk2⟩)
    rw[stop hb];simp[Ae8]
   |true=>
    have e:[x.1].all (inB n)=true:=by simp[hb]
    simp(disch:=first|assumption|omega)only[P4,seval,e,hw]
    exact hn _ _ _ ⟨i+1,_,_,_,_,rfl,hk2,by omega,by omega,go hb,rfl⟩ (by omega)
 ·have h3:¬(i:Int)<((l.length:Nat):Int):=by omega
  simp(disch:=first|assumption|omega)only[P4,seval,la]
  refine hx 0 _ _ ?_
  simp(disch:=first|assumption|omega)only[P4,seval]
  refine hq2 _ _ ⟨_,rfl,?_,hk⟩
  rw[List.take_of_length_le (by omega)]at hp
  have:l.length<=16:=by omega
  simp[Ae8,hp,this]
def A5o(l:List UInt8):Value:=.string ⟨l.toArray⟩
theorem Ax5:Enc .string A5o:=A2y
theorem Ahc{k:List UInt8}:∀{M:List (List UInt8×Value)},Ady k M=none↔k∉M.map (·.1)
 |[]=>by simp[Ady]
 |(a,v)::M=>by
  simp only[Ady,List.map_cons,List.mem_cons,not_or]
  split
  ·rename_i e;simp[e]
  ·rename_i e;rw[Ahc (M:=M)];simp[e]
theorem t94{H:Aaa}{b mb T:Nat}{own room:Bool}{c:List Value}{M:List (List UInt8×Value)}(hb:H.get b=some (.cells own room 5 c T))(hc:c[4]? =some (.map (some mb)))(hm:MP A5o H mb M)(n:List UInt8){x:Value}(hx:A2i x=true):
 ∃w H',Aaq Tryz.prog 0 94 [ptr b 0,.string ⟨n.toArray⟩,x] H w H'/\w=.bool (Ady n M).isNone/\Chg [mb] H H'/\MP A5o H' mb (if(Ady n M).isNone then M++[(n,x)]else M):=by
 refine Aam f94 ?_
 intro Q hq1 hq2
 have g:=Aws Ax5 hm n .nilIface true
 obtain⟨o,s1,s2⟩:=Awt Ax5 hm n hx
 simp only[A5o]at g s1
 cases hf:Ady n M with
 |some y=>
  rw[hf]at g
  simp only[A7o,if_true]at g
  simp(disch:=first|assumption|omega)only[f94,P4,seval,hb,hc,Ae0,g]
  refine hq2 _ _ ⟨_,rfl,by simp[Ae8,hf],Chg.refl _ _,by simpa[hf]using hm⟩
 |none=>
  rw[hf]at g
  simp only[A7o,if_true]at g
  simp(disch:=first|assumption|omega)only[f94,P4,seval,hb,hc,Ae0,Aqv,g,s1]
  refine hq2 _ _ ⟨_,rfl,by simp[Ae8,hf],Chg.set H hm.lt o,?_⟩
  rw[Akn hf]at s2
  simpa[hf]using s2
def okN(l:List (List UInt8)):Bool:=l.all Acq&&decide l.Nodup
theorem Agq(ns:List (List UInt8))(n:List UInt8):okN (ns++[n])=(okN ns&&(Acq n&& !ns.contains n)):=by
 simp only[okN,List.all_append,List.all_cons,List.all_nil,Bool.and_true]
 have:decide (ns++[n]).Nodup=(decide ns.Nodup&& !ns.contains n):=by
  by_cases h1:ns.Nodup
  ·by_cases h2:n∈ns
   ·have:¬(ns++[n]).Nodup:=by
     intro h;rw[List.nodup_append]at h
     exact h.2.2 n h2 n (by simp) rfl
    simp[this,h2]
   ·have:(ns++[n]).Nodup:=by
     rw[List.nodup_append]
     exact⟨h1,by simp,fun a ha b hb=>by simp at hb;subst hb;intro e;subst e;exact h2 ha⟩
    simp[this,h1,h2]
  ·have:¬(ns++[n]).Nodup:=fun h=>h1 (List.nodup_append.1 h).1
   simp[this,h1]
 rw[this]
 cases ns.all Acq<;>cases Acq n<;>simp
def Ahd(n:Nat)(l:List (Int×Bool)):Bool:=decide (l.length<=16)&&l.all (fun x=>inB n x.1)
def roB(L:Ly)(r:Ro):Bool:=inB L.g.length r.g&&(decide (r.path.length<=16)&&decide (r.ov.length<=16)&&r.path.all (inB L.s.length)&&r.ov.all (inB L.s.length))&&(Ahd L.p.length r.pts&&Ahd L.p.length r.fl)
def Agd(L:Ly):Bool:=decide (64<L.s.length)||decide (32<L.p.length)||decide (32<L.g.length)||decide (64<L.r.length)
def nm2(L:Ly)(i:Nat):List (List UInt8):=L.s++(L.p.take i).map (·.1)
def nm3(L:Ly)(i:Nat):List (List UInt8):=L.s++L.p.map (·.1)++(L.g.take i).map (·.1)
def nm4(L:Ly)(i:Nat):List (List UInt8):=L.s++L.p.map (·.1)++L.g.map (·.1)++(L.r.take i).map (·.n)
def Acl(L:Ly):List (List UInt8):=L.s++L.p.map (·.1)++L.g.map (·.1)++L.r.map (·.n)
def al2(L:Ly)(i:Nat):Bool:=(L.p.take i).all fun x=>inB L.s.length x.2
def al3(L:Ly)(i:Nat):Bool:=L.p.all (fun x=>inB L.s.length x.2)&&(L.g.take i).all fun x=>inB L.s.length x.2
def al4(L:Ly)(i:Nat):Bool:=L.p.all (fun x=>inB L.s.length x.2)&&L.g.all (fun x=>inB L.s.length x.2)&&(L.r.take i).all (roB L)
def Aew(L:Ly):Bool:= !Agd L&&(okN (Acl L)&&(L.p.all (fun x=>inB L.s.length x.2)&&L.g.all (fun x=>inB L.s.length x.2)&&L.r.all (roB L)))
theorem Ac7{α:Type}{l:List α}{i:Nat}(d:α)(h:i<l.length):l.take (i+1)=l.take i++[l.getD i d]:=by
 rw[List.take_add_one,List.getElem?_eq_getElem h];simp[List.getD,List.getElem?_eq_getElem h]
structure Af2 (L:Ly):Prop where
 s:L.s.length<=1000000000/\∀x∈L.s,x.length<=9223372036854775807
 p:L.p.length<=1000000000/\∀x∈L.p,x.1.length<=9223372036854775807
 g:L.g.length<=1000000000/\∀x∈L.g,x.1.length<=9223372036854775807
 r:L.r.length<=1000000000/\∀x∈L.r,x.n.length<=9223372036854775807/\x.path.length<=9223372036854775807/\x.pts.length<=9223372036854775807/\x.ov.length<=9223372036854775807/\x.fl.length<=9223372036854775807
theorem Adt{α:Type}{l:List α}{i:Nat}{d:α}(h:i<l.length):l.getD i d∈l:=by
 simp[List.getD,List.getElem?_eq_getElem h]
structure MSt (H K:Aaa) (u:V4) (ok:Bool) (ns:List (List UInt8)):Prop where
 k:Aac H K
 l:K.get H.n=some (.cells true false 4 u.l 27)
 b:K.get (H.n+2)=some (.cells true false 5 [.slice none 0 0,.slice none 0 0,.slice none 0 0,.slice none 0 0,.map (some (H.n+1))] 175)
 m:ok=true->∃M,MP A5o K (H.n+1) M/\M.map (·.1)=ns
theorem MSt.keeps{H K K':Aaa}{u:V4}{ok:Bool}{ns:List (List UInt8)}(h:MSt H K u ok ns)(k:Aac K K'):MSt H K' u ok ns:=
 ⟨h.k.trans k,k.at_ h.l,k.at_ h.b,fun e=>by obtain⟨M,h1,h2⟩:=h.m e;exact⟨M,h1.get (k.get _ h1.lt),h2⟩⟩
theorem MSt.no{H K:Aaa}{u:V4}{ok:Bool}{ns ns':List (List UInt8)}(h:MSt H K u ok ns):MSt H K u false ns':=⟨h.k,h.l,h.b,fun e=>by cases e⟩
theorem MSt.fresh{H K:Aaa}{u:V4}{ns:List (List UInt8)}(h:MSt H K u true ns)(n:List UInt8){x:Value}(hx:A2i x=true):
 ∃w K',Aaq Tryz.prog 0 94 [ptr (H.n+2) 0,.string ⟨n.toArray⟩,x] K w K'/\w=.bool (!ns.contains n)/\MSt H K' u (!ns.contains n) (ns++[n])/\K.n<=K'.n/\(∀b,H.n+2<b->b<K.n->K'.get b=K.get b):=by
 obtain⟨M,h1,h2⟩:=h.m rfl
 obtain⟨w,K',r,rfl,c,m⟩:=t94 (hc:=rfl) h.b h1 n hx
 have e:(Ady n M).isNone= !ns.contains n:=by
  cases hf:Ady n M with
  |none=>have:=Ahc.1 hf;rw[h2]at this;simp[this]
  |some y=>
   have:n∈M.map (·.1):=by
    rcases Classical.em (n∈M.map (·.1))with h|h
    ·exact h
    ·rw[Ahc.2 h]at hf;cases hf
   rw[h2]at this;simp[this]
 rw[e]at r m
 refine⟨_,_,r,rfl,⟨h.k.Bfh c (by simp),c.at_ h.l (by simp),c.at_ h.b (by simp),fun hn=>?_⟩,c.n,fun b hb hlt=>c.get b hlt (by simp;omega)⟩
 rw[hn]at m
 exact⟨_,m,by simp[h2]⟩
def mF(A:Value)(h:Nat)(L:Ly)(ok:Bool):List Value:=[A,ptr h 0,.bool false,.int .i64 ((L.s.length:Nat):Int),.int .i64 ((L.p.length:Nat):Int),.int .i64 ((L.g.length:Nat):Int),.int .i64 ((L.r.length:Nat):Int),ptr (h+2) 0,.bool ok]
def M1(A:Value)(H:Aaa)(u:V4)(L:Ly)(fr:List Value)(K:Aaa):Prop:=
 ∃ok x9 x10 x11 x12 x13 x14 x15 x16 x17 x18 x19 x20 x21 x22 x23 x24 x25 x26 x27 x28 x29 x30 x31 x32 x33,fr=mF A H.n L ok++[x9,x10,x11,x12,x13,x14,x15,x16,x17,x18,x19,x20,x21,x22,x23,x24,x25,x26,x27,x28,x29,x30,x31,x32,x33]/\ok=okN L.s/\MSt H K u ok L.s
theorem may1{H:Aaa}{u:V4}{xs:List RV}{L:Ly}{Q:AQ}(h:LyR H u xs L)(hf:Af2 L)(hfu:Agd L=false)
 (hk:∀fr K,M1 (.agg u.l.toArray) H u L fr K->Q .normal fr K):W Tryz.prog 0 (Aeu 6 f61.body) Q (Aah f61.sl [.agg u.l.toArray]) H:=by
 have ls:=h.s.len
 have lp:=h.p.len
 have lg:=h.g.len
 have lr:=h.r.len
 have er:=h.rlen
 have is:=Sl.is h.s
 have ip:=Sl.is h.p
 have ig:=Sl.is h.g
 have ir:=Sl.is h.r
 have os:=Sl.one h.s
 have op:=Sl.one h.p
 have og:=Sl.one h.g
 have or:=Sl.one h.r
 simp only[Agd,Bool.or_eq_false_iff,decide_eq_false_iff_not]at hfu
 obtain⟨⟨⟨f1,f2⟩,f3⟩,f4⟩:=hfu
 have h0:=h
 obtain⟨us,up,ug,ur⟩:=u
 simp only[V4.l]at*
 have c1:¬(64:Int)<((L.s.length:Nat):Int):=by omega
 have c2:¬(32:Int)<((L.p.length:Nat):Int):=by omega
 have c3:¬(32:Int)<((L.g.length:Nat):Int):=by omega
 have c4:¬(64:Int)<((L.r.length:Nat):Int):=by omega
 simp(disch:=first|assumption|omega|(simp only[LN]<;>omega)|(simp(disch:=first|assumption|omega|(simp only[LN]<;>omega))only[Aab,Aad];assumption))only[f61,Aeu,P3,seval,Aah,Aao,ls,lp,lg,lr,er,os,op,og,or,Anu,Aqw,Adz,Aqx,Amx,A39]
 have k0:=(((Aac.refl H).alloc (.cells true false 4 [us,up,ug,ur] 27)).alloc (.obj true (.map #[] 0))).alloc (.cells true false 5 [.slice none 0 0,.slice none 0 0,.slice none 0 0,.slice none 0 0,.map (some (H.n+1))] 175)
 have st0:MSt H (((H.alloc (.cells true false 4 [us,up,ug,ur] 27)).alloc (.obj true (.map #[] 0))).alloc (.cells true false 5 [.slice none 0 0,.slice none 0 0,.slice none 0 0,.slice none 0 0,.map (some (H.n+1))] 175)) ⟨us,up,ug,ur⟩ true []:=by
  refine⟨k0,?_,Aaa.Bfd _ _,fun _=>⟨[],MP.get (MP.new (H.alloc (.cells true false 4 [us,up,ug,ur] 27))) (Aru _ (by simp[Acd])),rfl⟩⟩
  rw[Aru _ (by simp[Acd];omega),Aru _ (by simp[Acd])];exact Aaa.Bfd _ _
 generalize((H.alloc (.cells true false 4 [us,up,ug,ur] 27)).alloc (.obj true (.map #[] 0))).alloc (.cells true false 5 [.slice none 0 0,.slice none 0 0,.slice none 0 0,.slice none 0 0,.map (some (H.n+1))] 175)=K0 at st0 k0 ⊢
 rw[Aag]
 refine Aal (fun k fr K=>∃ok i x9 x10 x21,fr=[.agg #[us,up,ug,ur],ptr H.n 0,.bool false,.int .i64 ((L.s.length:Nat):Int),.int .i64 ((L.p.length:Nat):Int),.int .i64 ((L.g.length:Nat):Int),.int .i64 ((L.r.length:Nat):Int),ptr (H.n+2) 0,.bool ok,x9,x10,undef,undef,undef,undef,undef,undef,.bool false,us,.int .i64 ((L.s.length:Nat):Int),.int .i64 ((i:Nat):Int),x21,undef,undef,undef,undef,undef,undef,undef,undef,undef,undef,undef,undef]∧
  ok=okN (L.s.take i)/\MSt H K ⟨us,up,ug,ur⟩ ok (L.s.take i)/\i<=L.s.length/\k=L.s.length-i) L.s.length
  ⟨true,0,_,_,_,rfl,by simp[okN],st0,by omega,rfl⟩ ?_
 rintro Q' k fr K ⟨ok,i,x9,x10,x21,rfl,hok,hst,hi,rfl⟩ hn hx hret
 by_cases hlt:i<L.s.length
 ·obtain⟨na,ra⟩:=(h0.s.keeps hst.k).at_ hlt
  have h1:(0:Int)<=(i:Int):=by omega
  have h2:(i:Int)<((Ab9 us:Nat):Int):=by omega
  have h3:(i:Int)<((L.s.length:Nat):Int):=by omega
  have hw:=wrS (i:=i) (by omega)
  have hlen:=hf.s.2 _ (Adt (d:=[]) hlt)
  have ts:=Ac7 [] hlt
  unfold Akz at ra
  have hs:=Agq (L.s.take i) (L.s.getD i [])
  rw[<-ts]at hs
  cases ok with
  |false=>
   simp(disch:=first|assumption|omega)only[P4,seval,ls,ra,na,Aaj,hw]
   refine hn _ _ _ ⟨false,i+1,_,_,_,rfl,?_,hst.no,by omega,rfl⟩ (by omega)
   rw[hs,<-hok];rfl
  |true=>
   simp(disch:=first|assumption|omega)only[P4,seval,ls,ra,na,Aaj,hw]
   refine Aae (t93 _ _ hlen) ?_
   rintro _ _ ⟨rfl,rfl⟩
   cases hr:Acq (L.s.getD i [])with
   |false=>
    simp(disch:=first|assumption|omega)only[P4,seval,hw]
    refine hn _ _ _ ⟨false,i+1,_,_,_,rfl,?_,hst.no,by omega,rfl⟩ (by omega)
    rw[hs,hr];simp
   |true=>
    simp(disch:=first|assumption|omega)only[P4,seval,hw]
    refine Aae (R:=fun w K'=>w=.bool (!(L.s.take i).contains (L.s.getD i []))/\MSt H K' ⟨us,up,ug,ur⟩ (!(L.s.take i).contains (L.s.getD i [])) (L.s.take i++[L.s.getD i []])) (by obtain⟨w,K',a,b,c,_⟩:=hst.fresh (L.s.getD i []) (x:=.iface 177 (.int .i64 (i:Int))) rfl;exact⟨w,K',a,b,c⟩) ?_
    rintro _ K' ⟨rfl,st'⟩
    rw[<-ts]at st'
    cases hc:(L.s.take i).contains (L.s.getD i [])with
    |false=>
     rw[hc]at st'
     simp(disch:=first|assumption|omega)only[P4,seval,hw]
     refine hn _ _ _ ⟨true,i+1,_,_,_,rfl,?_,st',by omega,rfl⟩ (by omega)
     rw[hs,<-hok,hr,hc];rfl
    |true=>
     rw[hc]at st'
     simp(disch:=first|assumption|omega)only[P4,seval,hw]
     refine hn _ _ _ ⟨false,i+1,_,_,_,rfl,?_,st',by omega,rfl⟩ (by omega)
     rw[hs,<-hok,hr,hc];rfl
 ·have h3:¬(i:Int)<((L.s.length:Nat):Int):=by omega
  simp(disch:=first|assumption|omega)only[P4,seval,ls]
  refine hx 0 _ _ ?_
  have e:L.s.take i=L.s:=List.take_of_length_le (by omega)
  rw[e]at hok hst
  exact hk _ _ ⟨ok,_,_,_,_,_,_,_,_,_,_,_,_,_,_,_,_,_,_,_,_,_,_,_,_,_,rfl,hok,hst⟩
theorem b4(a b c d:Bool):((a&&b)&&(c&&d))=((a&&c)&&(b&&d)):=by cases a<;>cases b<;>cases c<;>cases d<;>rfl
def M2(A:Value)(H:Aaa)(u:V4)(L:Ly)(fr:List Value)(K:Aaa):Prop:=
 ∃ok x9 x10 x11 x12 x13 x14 x15 x16 x17 x18 x19 x20 x21 x22 x23 x24 x25 x26 x27 x28 x29 x30 x31 x32 x33,fr=mF A H.n L ok++[x9,x10,x11,x12,x13,x14,x15,x16,x17,x18,x19,x20,x21,x22,x23,x24,x25,x26,x27,x28,x29,x30,x31,x32,x33]/\ok=(okN (L.s++L.p.map (·.1))&&L.p.all fun x=>inB L.s.length x.2)/\MSt H K u ok (L.s++L.p.map (·.1))
def M3(A:Value)(H:Aaa)(u:V4)(L:Ly)(fr:List Value)(K:Aaa):Prop:=
 ∃ok x9 x10 x11 x12 x13 x14 x15 x16 x17 x18 x19 x20 x21 x22 x23 x24 x25 x26 x27 x28 x29 x30 x31 x32 x33,fr=mF A H.n L ok++[x9,x10,x11,x12,x13,x14,x15,x16,x17,x18,x19,x20,x21,x22,x23,x24,x25,x26,x27,x28,x29,x30,x31,x32,x33]/\ok=(okN (L.s++L.p.map (·.1)++L.g.map (·.1))&&(L.p.all (fun x=>inB L.s.length x.2)&&L.g.all fun x=>inB L.s.length x.2))/\MSt H K u ok (L.s++L.p.map (·.1)++L.g.map (·.1))
theorem may2{H:Aaa}{u:V4}{xs:List RV}{L:Ly}{Q:AQ}{A:Value}{fr:List Value}{K:Aaa}(h:LyR H u xs L)(hf:Af2 L)(hm:M1 A H u L fr K)
 (hk:∀fr K,M2 A H u L fr K->Q .normal fr K):W Tryz.prog 0 (Aeu 1 (Ab1 6 f61.body)) Q fr K:=by
 obtain⟨ok,x9,x10,x11,x12,x13,x14,x15,x16,x17,x18,x19,x20,x21,x22,x23,x24,x25,x26,x27,x28,x29,x30,x31,x32,x33,rfl,hok,hst⟩:=hm
 have lp:=h.p.len
 have ip:=Sl.is h.p
 have gl:=hst.l
 simp only[V4.l]at gl
 simp(disch:=first|assumption|omega)only[f61,Aeu,Ab1,mF,List.cons_append,List.nil_append,P3,seval,Aah,Aao,gl,lp]
 rw[Aag]
 refine Aal (fun k fr K=>∃ok i x11 x12 xc,fr=mF A H.n L ok++[x9,x10,x11,x12,x13,x14,x15,x16,x17,x18,x19,x20,x21,u.p,.int .i64 ((L.p.length:Nat):Int),.int .i64 ((i:Nat):Int),xc,x26,x27,x28,x29,x30,x31,x32,x33]∧
  ok=(okN (nm2 L i)&&al2 L i)/\MSt H K u ok (nm2 L i)/\i<=L.p.length/\k=L.p.length-i) L.p.length
  ⟨ok,0,_,_,_,rfl,by simp[nm2,al2,hok],by simpa[nm2]using hst,by omega,rfl⟩ ?_
 clear hst hok gl
 rintro Q' k fr K ⟨ok,i,x11,x12,xc,rfl,hok,hst,hi,rfl⟩ hn hx hret
 by_cases hlt:i<L.p.length
 ·obtain⟨na,ra⟩:=(h.p.keeps hst.k).at_ hlt
  have hbl:=Sl.bn_le (h.p.keeps hst.k) (by intro e;simp at e;rw[e]at hlt;simp at hlt) (by omega)
  have h1:(0:Int)<=(i:Int):=by omega
  have h2:(i:Int)<((Ab9 u.p:Nat):Int):=by omega
  have h3:(i:Int)<((L.p.length:Nat):Int):=by omega
  have hw:IntKind.i64.wrap ((i:Int)+1)=((i+1:Nat):Int):=by rw[Aa5 (by omega) (by have:=hf.p.1;omega)];simp
  have hlen:=hf.p.2 _ (Adt (d:=([],0)) hlt)
  have ts:=Ac7 ([],(0:Int)) hlt
  have hs:okN (nm2 L (i+1))=(okN (nm2 L i)&&(Acq (L.p.getD i ([],0)).1 && !(nm2 L i).contains (L.p.getD i ([],0)).1)):=by
   rw[<-Agq];simp only[nm2,ts,List.map_append,List.map_cons,List.map_nil,List.append_assoc]
  have hn1:nm2 L i++[(L.p.getD i ([],0)).1]=nm2 L (i+1):=by simp only[nm2,ts,List.map_append,List.map_cons,List.map_nil,List.append_assoc]
  have ha:al2 L (i+1)=(al2 L i&&inB L.s.length (L.p.getD i ([],0)).2):=by
   simp only[al2,ts,List.all_append,List.all_cons,List.all_nil,Bool.and_true,Bool.and_assoc]
  generalize L.p.getD i ([],0)=y at*
  have hk1:=hst.k.n
  have o1:one1 (Value.int .i64 y.2)=True:=by simp[one1,Aav]
  have o2:one1 (Value.string ⟨y.1.toArray⟩)=True:=by simp[one1,Abc]
  have st1:=hst.keeps ((Aac.refl K).alloc (.cells true false 2 [.string ⟨y.1.toArray⟩,.int .i64 y.2] 89))
  have gv:=Aaa.Bfd K (.cells true false 2 [.string ⟨y.1.toArray⟩,.int .i64 y.2] 89)
  cases ok with
  |false=>
   simp(disch:=first|assumption|omega|(simp only[LN]<;>omega)|(simp(disch:=first|assumption|omega|(simp only[LN]<;>omega))only[Aab,Aad];assumption))only[P4,seval,mF,List.cons_append,List.nil_append,lp,ra,na,Aai,hw,o1,o2]
   refine hn _ _ _ ⟨false,i+1,_,_,_,rfl,?_,st1.no,by omega,rfl⟩ (by omega)
   rw[hs,ha,b4,<-hok];rfl
  |true=>
   simp(disch:=first|assumption|omega|(simp only[LN]<;>omega)|(simp(disch:=first|assumption|omega|(simp only[LN]<;>omega))only[Aab,Aad];assumption))only[P4,seval,mF,List.cons_append,List.nil_append,lp,ra,na,Aai,hw,o1,o2]
   obtain⟨K1,hK1⟩:∃X,X=K.alloc (.cells true false 2 [.string ⟨y.1.toArray⟩,.int .i64 y.2] 89):=⟨_,rfl⟩
   have n1:K1.n=K.n+1:=by rw[hK1];rfl
   rw[<-hK1]at st1 gv ⊢
   refine Aat (t93 _ _ hlen) ?_
   cases hr:Acq y.1 with
   |false=>
    simp(disch:=first|assumption|omega)only[P4,seval,hw]
    refine hn _ _ _ ⟨false,i+1,_,_,_,rfl,?_,st1.no,by omega,rfl⟩ (by omega)
    rw[hs,ha,hr];simp
   |true=>
    simp(disch:=first|assumption|omega)only[P4,seval,gv,hw]
    refine Aae (R:=fun w K'=>w=.bool (!(nm2 L i).contains y.1)/\MSt H K' u (!(nm2 L i).contains y.1) (nm2 L i++[y.1])/\K1.n<=K'.n/\K'.get K.n=K1.get K.n) (by
     obtain⟨w,K',a,b,c,d,e⟩:=st1.fresh y.1 (x:=.iface 178 (.int .i64 (i:Int))) rfl
     exact⟨w,K',a,b,c,d,e _ (by have:=Aaa.Bfg hst.b;omega) (by omega)⟩) ?_
    rintro _ K' ⟨rfl,st',n2,g2⟩
    rw[gv]at g2
    rw[hn1]at st'
    cases hc:(nm2 L i).contains y.1 with
    |true=>
     rw[hc]at st'
     simp(disch:=first|assumption|omega)only[P4,seval,hw]
     refine hn _ _ _ ⟨false,i+1,_,_,_,rfl,?_,st',by omega,rfl⟩ (by omega)
     rw[hs,ha,hr,hc];simp
    |false=>
     rw[hc]at st'
     simp(disch:=first|assumption|omega)only[P4,seval,g2,hw]
     have hil:IL (K'.alloc (.cells true false 1 [.int .i64 y.2] 3)) (slc K'.n 0 1 1) [y.2]:=
      ⟨⟨_,_,rfl⟩,by simp[Ag1],by rw[Acc rfl rfl];rfl⟩
     refine Aae (t95 _ hil (by simp)) ?_
     rintro _ _ ⟨rfl,rfl⟩
     have st2:=st'.keeps ((Aac.refl K').alloc (.cells true false 1 [.int .i64 y.2] 3))
     cases hb:inB L.s.length y.2 with
     |false=>
      have e:[y.2].all (inB (L.s.length:Nat))=false:=by simp[hb]
      simp(disch:=first|assumption|omega)only[P4,seval,e,hw]
      refine hn _ _ _ ⟨false,i+1,_,_,_,rfl,?_,st2.no,by omega,rfl⟩ (by omega)
      rw[ha,hb];simp
     |true=>
      have e:[y.2].all (inB (L.s.length:Nat))=true:=by simp[hb]
      simp(disch:=first|assumption|omega)only[P4,seval,e,hw]
      refine hn _ _ _ ⟨true,i+1,_,_,_,rfl,?_,st2,by omega,rfl⟩ (by omega)
      rw[hs,ha,b4,<-hok,hr,hc,hb];rfl
 ·have h3:¬(i:Int)<((L.p.length:Nat):Int):=by omega
  simp(disch:=first|assumption|omega)only[P4,seval,mF,List.cons_append,List.nil_append,lp]
  refine hx 2 _ _ ?_
  have e:L.p.take i=L.p:=List.take_of_length_le (by omega)
  simp only[nm2,al2,e]at hok hst
  exact hk _ _ ⟨ok,_,_,_,_,_,_,_,_,_,_,_,_,_,_,_,_,_,_,_,_,_,_,_,_,_,rfl,hok,hst⟩
theorem may3{H:Aaa}{u:V4}{xs:List RV}{L:Ly}{Q:AQ}{A:Value}{fr:List Value}{K:Aaa}(h:LyR H u xs L)(hf:Af2 L)(hm:M2 A H u L fr K)
 (hk:∀fr K,M3 A H u L fr K->Q .normal fr K):W Tryz.prog 0 (Aeu 1 (Ab1 7 f61.body)) Q fr K:=by
 obtain⟨ok,x9,x10,x11,x12,x13,x14,x15,x16,x17,x18,x19,x20,x21,x22,x23,x24,x25,x26,x27,x28,x29,x30,x31,x32,x33,rfl,hok,hst⟩:=hm
 have lp:=h.g.len
 have ip:=Sl.is h.g
 have gl:=hst.l
 simp only[V4.l]at gl
 simp(disch:=first|assumption|omega)only[f61,Aeu,Ab1,mF,List.cons_append,List.nil_append,P3,seval,Aah,Aao,gl,lp]
 rw[Aag]
 refine Aal (fun k fr K=>∃ok i x13 x14 xc,fr=mF A H.n L ok++[x9,x10,x11,x12,x13,x14,x15,x16,x17,x18,x19,x20,x21,x22,x23,x24,x25,u.g,.int .i64 ((L.g.length:Nat):Int),.int .i64 ((i:Nat):Int),xc,x30,x31,x32,x33]∧
  ok=(okN (nm3 L i)&&al3 L i)/\MSt H K u ok (nm3 L i)/\i<=L.g.length/\k=L.g.length-i) L.g.length
  ⟨ok,0,_,_,_,rfl,by simp[nm3,al3,hok],by simpa[nm3]using hst,by omega,rfl⟩ ?_
 clear hst hok gl
 rintro Q' k fr K ⟨ok,i,x13,x14,xc,rfl,hok,hst,hi,rfl⟩ hn hx hret
 by_cases hlt:i<L.g.length
 ·obtain⟨na,ra⟩:=(h.g.keeps hst.k).at_ hlt
  have hbl:=Sl.bn_le (h.g.keeps hst.k) (by intro e;simp at e;rw[e]at hlt;simp at hlt) (by omega)
  have h1:(0:Int)<=(i:Int):=by omega
  have h2:(i:Int)<((Ab9 u.g:Nat):Int):=by omega
  have h3:(i:Int)<((L.g.length:Nat):Int):=by omega
  have hw:IntKind.i64.wrap ((i:Int)+1)=((i+1:Nat):Int):=by rw[Aa5 (by omega) (by have:=hf.g.1;omega)];simp
  have hlen:=hf.g.2 _ (Adt (d:=([],0)) hlt)
  have ts:=Ac7 ([],(0:Int)) hlt
  have hs:okN (nm3 L (i+1))=(okN (nm3 L i)&&(Acq (L.g.getD i ([],0)).1 && !(nm3 L i).contains (L.g.getD i ([],0)).1)):=by
   rw[<-Agq];simp only[nm3,ts,List.map_append,List.map_cons,List.map_nil,List.append_assoc]
  have hn1:nm3 L i++[(L.g.getD i ([],0)).1]=nm3 L (i+1):=by simp only[nm3,ts,List.map_append,List.map_cons,List.map_nil,List.append_assoc]
  have ha:al3 L (i+1)=(al3 L i&&inB L.s.length (L.g.getD i ([],0)).2):=by
   simp only[al3,ts,List.all_append,List.all_cons,List.all_nil,Bool.and_true,Bool.and_assoc]
  generalize L.g.getD i ([],0)=y at*
  have hk1:=hst.k.n
  have o1:one1 (Value.int .i64 y.2)=True:=by simp[one1,Aav]
  have o2:one1 (Value.string ⟨y.1.toArray⟩)=True:=by simp[one1,Abc]
  have st1:=hst.keeps ((Aac.refl K).alloc (.cells true false 2 [.string ⟨y.1.toArray⟩,.int .i64 y.2] 90))
  have gv:=Aaa.Bfd K (.cells true false 2 [.string ⟨y.1.toArray⟩,.int .i64 y.2] 90)
  cases ok with
  |false=>
   simp(disch:=first|assumption|omega|(simp only[LN]<;>omega)|(simp(disch:=first|assumption|omega|(simp only[LN]<;>omega))only[Aab,Aad];assumption))only[P4,seval,mF,List.cons_append,List.nil_append,lp,ra,na,Aai,hw,o1,o2]
   refine hn _ _ _ ⟨false,i+1,_,_,_,rfl,?_,st1.no,by omega,rfl⟩ (by omega)
   rw[hs,ha,b4,<-hok];rfl
  |true=>
   simp(disch:=first|assumption|omega|(simp only[LN]<;>omega)|(simp(disch:=first|assumption|omega|(simp only[LN]<;>omega))only[Aab,Aad];assumption))only[P4,seval,mF,List.cons_append,List.nil_append,lp,ra,na,Aai,hw,o1,o2]
   obtain⟨K1,hK1⟩:∃X,X=K.alloc (.cells true false 2 [.string ⟨y.1.toArray⟩,.int .i64 y.2] 90):=⟨_,rfl⟩
   have n1:K1.n=K.n+1:=by rw[hK1];rfl
   rw[<-hK1]at st1 gv ⊢
   refine Aat (t93 _ _ hlen) ?_
   cases hr:Acq y.1 with
   |false=>
    simp(disch:=first|assumption|omega)only[P4,seval,hw]
    refine hn _ _ _ ⟨false,i+1,_,_,_,rfl,?_,st1.no,by omega,rfl⟩ (by omega)
    rw[hs,ha,hr];simp
   |true=>
    simp(disch:=first|assumption|omega)only[P4,seval,gv,hw]
    refine Aae (R:=fun w K'=>w=.bool (!(nm3 L i).contains y.1)/\MSt H K' u (!(nm3 L i).contains y.1) (nm3 L i++[y.1])/\K1.n<=K'.n/\K'.get K.n=K1.get K.n) (by
     obtain⟨w,K',a,b,c,d,e⟩:=st1.fresh y.1 (x:=.iface 180 (.int .i64 (i:Int))) rfl
     exact⟨w,K',a,b,c,d,e _ (by have:=Aaa.Bfg hst.b;omega) (by omega)⟩) ?_
    rintro _ K' ⟨rfl,st',n2,g2⟩
    rw[gv]at g2
    rw[hn1]at st'
    cases hc:(nm3 L i).contains y.1 with
    |true=>
     rw[hc]at st'
     simp(disch:=first|assumption|omega)only[P4,seval,hw]
     refine hn _ _ _ ⟨false,i+1,_,_,_,rfl,?_,st',by omega,rfl⟩ (by omega)
     rw[hs,ha,hr,hc];simp
    |false=>
     rw[hc]at st'
     simp(disch:=first|assumption|omega)only[P4,seval,g2,hw]
     have hil:IL (K'.alloc (.cells true false 1 [.int .i64 y.2] 3)) (slc K'.n 0 1 1) [y.2]:=
      ⟨⟨_,_,rfl⟩,by simp[Ag1],by rw[Acc rfl rfl];rfl⟩
     refine Aae (t95 _ hil (by simp)) ?_
     rintro _ _ ⟨rfl,rfl⟩
     have st2:=st'.keeps ((Aac.refl K').alloc (.cells true false 1 [.int .i64 y.2] 3))
     cases hb:inB L.s.length y.2 with
     |false=>
      have e:[y.2].all (inB (L.s.length:Nat))=false:=by simp[hb]
      simp(disch:=first|assumption|omega)only[P4,seval,e,hw]
      refine hn _ _ _ ⟨false,i+1,_,_,_,rfl,?_,st2.no,by omega,rfl⟩ (by omega)
      rw[ha,hb];simp
     |true=>
      have e:[y.2].all (inB (L.s.length:Nat))=true:=by simp[hb]
      simp(disch:=first|assumption|omega)only[P4,seval,e,hw]
      refine hn _ _ _ ⟨true,i+1,_,_,_,rfl,?_,st2,by omega,rfl⟩ (by omega)
      rw[hs,ha,b4,<-hok,hr,hc,hb];rfl
 ·have h3:¬(i:Int)<((L.g.length:Nat):Int):=by omega
  simp(disch:=first|assumption|omega)only[P4,seval,mF,List.cons_append,List.nil_append,lp]
  refine hx 4 _ _ ?_
  have e:L.g.take i=L.g:=List.take_of_length_le (by omega)
  simp only[nm3,al3,e]at hok hst
  exact hk _ _ ⟨ok,_,_,_,_,_,_,_,_,_,_,_,_,_,_,_,_,_,_,_,_,_,_,_,_,_,rfl,hok,hst⟩
def M4(A:Value)(H:Aaa)(u:V4)(L:Ly)(fr:List Value)(K:Aaa):Prop:=
 ∃ok x9 x10 x11 x12 x13 x14 x15 x16 x17 x18 x19 x20 x21 x22 x23 x24 x25 x26 x27 x28 x29 x30 x31 x32 x33,fr=mF A H.n L ok++[x9,x10,x11,x12,x13,x14,x15,x16,x17,x18,x19,x20,x21,x22,x23,x24,x25,x26,x27,x28,x29,x30,x31,x32,x33]/\ok=(okN (Acl L)&&(L.p.all (fun x=>inB L.s.length x.2)&&L.g.all (fun x=>inB L.s.length x.2)&&L.r.all (roB L)))/\Aac H K
theorem may4{H:Aaa}{u:V4}{xs:List RV}{L:Ly}{Q:AQ}{A:Value}{fr:List Value}{K:Aaa}(h:LyR H u xs L)(hf:Af2 L)(hm:M3 A H u L fr K)
 (hk:∀fr K,M4 A H u L fr K->Q .normal fr K):W Tryz.prog 0 (Aeu 1 (Ab1 8 f61.body)) Q fr K:=by
 obtain⟨ok,x9,x10,x11,x12,x13,x14,x15,x16,x17,x18,x19,x20,x21,x22,x23,x24,x25,x26,x27,x28,x29,x30,x31,x32,x33,rfl,hok,hst⟩:=hm
 have lp:=h.r.len
 have el:=h.rlen
 rw[el]at lp
 have ip:=Sl.is h.r
 have gl:=hst.l
 simp only[V4.l]at gl
 simp(disch:=first|assumption|omega)only[f61,Aeu,Ab1,mF,List.cons_append,List.nil_append,P3,seval,Aah,Aao,gl,lp]
 rw[Aag]
 refine Aal (fun k fr K=>∃ok i x15 x16 xc,fr=mF A H.n L ok++[x9,x10,x11,x12,x13,x14,x15,x16,x17,x18,x19,x20,x21,x22,x23,x24,x25,x26,x27,x28,x29,u.r,.int .i64 ((L.r.length:Nat):Int),.int .i64 ((i:Nat):Int),xc]∧
  ok=(okN (nm4 L i)&&al4 L i)/\MSt H K u ok (nm4 L i)/\i<=L.r.length/\k=L.r.length-i) L.r.length
  ⟨ok,0,_,_,_,rfl,by simp[nm4,al4,hok],by simpa[nm4]using hst,by omega,rfl⟩ ?_
 clear hst hok gl
 rintro Q' k fr K ⟨ok,i,x15,x16,xc,rfl,hok,hst,hi,rfl⟩ hn hx hret
 by_cases hlt:i<L.r.length
 ·have hlt':i<xs.length:=by omega
  obtain⟨na,ra⟩:=RL.at_ (h.r.keeps hst.k) hlt'
  obtain⟨xok,xr⟩:=h.rat hlt
  have hbl:=Sl.bn_le (h.r.keeps hst.k) (by intro e;simp at e;rw[e]at hlt';simp at hlt') (by omega)
  have h1:(0:Int)<=(i:Int):=by omega
  have h2:(i:Int)<((Ab9 u.r:Nat):Int):=by omega
  have h3:(i:Int)<((L.r.length:Nat):Int):=by omega
  have hw:IntKind.i64.wrap ((i:Int)+1)=((i+1:Nat):Int):=by rw[Aa5 (by omega) (by have:=hf.r.1;omega)];simp
  have hlen:=hf.r.2 _ (Adt (d:=rv0.r) hlt)
  have ts:=Ac7 rv0.r hlt
  rw[<-xr]at ts hlen
  have hs:okN (nm4 L (i+1))=(okN (nm4 L i)&&(Acq (xs.getD i rv0).r.n&& !(nm4 L i).contains (xs.getD i rv0).r.n)):=by
   rw[<-Agq];simp only[nm4,ts,List.map_append,List.map_cons,List.map_nil,List.append_assoc]
  have hn1:nm4 L i++[(xs.getD i rv0).r.n]=nm4 L (i+1):=by simp only[nm4,ts,List.map_append,List.map_cons,List.map_nil,List.append_assoc]
  have ha:al4 L (i+1)=(al4 L i&&roB L (xs.getD i rv0).r):=by
   simp only[al4,ts,List.all_append,List.all_cons,List.all_nil,Bool.and_true,Bool.and_assoc]
  clear ts xr
  generalize xs.getD i rv0=y at*
  have hk1:=hst.k.n
  simp only[RV.row]at ra
  have iP:=Sl.is xok.p
  have iQ:=Sl.is xok.q
  have iO:=Sl.is xok.o
  have iF:=Sl.is xok.f
  have lP:=xok.p.len
  have lO:=xok.o.len
  have o1:one1 (Value.int .i64 y.r.g)=True:=by simp[one1,Aav]
  have o2:one1 (Value.string ⟨y.r.n.toArray⟩)=True:=by simp[one1,Abc]
  have o3:=Aap iP
  have o4:=Aap iQ
  have o5:=Aap iO
  have o6:=Aap iF
  obtain⟨row,hrow⟩:∃row,row=[.string ⟨y.r.n.toArray⟩,.int .i64 y.r.g,y.vp,y.vq,y.vo,y.vf]:=⟨_,rfl⟩
  have st1:=hst.keeps ((Aac.refl K).alloc (.cells true false 6 row 87))
  have gv:=Aaa.Bfd K (.cells true false 6 row 87)
  subst hrow
  have fin:∀{X:Aaa} {x15 x16 xc:Value},MSt H X u false (nm4 L (i+1))->(okN (nm4 L (i+1))&&al4 L (i+1))=false->Q' .normal (mF A H.n L false++[x9,x10,x11,x12,x13,x14,x15,x16,x17,x18,x19,x20,x21,x22,x23,x24,x25,x26,x27,x28,x29,u.r,.int .i64 ((L.r.length:Nat):Int),.int .i64 ((i+1:Nat):Int),xc]) X:=
   fun hX he=>hn _ _ _ ⟨false,i+1,_,_,_,rfl,he.symm,hX,by omega,rfl⟩ (by omega)
  simp only[mF,List.cons_append,List.nil_append]at fin
  cases ok with
  |false=>
   simp(disch:=first|assumption|omega|(simp only[LN]<;>omega)|(simp(disch:=first|assumption|omega|(simp only[LN]<;>omega))only[Aab,Aad];assumption))only[P4,seval,mF,List.cons_append,List.nil_append,lp,ra,na,Aai,hw,o1,o2,o3,o4,o5,o6]
   refine fin st1.no ?_
   rw[hs,ha,b4,<-hok];rfl
  |true=>
   simp(disch:=first|assumption|omega|(simp only[LN]<;>omega)|(simp(disch:=first|assumption|omega|(simp only[LN]<;>omega))only[Aab,Aad];assumption))only[P4,seval,mF,List.cons_append,List.nil_append,lp,ra,na,Aai,hw,o1,o2,o3,o4,o5,o6]
   obtain⟨K1,hK1⟩:∃X,X=K.alloc (.cells true false 6 [.string ⟨y.r.n.toArray⟩,.int .i64 y.r.g,y.vp,y.vq,y.vo,y.vf] 87):=⟨_,rfl⟩
   have n1:K1.n=K.n+1:=by rw[hK1];rfl
   rw[<-hK1]at st1 gv ⊢
   refine Aat (t93 _ _ hlen.1) ?_
   cases hr:Acq y.r.n with
   |false=>
    simp(disch:=first|assumption|omega)only[P4,seval,hw]
    refine fin st1.no ?_
    rw[hs,ha,hr];simp
   |true=>
   simp(disch:=first|assumption|omega)only[P4,seval,gv,hw]
   refine Aae (R:=fun w K'=>w=.bool (!(nm4 L i).contains y.r.n)/\MSt H K' u (!(nm4 L i).contains y.r.n) (nm4 L i++[y.r.n])/\K1.n<=K'.n/\K'.get K.n=K1.get K.n) (by
    obtain⟨w,K',a,b,c,d,e⟩:=st1.fresh y.r.n (x:=.iface 181 (.int .i64 (i:Int))) rfl
    exact⟨w,K',a,b,c,d,e _ (by have:=Aaa.Bfg hst.b;omega) (by omega)⟩) ?_
   rintro _ K' ⟨rfl,st',n2,g2⟩
   rw[gv]at g2
   rw[hn1]at st'
   cases hc:(nm4 L i).contains y.r.n with
   |true=>
    rw[hc]at st'
    simp(disch:=first|assumption|omega)only[P4,seval,hw]
    refine fin st' ?_
    rw[hs,ha,hr,hc];simp
   |false=>
   rw[hc]at st'
   simp(disch:=first|assumption|omega)only[P4,seval,g2,hw]
   have hil:IL (K'.alloc (.cells true false 1 [.int .i64 y.r.g] 3)) (slc K'.n 0 1 1) [y.r.g]:=
    ⟨⟨_,_,rfl⟩,by simp[Ag1],by rw[Acc rfl rfl];rfl⟩
   refine Aae (t95 _ hil (by simp)) ?_
   have st2:=st'.keeps ((Aac.refl K').alloc (.cells true false 1 [.int .i64 y.r.g] 3))
   have g3:=((Aac.refl K').alloc (.cells true false 1 [.int .i64 y.r.g] 3)).at_ g2
   obtain⟨K2,hK2⟩:∃X,X=K'.alloc (.cells true false 1 [.int .i64 y.r.g] 3):=⟨_,rfl⟩
   rw[<-hK2]at st2 g3 ⊢
   rintro _ X ⟨rfl,hX⟩
   rw[hX]
   have xk:=xok.keeps st2.k
   cases hb:inB L.g.length y.r.g with
   |false=>
    have e:[y.r.g].all (inB (L.g.length:Nat))=false:=by simp[hb]
    simp(disch:=first|assumption|omega)only[P4,seval,e,hw]
    refine fin st2.no ?_
    rw[ha];simp[roB,hb]
   |true=>
   have e:[y.r.g].all (inB (L.g.length:Nat))=true:=by simp[hb]
   by_cases hp:y.r.path.length<=16
   rotate_left
   ·have hp':¬((y.r.path.length:Nat):Int)<=(16:Int):=by omega
    simp(disch:=first|assumption|omega)only[P4,seval,e,g3,lP,hw]
    refine fin st2.no ?_
    rw[ha];simp[roB,hp]
   have hp':((y.r.path.length:Nat):Int)<=(16:Int):=by omega
   by_cases ho:y.r.ov.length<=16
   rotate_left
   ·have ho':¬((y.r.ov.length:Nat):Int)<=(16:Int):=by omega
    simp(disch:=first|assumption|omega)only[P4,seval,e,g3,lP,lO,hw]
    refine fin st2.no ?_
    rw[ha];simp[roB,ho]
   have ho':((y.r.ov.length:Nat):Int)<=(16:Int):=by omega
   simp(disch:=first|assumption|omega)only[P4,seval,e,g3,lP,lO,hw]
   refine Aat (t95 _ xk.p (by omega)) ?_
   cases hbp:y.r.path.all (inB (L.s.length:Nat))with
   |false=>
    simp(disch:=first|assumption|omega)only[P4,seval,hw]
    refine fin st2.no ?_
    rw[ha];simp only[roB,hbp];simp
   |true=>
   simp(disch:=first|assumption|omega)only[P4,seval,g3,hw]
   refine Aat (t95 _ xk.o (by omega)) ?_
   cases hbo:y.r.ov.all (inB (L.s.length:Nat))with
   |false=>
    simp(disch:=first|assumption|omega)only[P4,seval,hw]
    refine fin st2.no ?_
    rw[ha];simp only[roB,hbo];simp
   |true=>
   simp(disch:=first|assumption|omega)only[P4,seval,g3,hw]
   refine Aat (t96 _ xk.q hlen.2.2.1) ?_
   cases hbq:(decide (y.r.pts.length<=16)&&y.r.pts.all fun x=>inB (L.p.length:Nat) x.1)with
   |false=>
    simp(disch:=first|assumption|omega)only[P4,seval,hw]
    refine fin st2.no ?_
    rw[ha];simp only[roB,Ahd,hbq];simp
   |true=>
   simp(disch:=first|assumption|omega)only[P4,seval,g3,hw]
   refine Aat (t96 _ xk.f hlen.2.2.2.2) ?_
   cases hbf:(decide (y.r.fl.length<=16)&&y.r.fl.all fun x=>inB (L.p.length:Nat) x.1)with
   |false=>
    simp(disch:=first|assumption|omega)only[P4,seval,hw]
    refine fin st2.no ?_
    rw[ha];simp only[roB,Ahd,hbf];simp
   |true=>
    simp(disch:=first|assumption|omega)only[P4,seval,hw]
    refine hn _ _ _ ⟨true,i+1,_,_,_,rfl,?_,st2,by omega,rfl⟩ (by omega)
    have er:roB L y.r=true:=by simp only[roB,Ahd,hb,hp,ho,hbp,hbo,hbq,hbf];rfl
    rw[hs,ha,b4,<-hok,hr,hc,er];rfl
 ·have h3:¬(i:Int)<((L.r.length:Nat):Int):=by omega
  simp(disch:=first|assumption|omega)only[P4,seval,mF,List.cons_append,List.nil_append,lp]
  refine hx 6 _ _ ?_
  have e:L.r.take i=L.r:=List.take_of_length_le (by omega)
  simp only[nm4,al4,e]at hok hst
  exact hk _ _ ⟨ok,_,_,_,_,_,_,_,_,_,_,_,_,_,_,_,_,_,_,_,_,_,_,_,_,_,rfl,hok,hst.k⟩
theorem t61{H:Aaa}{u:V4}{xs:List RV}{L:Ly}(h:LyR H u xs L)(hf:Af2 L):∃w H',Aaq Tryz.prog 0 61 [.agg u.l.toArray] H w H'/\w=.bool (Aew L)/\H'=H:=by
 refine gcb ?_
 refine Aam f61 ?_
 intro Q hq1 hq2
 cases hfu:Agd L with
 |true=>
  have ls:=h.s.len
  have lp:=h.p.len
  have lg:=h.g.len
  have lr:=h.r.len
  have er:=h.rlen
  have is:=Sl.is h.s
  have ip:=Sl.is h.p
  have ig:=Sl.is h.g
  have ir:=Sl.is h.r
  have os:=Sl.one h.s
  have op:=Sl.one h.p
  have og:=Sl.one h.g
  have or:=Sl.one h.r
  have hm:Aew L=false:=by simp[Aew,hfu]
  rw[hm]at hq2
  simp only[Agd,Bool.or_eq_true,decide_eq_true_eq]at hfu
  obtain⟨us,up,ug,ur⟩:=u
  simp only[V4.l]at*
  have k1:=(Aac.refl H).alloc (.cells true false 4 [us,up,ug,ur] 27)
  by_cases c1:(64:Int)<((L.s.length:Nat):Int)
  ·simp(disch:=first|assumption|omega)only[f61,P4,seval,ls,lp,lg,lr,er,os,op,og,or]
   exact hq2 _ _ ⟨_,rfl,rfl,k1⟩
  by_cases c2:(32:Int)<((L.p.length:Nat):Int)
  ·simp(disch:=first|assumption|omega)only[f61,P4,seval,ls,lp,lg,lr,er,os,op,og,or]
   exact hq2 _ _ ⟨_,rfl,rfl,k1⟩
  by_cases c3:(32:Int)<((L.g.length:Nat):Int)
  ·simp(disch:=first|assumption|omega)only[f61,P4,seval,ls,lp,lg,lr,er,os,op,og,or]
   exact hq2 _ _ ⟨_,rfl,rfl,k1⟩
  have c4:(64:Int)<((L.r.length:Nat):Int):=by omega
  simp(disch:=first|assumption|omega)only[f61,P4,seval,ls,lp,lg,lr,er,os,op,og,or]
  exact hq2 _ _ ⟨_,rfl,rfl,k1⟩
 |false=>
  refine Aco 6 (M1 (.agg u.l.toArray) H u L) (by kernel_rfl) (fun Q' a _ _=>may1 h hf hfu a) (fun fr K m=>?_)
  refine Aco 1 (M2 (.agg u.l.toArray) H u L) (by kernel_rfl) (fun Q' a _ _=>may2 h hf m a) (fun fr K m=>?_)
  refine Aco 1 (M3 (.agg u.l.toArray) H u L) (by kernel_rfl) (fun Q' a _ _=>may3 h hf m a) (fun fr K m=>?_)
  refine Aco 1 (M4 (.agg u.l.toArray) H u L) (by kernel_rfl) (fun Q' a _ _=>may4 h hf m a) (fun fr K m=>?_)
  obtain⟨ok,x9,x10,x11,x12,x13,x14,x15,x16,x17,x18,x19,x20,x21,x22,x23,x24,x25,x26,x27,x28,x29,x30,x31,x32,x33,rfl,hok,hst⟩:=m
  simp(disch:=first|assumption|omega)only[f61,Ab1,mF,List.cons_append,List.nil_append,P4,seval]
  refine hq2 _ _ ⟨_,rfl,?_,hst⟩
  rw[Aew,hfu,<-hok];rfl
end Go.AM.Fd
namespace Go.AM
structure OW (e esz:Nat) (H K:Aaa) (v:Value) (rows:List (List Value)):Prop where
 ap:AP K e esz v rows.length rows.flatten
 r:∀r∈rows,r.length=esz
 k:Aac H K
 f:Ads H.n v
section
variable {e esz:Nat} {H K K':Aaa} {v v':Value} {rows rows2:List (List Value)}
theorem OW.sl(h:OW e esz H K v rows):Sl K esz v rows:=h.ap.sl h.r rfl
theorem OW.keeps(h:OW e esz H K v rows)(k:Aac K K'):OW e esz H K' v rows:=⟨h.ap.keeps k,h.r,h.k.trans k,h.f⟩
theorem OW.base{H0:Aaa}(h:OW e esz H K v rows)(k:Aac H0 H):OW e esz H0 K v rows:=⟨h.ap,h.r,k.trans h.k,fun b hb=>Nat.le_trans k.n (h.f b hb)⟩
theorem OW.nil(e esz:Nat)(k:Aac H K):OW e esz H K (.slice none 0 0) []:=⟨.inl ⟨rfl,rfl,rfl⟩,by simp,k,fun b hb=>by cases hb⟩
theorem OW.is(h:OW e esz H K v rows):isS v=true:=by obtain⟨a,rfl⟩:=h.ap.shape;rfl
theorem OW.one(h:OW e esz H K v rows):v.oneCell'=true:=by obtain⟨a,rfl⟩:=h.ap.shape;rfl
theorem OW.len(h:OW e esz H K v rows):Ab9 v=rows.length:=by obtain⟨a,rfl⟩:=h.ap.shape;rfl
theorem OW.grow(h:OW e esz H K v rows)(a:AP K' e esz v' (rows.length+rows2.length) (rows.flatten++rows2.flatten))(hr:∀r∈rows2,r.length=esz)(c:Chg (Ahp v) K K')(hb:blk v'=blk v\/blk v'=some K.n):OW e esz H K' v' (rows++rows2):=by
 refine⟨by rw[List.length_append,List.flatten_append];exact a,fun r hm=>?_,h.k.Bfh c (fun x hx=>h.f x (Abu.1 hx)),fun b hb'=>?_⟩
 ·rcases List.mem_append.1 hm with hm|hm
  ·exact h.r r hm
  ·exact hr r hm
 ·rcases hb with e1|e1
  ·exact h.f b (by rw[<-e1];exact hb')
  ·rw[e1]at hb';cases hb';exact h.k.n
theorem Sl.one1{row:List Value}{b:Nat}{own room:Bool}(hb:b=K.n)(hl:row.length=esz):Sl (K.alloc (.cells own room esz row e)) esz (slc b 0 1 1) [row]:=
 ⟨⟨_,_,rfl⟩,by simp[hl],by rw[Acc hb (by simpa using hl)];simp⟩
theorem OW.pre{i:Nat}{kd:IntKind}(h:OW e esz H K v rows)(hi:i<=rows.length):∃w,Aak (.slsl esz v none (some (.int kd (i:Nat))) none) K=some (w,K)/\Sl K esz w (rows.take i):=by
 have hr:∀r∈rows.take i,r.length=esz:=fun r hm=>h.r r (List.mem_of_mem_take hm)
 rcases h.ap with⟨rfl,h1,h2⟩|⟨b,room,rfl,h1,h2⟩
 ·have:rows=[]:=List.eq_nil_of_length_eq_zero h1
  subst this
  have:i=0:=by simpa using hi
  subst this
  exact⟨_,Aeo ⟨0,0,0,Abl 0 0,Ac3 kd 0 0 0 (Nat.le_refl _),Abl 0 0⟩,Sl.nil _ _⟩
 ·refine⟨_,Alq h2 (Abl _ _) (Ac3 kd i rows.length rows.length hi) (Abl 0 i),⟨⟨_,_,by rw[List.length_take,Nat.min_eq_left hi,Nat.sub_zero];rfl⟩,hr,?_⟩⟩
  have hf:rows.flatten.length=rows.length*esz:=Ab7 h.r
  have hle:i*esz<=rows.length*esz:=Nat.mul_le_mul_right _ hi
  simp only[Abf,slc,h2,Nat.zero_mul,Nat.add_zero,Nat.zero_add,Nat.sub_zero]
  rw[if_pos (by omega),List.drop_zero]
  congr 1
  have e:rows.flatten=(rows.take i).flatten++(rows.drop i).flatten:=by rw[<-List.flatten_append,List.take_append_drop]
  have hl:(rows.take i).flatten.length=i*esz:=by rw[Ab7 hr,List.length_take,Nat.min_eq_left hi]
  rw[e,<-hl,List.take_left]
end
section
variable {P:Program} {ng:Nat} {KF:List Value->Aaa->Prop} {fr tm:List Value} {tr:List TE} {e esz b:Nat} {H K:Aaa} {s x:Value} {rows rows2:List (List Value)}
theorem OW.appR{d:D}{r:List Aa7}(h:OW e esz H K s rows)(hx:Sl K esz x rows2)(hs:(rows.length+rows2.length)*b<=140737488355328/\rows.length+rows2.length<=140737488355328)
 (hk:∀v' K',OW e esz H K' v' (rows++rows2)->Chg (Ahp s) K K'->RW P ng r (d.frame v' fr) (d.temps v' tm) K' KF):goR P ng (Aak (.app e esz b s x) K) d r fr tm KF:=
 Bbj h.ap hx.sh hx.el (Ab7 hx.row) hs (fun v' K' a c hb=>hk v' K' (h.grow a hx.row c hb) c)
theorem OW.appD{d:D}{r:List (Aa7×List Nat)}(h:OW e esz H K s rows)(hx:Sl K esz x rows2)(hs:(rows.length+rows2.length)*b<=140737488355328/\rows.length+rows2.length<=140737488355328)
 (hk:∀v' K',OW e esz H K' v' (rows++rows2)->Chg (Ahp s) K K'->RD P ng r (d.frame v' fr) (d.temps v' tm) K' (tr++[⟨3,[],K,K'⟩]) KF):goD P ng (.app e esz b s x) (Aak (.app e esz b s x) K) d [] r fr tm K tr KF:=
 A2z h.ap hx.sh hx.el (Ab7 hx.row) hs (fun v' K' a c hb=>hk v' K' (h.grow a hx.row c hb) c)
end
end Go.AM
namespace Go.AM.Fd
open Nat (reduceAdd reduceEqDiff reduceLT reduceLeDiff reduceMul reduceSub)
open Go.Proofs Go.AM.F
theorem t77{H:Aaa}{u:V4}{xs:List RV}{L:Ly}(h:LyR H u xs L):∃w H',Aaq Tryz.prog 0 77 [.agg u.l.toArray] H w H'/\w=.bool (Agd L)/\H'=H:=by
 refine gcb ?_
 refine Aam f77 ?_
 intro Q hq1 hq2
 have ls:=h.s.len
 have lp:=h.p.len
 have lg:=h.g.len
 have lr:=h.r.len
 have er:=h.rlen
 have is:=Sl.is h.s
 have ip:=Sl.is h.p
 have ig:=Sl.is h.g
 have ir:=Sl.is h.r
 have os:=Sl.one h.s
 have op:=Sl.one h.p
 have og:=Sl.one h.g
 have or:=Sl.one h.r
 obtain⟨us,up,ug,ur⟩:=u
 simp only[V4.l]at*
 have k1:=(Aac.refl H).alloc (.cells true false 4 [us,up,ug,ur] 27)
 have n1:∀a b:Nat,decide ((a:Int)<(b:Int))=decide (a<b):=fun a b=>by rw[decide_eq_decide];omega
 have e1:decide ((64:Int)<((L.s.length:Nat):Int))=decide (64<L.s.length):=n1 64 _
 have e2:decide ((32:Int)<((L.p.length:Nat):Int))=decide (32<L.p.length):=n1 32 _
 have e3:decide ((32:Int)<((L.g.length:Nat):Int))=decide (32<L.g.length):=n1 32 _
 have e4:decide ((64:Int)<((L.r.length:Nat):Int))=decide (64<L.r.length):=n1 64 _
 unfold Agd at hq2
 cases c1:decide (64<L.s.length)with
 |true=>
  simp only[c1]at e1 hq2
  have c1':(64:Int)<((L.s.length:Nat):Int):=of_decide_eq_true e1
  simp(disch:=first|assumption|omega)only[f77,P4,seval,ls,lp,lg,lr,er,os,op,og,or]
  exact hq2 _ _ ⟨_,rfl,rfl,k1⟩
 |false=>
 simp only[c1]at e1 hq2
 have c1':¬(64:Int)<((L.s.length:Nat):Int):=of_decide_eq_false e1
 cases c2:decide (32<L.p.length)with
 |true=>
  simp only[c2]at e2 hq2
  have c2':(32:Int)<((L.p.length:Nat):Int):=of_decide_eq_true e2
  simp(disch:=first|assumption|omega)only[f77,P4,seval,ls,lp,lg,lr,er,os,op,og,or]
  exact hq2 _ _ ⟨_,rfl,rfl,k1⟩
 |false=>
 simp only[c2]at e2 hq2
 have c2':¬(32:Int)<((L.p.length:Nat):Int):=of_decide_eq_false e2
 cases c3:decide (32<L.g.length)with
 |true=>
  simp only[c3]at e3 hq2
  have c3':(32:Int)<((L.g.length:Nat):Int):=of_decide_eq_true e3
  simp(disch:=first|assumption|omega)only[f77,P4,seval,ls,lp,lg,lr,er,os,op,og,or]
  exact hq2 _ _ ⟨_,rfl,rfl,k1⟩
 |false=>
 simp only[c3]at e3 hq2
 have c3':¬(32:Int)<((L.g.length:Nat):Int):=of_decide_eq_false e3
 cases c4:decide (64<L.r.length)with
 |true=>
  simp only[c4]at e4 hq2
  have c4':(64:Int)<((L.r.length:Nat):Int):=of_decide_eq_true e4
  simp(disch:=first|assumption|omega)only[f77,P4,seval,ls,lp,lg,lr,er,os,op,og,or]
  exact hq2 _ _ ⟨_,rfl,rfl,k1⟩
 |false=>
  simp only[c4]at e4 hq2
  have c4':¬(64:Int)<((L.r.length:Nat):Int):=of_decide_eq_false e4
  simp(disch:=first|assumption|omega)only[f77,P4,seval,ls,lp,lg,lr,er,os,op,og,or]
  exact hq2 _ _ ⟨_,rfl,rfl,k1⟩
def ixT(n:List UInt8):List (List UInt8)->Option Nat
 |[]=>none
 |x::l=>if x=n then some 0 else(ixT n l).map (· +1)
def ixV(n:List UInt8)(l:List (List UInt8)):Int:=match ixT n l with
 |some i=>(i:Int)
 |none=> -1
theorem Ax6{n:List UInt8}:∀{l:List (List UInt8)} {i:Nat},i<l.length->l.getD i []=n->(∀j,j<i->l.getD j []≠n)->ixT n l=some i
 |x::l,0,_,h,_=>by simp at h;simp[ixT,h]
 |x::l,i+1,hi,h,hn=>by
  have h0:¬x=n:=by simpa using hn 0 (by omega)
  have:=Ax6 (l:=l) (i:=i) (by simpa using hi) (by simpa using h) (fun j hj=>by simpa using hn (j+1) (by omega))
  simp[ixT,h0,this]
theorem Ax7{n:List UInt8}:∀{l:List (List UInt8)},(∀j,j<l.length->l.getD j []≠n)->ixT n l=none
 |[],_=>rfl
 |x::l,hn=>by
  have h0:¬x=n:=by simpa using hn 0 (by simp)
  have:=Ax7 (l:=l) (fun j hj=>by simpa using hn (j+1) (by simpa using hj))
  simp[ixT,h0,this]
theorem Am6{n:List UInt8}:∀{l:List (List UInt8)},(ixT n l).isSome=l.contains n
 |[]=>rfl
 |x::l=>by
  simp only[ixT,List.contains_cons]
  by_cases h:x=n
  ·simp[h]
  ·have:¬n=x:=fun e=>h e.symm
   simp[h,this,Am6 (l:=l)]
theorem t80{H:Aaa}{v:Value}{l:List (List UInt8)}(h:TL H v l)(hl:l.length<=1000000000)(n:List UInt8):∃w H',Aaq Tryz.prog 0 80 [v,.string ⟨n.toArray⟩] H w H'/\w=.int .i64 (ixV n l)/\H'=H:=by
 refine Aam f80 ?_
 intro Q hq1 hq2
 have ia:=Sl.is h
 have la:=h.len
 simp(disch:=first|assumption|omega)only[f80,P3,seval,Aah,Aao]
 rw[Aag]
 refine Aal (fun k fr K=>∃i x4 x5,fr=[v,.string ⟨n.toArray⟩,.int .i64 0,.int .i64 ((i:Nat):Int),x4,x5]/\K=H/\i<=l.length/\(∀j,j<i->l.getD j []≠n)/\k=l.length-i) l.length
  ⟨0,_,_,rfl,rfl,by omega,by intro j hj;omega,rfl⟩ ?_
 rintro Q' k fr K ⟨i,x4,x5,rfl,rfl,hi,hp,rfl⟩ hn hx hret
 by_cases hlt:i<l.length
 ·obtain⟨na,ra⟩:=h.at_ hlt
  have h0:(0:Int)<=(i:Int):=by omega
  have h1:(i:Int)<((Ab9 v:Nat):Int):=by omega
  have h3:(i:Int)<((l.length:Nat):Int):=by omega
  have hw:=wrS (i:=i) (by omega)
  unfold Akz at ra
  by_cases he:l.getD i []=n
  ·have e2:decide (l.getD i []=n)=true:=by simpa using he
   simp(disch:=first|assumption|omega)only[P4,seval,la,ra,na,Aaj,An7,e2]
   refine hret _ _ (hq2 _ _ ⟨_,rfl,?_,rfl⟩)
   simp[Ae8,ixV,Ax6 hlt he hp]
  ·have e2:decide (l.getD i []=n)=false:=by simpa using he
   simp(disch:=first|assumption|omega)only[P4,seval,la,ra,na,Aaj,An7,e2,hw]
   refine hn _ _ _ ⟨i+1,_,_,rfl,rfl,by omega,fun j hj=>?_,rfl⟩ (by omega)
   by_cases hji:j=i
   ·subst hji;exact he
   ·exact hp j (by omega)
 ·have h3:¬(i:Int)<((l.length:Nat):Int):=by omega
  simp(disch:=first|assumption|omega)only[P4,seval,la]
  refine hx 0 _ _ ?_
  simp(disch:=first|assumption|omega)only[P4,seval]
  refine hq2 _ _ ⟨_,rfl,?_,rfl⟩
  simp[Ae8,ixV,Ax7 (fun j hj=>hp j (by omega))]
theorem t81{H:Aaa}{v:Value}{l:List Int}(n:Int)(h:IL H v l)(hl:l.length<=9223372036854775807):∃w H',Aaq Tryz.prog 0 81 [v,.int .i64 n] H w H'/\w=.bool (decide (l.length<=16)&&l.all (inB n))/\H'=H:=by
 refine Aam f81 ?_
 intro Q hq1 hq2
 have ia:=Sl.is h
 have la:=h.len
 simp(disch:=first|assumption|omega)only[f81,P3,seval,Aah,Aao]
 rw[Aag]
 refine Aal (fun k fr K=>∃i x4 x5,fr=[v,.int .i64 n,.bool false,.int .i64 ((i:Nat):Int),x4,x5]/\K=H/\i<=l.length/\(l.take i).all (inB n)=true/\k=l.length-i) l.length
  ⟨0,_,_,rfl,rfl,by omega,by simp,rfl⟩ ?_
 rintro Q' k fr K ⟨i,x4,x5,rfl,rfl,hi,hp,rfl⟩ hn hx hret
 have stop:∀K',(decide (l.length<=16)&&l.all (inB n))=K'->Q .ret [v,.int .i64 n,.bool K',.int .i64 ((i:Nat):Int),.bool false,x5] K:=fun K' e=>hq2 _ _ ⟨_,rfl,by simp[Ae8,e],rfl⟩
 by_cases hlt:i<l.length
 ·have h3:(i:Int)<((l.length:Nat):Int):=by omega
  by_cases h17:i<17
  ·obtain⟨na,ra⟩:=h.at_ hlt
   have h0:(0:Int)<=(i:Int):=by omega
   have h1:(i:Int)<((Ab9 v:Nat):Int):=by omega
   have h4:(i:Int)<(17:Int):=by omega
   have hw:=wrS (i:=i) (by omega)
   have no:inB n (l.getD i 0)=false->l.all (inB n)=false:=fun e=>Agc hlt e
   have go:inB n (l.getD i 0)=true->(l.take (i+1)).all (inB n)=true:=fun e=>Afu hlt hp e
   generalize l.getD i 0=x at*
   by_cases hx0:x<0
   ·simp(disch:=first|assumption|omega)only[P4,seval,la,ra,na,Aaj]
    refine hret _ _ (hq2 _ _ ⟨_,rfl,?_,rfl⟩)
    rw[no (by simp[inB];omega)];simp[Ae8]
   ·by_cases hxn:n<=x
    ·simp(disch:=first|assumption|omega)only[P4,seval,la,ra,na,Aaj]
     refine hret _ _ (hq2 _ _ ⟨_,rfl,?_,rfl⟩)
     rw[no (by simp[inB];omega)];simp[Ae8]
    ·simp(disch:=first|assumption|omega)only[P4,seval,la,ra,na,Aaj,hw]
     exact hn _ _ _ ⟨i+1,_,_,rfl,rfl,by omega,go (by simp[inB];omega),rfl⟩ (by omega)
  ·have h4:¬(i:Int)<(17:Int):=by omega
   have h5:¬((l.length:Nat):Int)<=(16:Int):=by omega
   simp(disch:=first|assumption|omega)only[P4,seval,la]
   refine hx 0 _ _ ?_
   simp(disch:=first|assumption|omega)only[P4,seval,la]
   refine hq2 _ _ ⟨_,rfl,?_,rfl⟩
   have:¬l.length<=16:=by omega
   simp[Ae8,this]
 ·have h3:¬(i:Int)<((l.length:Nat):Int):=by omega
  rw[List.take_of_length_le (by omega)]at hp
  by_cases h6:l.length<=16
  ·have h5:((l.length:Nat):Int)<=(16:Int):=by omega
   simp(disch:=first|assumption|omega)only[P4,seval,la]
   refine hx 0 _ _ ?_
   simp(disch:=first|assumption|omega)only[P4,seval,la]
   refine hq2 _ _ ⟨_,rfl,?_,rfl⟩
   simp[Ae8,h6,hp]
  ·have h5:¬((l.length:Nat):Int)<=(16:Int):=by omega
   simp(disch:=first|assumption|omega)only[P4,seval,la]
   refine hx 0 _ _ ?_
   simp(disch:=first|assumption|omega)only[P4,seval,la]
   refine hq2 _ _ ⟨_,rfl,?_,rfl⟩
   simp[Ae8,h6]
theorem t82{H:Aaa}{v:Value}{l:List (Int×Bool)}(h:NL H v l)(hl:l.length<=9223372036854775807):∃w H',Aaq Tryz.prog 0 82 [v] H w H'/\IL H' w ((l.take 17).map (·.1))/\Aac H H':=by
 refine Aam f82 ?_
 intro Q hq1 hq2
 have ia:=Sl.is h
 have la:=h.len
 simp(disch:=first|assumption|omega)only[f82,P3,seval,Aah,Aao]
 rw[Aag]
 refine Aal (fun k fr K=>∃i s x4,fr=[v,.slice none 0 0,s,.int .i64 ((i:Nat):Int),x4]/\OW 3 1 H K s (((l.take i).map (·.1)).map Ag1)/\i<=l.length/\i<=17/\k=l.length-i) l.length
  ⟨0,_,_,rfl,OW.nil _ _ (Aac.refl H),by omega,by omega,rfl⟩ ?_
 rintro Q' k fr K ⟨i,s,x4,rfl,ho,hi,hi7,rfl⟩ hn hx hret
 by_cases hlt:i<l.length/\i<17
 ·obtain⟨na,ra⟩:=(h.keeps ho.k).at_ hlt.1
  have h0:(0:Int)<=(i:Int):=by omega
  have h1:(i:Int)<((Ab9 v:Nat):Int):=by omega
  have h3:(i:Int)<((l.length:Nat):Int):=by omega
  have h4:(i:Int)<(17:Int):=by omega
  have hw:=wrS (i:=i) (by omega)
  have ts:=Ac7 (0,false) hlt.1
  simp(disch:=first|assumption|omega)only[P4,seval,la,ra,na,Aaj]
  have ho2:=ho.keeps ((Aac.refl K).alloc (.cells true false 1 [.int .i64 (l.getD i (0,false)).1] 3))
  refine ho2.appR (Sl.one1 rfl rfl) (by simp only[List.length_map,List.length_take,List.length_cons,List.length_nil];omega) ?_
  intro v' K' ho3 _
  simp(disch:=first|assumption|omega)only[P4,seval,hw]
  refine hn _ _ _ ⟨i+1,_,_,rfl,?_,by omega,by omega,rfl⟩ (by omega)
  rw[ts];simpa[Ag1]using ho3
 ·have fin:(l.take i).map (·.1)=(l.take 17).map (·.1):=by
   by_cases e:i=17
   ·rw[e]
   ·rw[List.take_of_length_le (show l.length<=i by omega),List.take_of_length_le (show l.length<=17 by omega)]
  rw[fin]at ho
  by_cases h3:(i:Int)<((l.length:Nat):Int)
  ·have h4:¬(i:Int)<(17:Int):=by omega
   simp(disch:=first|assumption|omega)only[P4,seval,la]
   refine hx 0 _ _ ?_
   simp(disch:=first|assumption|omega)only[P4,seval]
   exact hq2 _ _ ⟨_,rfl,ho.sl,ho.k⟩
  ·simp(disch:=first|assumption|omega)only[P4,seval,la]
   refine hx 0 _ _ ?_
   simp(disch:=first|assumption|omega)only[P4,seval]
   exact hq2 _ _ ⟨_,rfl,ho.sl,ho.k⟩
theorem Aok(n:Nat)(l:List (Int×Bool)):(decide (((l.take 17).map (·.1)).length<=16)&&((l.take 17).map (·.1)).all (inB n))=Ahd n l:=by
 unfold Ahd
 by_cases h:l.length<=16
 ·rw[List.take_of_length_le (by omega)];simp[h,List.all_map,Function.comp_def]
 ·have:¬((l.take 17).map (·.1)).length<=16:=by simp;omega
  simp only[this,h,decide_false,Bool.false_and]
theorem Asu(x:ByteArray):Aau [.string ByteArray.empty] [(0,1,.string x)]=some [.string x]:=rfl
def vB(H:Aaa)(u:V4):Aaa:=H.alloc (.cells true false 4 u.l 27)
theorem Ajb(H:Aaa)(u:V4):Aac H (vB H u):=(Aac.refl H).alloc _
theorem Asv(H:Aaa)(u:V4):(vB H u).get H.n=some (.cells true false 4 u.l 27):=Aaa.Bfd H _
theorem Aiw(a:List (List UInt8))(t:List UInt8):a.map Akz++[[.string ⟨t.toArray⟩]]=(a++[t]).map Akz:=by simp[Akz]
def NS(A:Value)(H:Aaa)(u:V4)(ns:List (List UInt8))(fr:List Value)(K:Aaa):Prop:=
 ∃s x4 x5 x6 x7 x8 x9,fr=[A,ptr H.n 0,.slice none 0 0,s,x4,x5,x6,x7,x8,x9]/\OW 9 1 (vB H u) K s (ns.map Akz)
theorem A5p{H:Aaa}{u:V4}{xs:List RV}{L:Ly}{Q:AQ}{A:Value}{fr:List Value}{K:Aaa}(h:LyR H u xs L)(hf:Af2 L)(hm:NS A H u (nm2 L 0) fr K)
 (hk:∀fr K,NS A H u (nm2 L L.p.length) fr K->Q .normal fr K):W Tryz.prog 0 (Aeu 1 (Ab1 3 f78.body)) Q fr K:=by
 obtain⟨s,x4,x5,x6,x7,x8,x9,rfl,ho⟩:=hm
 have lp:=h.p.len
 have ip:=Sl.is h.p
 simp(disch:=first|assumption|omega)only[f78,Aeu,Ab1,P3,seval,Aah,Aao]
 rw[Aag]
 refine Aal (fun k fr K=>∃i s xc,fr=[A,ptr H.n 0,.slice none 0 0,s,.int .i64 ((i:Nat):Int),x5,x6,xc,x8,x9]/\OW 9 1 (vB H u) K s ((nm2 L i).map Akz)/\i<=L.p.length/\k=L.p.length-i) L.p.length
  ⟨0,_,_,rfl,ho,by omega,rfl⟩ ?_
 clear ho
 rintro Q' k fr K ⟨i,s,xc,rfl,ho,hi,rfl⟩ hn hx hret
 have gl:=ho.k.at_ (Asv H u)
 simp only[V4.l]at gl
 by_cases hlt:i<L.p.length
 ·obtain⟨na,ra⟩:=(h.p.keeps ((Ajb H u).trans ho.k)).at_ hlt
  have h1:(0:Int)<=(i:Int):=by omega
  have h2:(i:Int)<((Ab9 u.p:Nat):Int):=by omega
  have h3:(i:Int)<((L.p.length:Nat):Int):=by omega
  have hw:IntKind.i64.wrap ((i:Int)+1)=((i+1:Nat):Int):=by rw[Aa5 (by omega) (by have:=hf.p.1;omega)];simp
  have ts:=Ac7 ([],(0:Int)) hlt
  have l1:=hf.s.1
  have l2:=hf.p.1
  have l3:=hf.g.1
  have l4:=hf.r.1
  have hnl:(nm2 L i).length<=4000000000:=by simp only[nm2,List.length_append,List.length_map,List.length_take];omega
  simp(disch:=first|assumption|omega)only[P4,seval,gl,lp,ra,na,Aaj,Asu]
  have ho2:=ho.keeps ((Aac.refl K).alloc (.cells true false 1 [.string ⟨(L.p.getD i ([],0)).1.toArray⟩] 9))
  refine ho2.appR (b:=16) (Sl.one1 rfl rfl) (by simp only[List.length_map,List.length_cons,List.length_nil];omega) ?_
  intro v' K' ho3 _
  simp(disch:=first|assumption|omega)only[P4,seval,hw]
  refine hn _ _ _ ⟨i+1,_,_,rfl,?_,by omega,rfl⟩ (by omega)
  rw[Aiw]at ho3
  have e:nm2 L i++[(L.p.getD i ([],0)).1]=nm2 L (i+1):=by simp only[nm2,ts,List.map_append,List.map_cons,List.map_nil,List.append_assoc]
  rw[e]at ho3
  exact ho3
 ·have h3:¬(i:Int)<((L.p.length:Nat):Int):=by omega
  simp(disch:=first|assumption|omega)only[P4,seval,gl,lp]
  refine hx 0 _ _ ?_
  have e:i=L.p.length:=by omega
  subst e
  exact hk _ _ ⟨_,_,_,_,_,_,_,rfl,ho⟩
theorem A5q{H:Aaa}{u:V4}{xs:List RV}{L:Ly}{Q:AQ}{A:Value}{fr:List Value}{K:Aaa}(h:LyR H u xs L)(hf:Af2 L)(hm:NS A H u (nm3 L 0) fr K)
 (hk:∀fr K,NS A H u (nm3 L L.g.length) fr K->Q .normal fr K):W Tryz.prog 0 (Aeu 1 (Ab1 4 f78.body)) Q fr K:=by
 obtain⟨s,x4,x5,x6,x7,x8,x9,rfl,ho⟩:=hm
 have lp:=h.g.len
 have ip:=Sl.is h.g
 simp(disch:=first|assumption|omega)only[f78,Aeu,Ab1,P3,seval,Aah,Aao]
 rw[Aag]
 refine Aal (fun k fr K=>∃i s xc,fr=[A,ptr H.n 0,.slice none 0 0,s,x4,.int .i64 ((i:Nat):Int),x6,x7,xc,x9]/\OW 9 1 (vB H u) K s ((nm3 L i).map Akz)/\i<=L.g.length/\k=L.g.length-i) L.g.length
  ⟨0,_,_,rfl,ho,by omega,rfl⟩ ?_
 clear ho
 rintro Q' k fr K ⟨i,s,xc,rfl,ho,hi,rfl⟩ hn hx hret
 have gl:=ho.k.at_ (Asv H u)
 simp only[V4.l]at gl
 by_cases hlt:i<L.g.length
 ·obtain⟨na,ra⟩:=(h.g.keeps ((Ajb H u).trans ho.k)).at_ hlt
  have h1:(0:Int)<=(i:Int):=by omega
  have h2:(i:Int)<((Ab9 u.g:Nat):Int):=by omega
  have h3:(i:Int)<((L.g.length:Nat):Int):=by omega
  have hw:IntKind.i64.wrap ((i:Int)+1)=((i+1:Nat):Int):=by rw[Aa5 (by omega) (by have:=hf.g.1;omega)];simp
  have ts:=Ac7 ([],(0:Int)) hlt
  have l1:=hf.s.1
  have l2:=hf.p.1
  have l3:=hf.g.1
  have l4:=hf.r.1
  have hnl:(nm3 L i).length<=4000000000:=by simp only[nm3,List.length_append,List.length_map,List.length_take];omega
  simp(disch:=first|assumption|omega)only[P4,seval,gl,lp,ra,na,Aaj,Asu]
  have ho2:=ho.keeps ((Aac.refl K).alloc (.cells true false 1 [.string ⟨(L.g.getD i ([],0)).1.toArray⟩] 9))
  refine ho2.appR (b:=16) (Sl.one1 rfl rfl) (by simp only[List.length_map,List.length_cons,List.length_nil];omega) ?_
  intro v' K' ho3 _
  simp(disch:=first|assumption|omega)only[P4,seval,hw]
  refine hn _ _ _ ⟨i+1,_,_,rfl,?_,by omega,rfl⟩ (by omega)
  rw[Aiw]at ho3
  have e:nm3 L i++[(L.g.getD i ([],0)).1]=nm3 L (i+1):=by simp only[nm3,ts,List.map_append,List.map_cons,List.map_nil,List.append_assoc]
  rw[e]at ho3
  exact ho3
 ·have h3:¬(i:Int)<((L.g.length:Nat):Int):=by omega
  simp(disch:=first|assumption|omega)only[P4,seval,gl,lp]
  refine hx 2 _ _ ?_
  have e:i=L.g.length:=by omega
  subst e
  exact hk _ _ ⟨_,_,_,_,_,_,_,rfl,ho⟩
theorem A5r{H:Aaa}{u:V4}{xs:List RV}{L:Ly}{Q:AQ}{A:Value}{fr:List Value}{K:Aaa}(h:LyR H u xs L)(hf:Af2 L)(hm:NS A H u (nm4 L 0) fr K)
 (hk:∀fr K,NS A H u (nm4 L L.r.length) fr K->Q .normal fr K):W Tryz.prog 0 (Aeu 1 (Ab1 5 f78.body)) Q fr K:=by
 obtain⟨s,x4,x5,x6,x7,x8,x9,rfl,ho⟩:=hm
 have lp:=h.r.len
 rw[h.rlen]at lp
 have ip:=Sl.is h.r
 simp(disch:=first|assumption|omega)only[f78,Aeu,Ab1,P3,seval,Aah,Aao]
 rw[Aag]
 refine Aal (fun k fr K=>∃i s xc,fr=[A,ptr H.n 0,.slice none 0 0,s,x4,x5,.int .i64 ((i:Nat):Int),x7,x8,xc]/\OW 9 1 (vB H u) K s ((nm4 L i).map Akz)/\i<=L.r.length/\k=L.r.length-i) L.r.length
  ⟨0,_,_,rfl,ho,by omega,rfl⟩ ?_
 clear ho
 rintro Q' k fr K ⟨i,s,xc,rfl,ho,hi,rfl⟩ hn hx hret
 have gl:=ho.k.at_ (Asv H u)
 simp only[V4.l]at gl
 by_cases hlt:i<L.r.length
 ·obtain⟨na,ra⟩:=RL.at_ (h.r.keeps ((Ajb H u).trans ho.k)) (show i<xs.length by rw[h.rlen];exact hlt)
  have h1:(0:Int)<=(i:Int):=by omega
  have h2:(i:Int)<((Ab9 u.r:Nat):Int):=by omega
  have h3:(i:Int)<((L.r.length:Nat):Int):=by omega
  have hw:IntKind.i64.wrap ((i:Int)+1)=((i+1:Nat):Int):=by rw[Aa5 (by omega) (by have:=hf.r.1;omega)];simp
  have ts:=Ac7 rv0.r hlt
  have l1:=hf.s.1
  have l2:=hf.p.1
  have l3:=hf.g.1
  have l4:=hf.r.1
  have hnl:(nm4 L i).length<=4000000000:=by simp only[nm4,List.length_append,List.length_map,List.length_take];omega
  obtain⟨_,xr⟩:=h.rat hlt
  rw[<-xr]at ts
  simp only[RV.row]at ra
  simp(disch:=first|assumption|omega)only[P4,seval,gl,lp,ra,na,Aaj,Asu]
  have ho2:=ho.keeps ((Aac.refl K).alloc (.cells true false 1 [.string ⟨((xs.getD i rv0).r).n.toArray⟩] 9))
  refine ho2.appR (b:=16) (Sl.one1 rfl rfl) (by simp only[List.length_map,List.length_cons,List.length_nil];omega) ?_
  intro v' K' ho3 _
  simp(disch:=first|assumption|omega)only[P4,seval,hw]
  refine hn _ _ _ ⟨i+1,_,_,rfl,?_,by omega,rfl⟩ (by omega)
  rw[Aiw]at ho3
  have e:nm4 L i++[((xs.getD i rv0).r).n]=nm4 L (i+1):=by simp only[nm4,ts,List.map_append,List.map_cons,List.map_nil,List.append_assoc]
  rw[e]at ho3
  exact ho3
 ·have h3:¬(i:Int)<((L.r.length:Nat):Int):=by omega
  simp(disch:=first|assumption|omega)only[P4,seval,gl,lp]
  refine hx 4 _ _ ?_
  have e:i=L.r.length:=by omega
  subst e
  exact hk _ _ ⟨_,_,_,_,_,_,_,rfl,ho⟩
theorem Asw(L:Ly):nm3 L 0=nm2 L L.p.length/\nm4 L 0=nm3 L L.g.length/\Acl L=nm4 L L.r.length:=by
 simp[nm2,nm3,nm4,Acl]
theorem t78{H:Aaa}{u:V4}{xs:List RV}{L:Ly}(h:LyR H u xs L)(hf:Af2 L):∃w H',Aaq Tryz.prog 0 78 [.agg u.l.toArray] H w H'/\OW 9 1 H H' w ((Acl L).map Akz):=by
 refine Aam f78 ?_
 intro Q hq1 hq2
 refine Aco 3 (NS (.agg u.l.toArray) H u (nm2 L 0)) (by kernel_rfl) ?_ (fun fr K m=>?_)
 ·intro Q' a _ _
  have ls:=h.s.len
  have is:=Sl.is h.s
  have os:=Sl.one h.s
  have op:=Sl.one h.p
  have og:=Sl.one h.g
  have or:=Sl.one h.r
  have hs:=h.s.keeps (Ajb H u)
  have l1:=hf.s.1
  have ho:OW 9 1 (vB H u) (vB H u) (.slice none 0 0) []:=OW.nil _ _ (Aac.refl _)
  unfold NS vB at*
  obtain⟨us,up,ug,ur⟩:=u
  simp only[V4.l]at*
  simp(disch:=first|assumption|omega)only[f78,Aeu,P4,seval,os,op,og,or]
  refine ho.appR (rows2:=L.s.map Akz) hs (by simp only[List.length_map,List.length_nil];omega) ?_
  intro v' K' ho3 _
  simp(disch:=first|assumption|omega)only[P4,seval]
  refine a _ _ ⟨_,_,_,_,_,_,_,rfl,?_⟩
  simpa[nm2]using ho3
 refine Aco 1 (NS (.agg u.l.toArray) H u (nm3 L 0)) (by kernel_rfl) (fun Q' a _ _=>A5p h hf m (by rw[(Asw L).1]at a;exact a)) (fun fr K m=>?_)
 refine Aco 1 (NS (.agg u.l.toArray) H u (nm4 L 0)) (by kernel_rfl) (fun Q' a _ _=>A5q h hf m (by rw[(Asw L).2.1]at a;exact a)) (fun fr K m=>?_)
 refine Aco 1 (NS (.agg u.l.toArray) H u (Acl L)) (by kernel_rfl) (fun Q' a _ _=>A5r h hf m (by rw[(Asw L).2.2]at a;exact a)) (fun fr K m=>?_)
 obtain⟨s,x4,x5,x6,x7,x8,x9,rfl,ho⟩:=m
 simp(disch:=first|assumption|omega)only[f78,Ab1,P4,seval]
 exact hq2 _ _ ⟨_,rfl,ho.base (Ajb H u)⟩
theorem Av5{l:List (List UInt8)}{i:Nat}(h:i<l.length)(hr:Acq (l.getD i [])=false):okN l=false:=by
 simp only[okN,Agc h hr,Bool.false_and]
theorem Ahe{α:Type}[BEq α][LawfulBEq α]{l:List α}{i:Nat}{d:α}(h:i<l.length)(hc:(l.take i).contains (l.getD i d)=true):¬l.Nodup:=by
 intro hn
 have e:l=l.take i++l.drop i:=(List.take_append_drop i l).symm
 rw[e]at hn
 have h2:=(List.nodup_append.1 hn).2.2
 have h3:l.getD i d∈l.drop i:=by
  rw[List.mem_iff_getElem?]
  exact⟨0,by simp[List.getD,List.getElem?_eq_getElem h]⟩
 exact h2 _ (by simpa using hc) _ h3 rfl
theorem Av6{l:List (List UInt8)}{i:Nat}(h:i<l.length)(hc:(l.take i).contains (l.getD i [])=true):okN l=false:=by
 have:=Ahe h hc
 simp[okN,this]
theorem A5s{n:List UInt8}{l:List (List UInt8)}(h:l.contains n=false):ixV n l= -1:=by
 have:=Am6 (n:=n) (l:=l)
 rw[h]at this
 unfold ixV
 cases he:ixT n l with
 |none=>rfl
 |some i=>rw[he]at this;cases this
theorem A06{n:List UInt8}{l:List (List UInt8)}(h:l.contains n=true):0<=ixV n l:=by
 have:=Am6 (n:=n) (l:=l)
 rw[h]at this
 unfold ixV
 cases he:ixT n l with
 |none=>rw[he]at this;cases this
 |some i=>simp
def RF(A:Value)(H:Aaa)(fr:List Value)(K:Aaa):Prop:=∃x3 x4 x5 x6 x7 x8 x9 x10 x11 x12 x13 x14 x15 x16 x17,fr=[A,ptr H.n 0,.bool false,x3,x4,x5,x6,x7,x8,x9,x10,x11,x12,x13,x14,x15,x16,x17]/\Aac H K
def RM(A:Value)(H:Aaa)(u:V4)(L:Ly)(ok:Prop)(fr:List Value)(K:Aaa):Prop:=
 ∃vn x4 x5 x6 x7 x8 x9 x10 x11 x12 x13 x14 x15 x16 x17,fr=[A,ptr H.n 0,.bool false,vn,x4,x5,x6,x7,x8,x9,x10,x11,x12,x13,x14,x15,x16,x17]/\Aac (vB H u) K/\OW 9 1 H K vn ((Acl L).map Akz)/\ok
theorem Apr{L:Ly}(hf:Af2 L):∀x∈Acl L,x.length<=9223372036854775807:=by
 intro x hx
 simp only[Acl,List.mem_append,List.mem_map]at hx
 rcases hx with((hx|⟨y,hy,rfl⟩)|⟨y,hy,rfl⟩)|⟨y,hy,rfl⟩
 ·exact hf.s.2 x hx
 ·exact hf.p.2 y hy
 ·exact hf.g.2 y hy
 ·exact(hf.r.2 y hy).1
theorem Bad{H:Aaa}{u:V4}{L:Ly}{Q:AQ}{A:Value}{fr:List Value}{K:Aaa}(hf:Af2 L)(hs:(Acl L).length<=1000000000)(hm:RM A H u L True fr K)
 (hk:∀fr K,RM A H u L (okN (Acl L)=true) fr K->Q .normal fr K) (hr:Aew L=false->∀fr K,RF A H fr K->Q .ret fr K):W Tryz.prog 0 (Aeu 1 (Ab1 3 f47.body)) Q fr K:=by
 obtain⟨vn,x4,x5,x6,x7,x8,x9,x10,x11,x12,x13,x14,x15,x16,x17,rfl,hkK,ho,_⟩:=hm
 have ia:=ho.is
 have la:=ho.len
 rw[List.length_map]at la
 have hfit:=Apr hf
 have bad:okN (Acl L)=false->Aew L=false:=fun e=>by simp[Aew,e]
 have ht:TL K vn (Acl L):=ho.sl
 obtain⟨ns,hns⟩:∃ns,ns=Acl L:=⟨_,rfl⟩
 rw[<-hns]at hs la hfit bad ht
 have ho':=ho
 rw[<-hns]at ho'
 simp(disch:=first|assumption|omega)only[f47,Aeu,Ab1,P3,seval,Aah,Aao]
 rw[Aag]
 refine Aal (fun k fr K'=>∃i x10 x11,fr=[A,ptr H.n 0,.bool false,vn,.int .i64 ((i:Nat):Int),x5,x6,x7,x8,x9,x10,x11,x12,x13,x14,x15,x16,x17]/\K'=K/\i<=ns.length/\okN (ns.take i)=true/\k=ns.length-i) ns.length
  ⟨0,_,_,rfl,rfl,by omega,by simp[okN],rfl⟩ ?_
 rintro Q' k fr _ ⟨i,x10,x11,rfl,rfl,hi,hp,rfl⟩ hn hx hret
 by_cases hlt:i<ns.length
 ·obtain⟨na,ra⟩:=ht.at_ hlt
  have h0:(0:Int)<=(i:Int):=by omega
  have h1:(i:Int)<((Ab9 vn:Nat):Int):=by omega
  have h3:(i:Int)<((ns.length:Nat):Int):=by omega
  have hw:=wrS (i:=i) (by omega)
  have hlen:=hfit _ (Adt (d:=[]) hlt)
  obtain⟨w,s1,s2⟩:=ho'.pre (kd:=.i64) (i:=i) (by rw[List.length_map];omega)
  rw[<-List.map_take]at s2
  have hs1:=Agq (ns.take i) (ns.getD i [])
  rw[<-Ac7 [] hlt,hp]at hs1
  have b1:=fun e=>Av5 (l:=ns) hlt e
  have b2:=fun e=>Av6 (l:=ns) hlt e
  unfold Akz at ra
  generalize ns.getD i []=n at*
  simp(disch:=first|assumption|omega)only[P4,seval,la,ra,na,Aaj]
  refine Aae (t79 _ n hlen) ?_
  rintro _ _ ⟨rfl,rfl⟩
  cases hrn:Acq n with
  |false=>
   simp(disch:=first|assumption|omega)only[P4,seval]
   exact hret _ _ (hr (bad (b1 hrn)) _ _ ⟨_,_,_,_,_,_,_,_,_,_,_,_,_,_,_,rfl,(Ajb H u).trans hkK⟩)
  |true=>
  simp(disch:=first|assumption|omega)only[P4,seval,s1,la,ra,na,Aaj]
  refine Aae (t80 s2 (by rw[List.length_take];omega) n) ?_
  rintro _ _ ⟨rfl,rfl⟩
  cases hc:(ns.take i).contains n with
  |true=>
   have c0:=A06 hc
   simp(disch:=first|assumption|omega)only[P4,seval]
   exact hret _ _ (hr (bad (b2 hc)) _ _ ⟨_,_,_,_,_,_,_,_,_,_,_,_,_,_,_,rfl,(Ajb H u).trans hkK⟩)
  |false=>
   have c0:=A5s hc
   rw[c0]
   have c1:¬(0:Int)<= -1:=by omega
   simp(disch:=first|assumption|omega)only[P4,seval,hw]
   exact hn _ _ _ ⟨i+1,_,_,rfl,rfl,by omega,by rw[hs1,hrn,hc];rfl,rfl⟩ (by omega)
 ·have h3:¬(i:Int)<((ns.length:Nat):Int):=by omega
  simp(disch:=first|assumption|omega)only[P4,seval,la]
  refine hx 0 _ _ ?_
  rw[List.take_of_length_le (by omega),hns]at hp
  exact hk _ _ ⟨_,_,_,_,_,_,_,_,_,_,_,_,_,_,_,rfl,hkK,ho,hp⟩
def C2(L:Ly):Prop:=okN (Acl L)=true/\L.p.all (fun x=>inB L.s.length x.2)=true
def C3(L:Ly):Prop:=C2 L/\L.g.all (fun x=>inB L.s.length x.2)=true
theorem Bae{H:Aaa}{u:V4}{xs:List RV}{L:Ly}{Q:AQ}{A:Value}{fr:List Value}{K:Aaa}(h:LyR H u xs L)(hf:Af2 L)(hm:RM A H u L (okN (Acl L)=true) fr K)
 (hk:∀fr K,RM A H u L (C2 L) fr K->Q .normal fr K) (hr:Aew L=false->∀fr K,RF A H fr K->Q .ret fr K):W Tryz.prog 0 (Aeu 1 (Ab1 4 f47.body)) Q fr K:=by
 obtain⟨vn,x4,x5,x6,x7,x8,x9,x10,x11,x12,x13,x14,x15,x16,x17,rfl,hkK,ho,hpre⟩:=hm
 have lp:=h.p.len
 have ls:=h.s.len
 have ip:=Sl.is h.p
 have is:=Sl.is h.s
 have bad:L.p.all (fun x=>inB L.s.length x.2)=false->Aew L=false:=fun e=>by simp only[Aew,e];simp
 simp(disch:=first|assumption|omega)only[f47,Aeu,Ab1,P3,seval,Aah,Aao]
 rw[Aag]
 refine Aal (fun k fr K=>∃i xc xd,fr=[A,ptr H.n 0,.bool false,vn,x4,.int .i64 ((i:Nat):Int),x6,x7,x8,x9,x10,x11,xc,xd,x14,x15,x16,x17]/\Aac (vB H u) K/\OW 9 1 H K vn ((Acl L).map Akz)/\i<=L.p.length/\(L.p.take i).all (fun x=>inB L.s.length x.2)=true/\k=L.p.length-i) L.p.length
  ⟨0,_,_,rfl,hkK,ho,by omega,by simp,rfl⟩ ?_
 clear hkK ho
 rintro Q' k fr K ⟨i,xc,xd,rfl,hkK,ho,hi,hp,rfl⟩ hn hx hret
 have gl:=hkK.at_ (Asv H u)
 simp only[V4.l]at gl
 by_cases hlt:i<L.p.length
 ·obtain⟨na,ra⟩:=(h.p.keeps ((Ajb H u).trans hkK)).at_ hlt
  have h1:(0:Int)<=(i:Int):=by omega
  have h2:(i:Int)<((Ab9 u.p:Nat):Int):=by omega
  have h3:(i:Int)<((L.p.length:Nat):Int):=by omega
  have hw:IntKind.i64.wrap ((i:Int)+1)=((i+1:Nat):Int):=by rw[Aa5 (by omega) (by have:=hf.p.1;omega)];simp
  have stop:=fun e=>Agc (p:=fun x:List UInt8×Int=>inB L.s.length x.2) (d:=([],0)) hlt e
  have go:=fun e=>Afu (p:=fun x:List UInt8×Int=>inB L.s.length x.2) (d:=([],0)) hlt hp e
  generalize L.p.getD i ([],0)=y at*
  have o1:one1 (Value.int .i64 y.2)=True:=by simp[one1,Aav]
  have gl2:=((Aac.refl K).alloc (.cells true false 1 [.int .i64 y.2] 3)).at_ gl
  have hk2:=hkK.trans ((Aac.refl K).alloc (.cells true false 1 [.int .i64 y.2] 3))
  have ho2:=ho.keeps ((Aac.refl K).alloc (.cells true false 1 [.int .i64 y.2] 3))
  have hln:=Aaa.Bfg gl
  have hil:IL (K.alloc (.cells true false 1 [.int .i64 y.2] 3)) (slc K.n 0 1 1) [y.2]:=
   ⟨⟨_,_,rfl⟩,by simp[Ag1],by rw[Acc rfl rfl];rfl⟩
  simp(disch:=first|assumption|omega)only[P4,seval,gl,gl2,lp,ls,ra,na,Aaj,o1]
  refine Aat (t81 _ hil (by simp)) ?_
  have e:(decide ([y.2].length<=16)&&[y.2].all (inB (L.s.length:Nat)))=inB L.s.length y.2:=by simp
  rw[e]
  cases hb:inB L.s.length y.2 with
  |false=>
   simp(disch:=first|assumption|omega)only[P4,seval]
   exact hret _ _ (hr (bad (stop hb)) _ _ ⟨_,_,_,_,_,_,_,_,_,_,_,_,_,_,_,rfl,(Ajb H u).trans hk2⟩)
  |true=>
   simp(disch:=first|assumption|omega)only[P4,seval,hw]
   exact hn _ _ _ ⟨i+1,_,_,rfl,hk2,ho2,by omega,go hb,rfl⟩ (by omega)
 ·have h3:¬(i:Int)<((L.p.length:Nat):Int):=by omega
  simp(disch:=first|assumption|omega)only[P4,seval,gl,lp]
  refine hx 2 _ _ ?_
  rw[List.take_of_length_le (by omega)]at hp
  exact hk _ _ ⟨_,_,_,_,_,_,_,_,_,_,_,_,_,_,_,rfl,hkK,ho,hpre,hp⟩
theorem Baf{H:Aaa}{u:V4}{xs:List RV}{L:Ly}{Q:AQ}{A:Value}{fr:List Value}{K:Aaa}(h:LyR H u xs L)(hf:Af2 L)(hm:RM A H u L (C2 L) fr K)
 (hk:∀fr K,RM A H u L (C3 L) fr K->Q .normal fr K) (hr:Aew L=false->∀fr K,RF A H fr K->Q .ret fr K):W Tryz.prog 0 (Aeu 1 (Ab1 5 f47.body)) Q fr K:=by
 obtain⟨vn,x4,x5,x6,x7,x8,x9,x10,x11,x12,x13,x14,x15,x16,x17,rfl,hkK,ho,hpre⟩:=hm
 have lp:=h.g.len
 have ls:=h.s.len
 have ip:=Sl.is h.g
 have is:=Sl.is h.s
 have bad:L.g.all (fun x=>inB L.s.length x.2)=false->Aew L=false:=fun e=>by simp only[Aew,e];simp
 simp(disch:=first|assumption|omega)only[f47,Aeu,Ab1,P3,seval,Aah,Aao]
 rw[Aag]
 refine Aal (fun k fr K=>∃i xc xd,fr=[A,ptr H.n 0,.bool false,vn,x4,x5,.int .i64 ((i:Nat):Int),x7,x8,x9,x10,x11,x12,x13,xc,xd,x16,x17]/\Aac (vB H u) K/\OW 9 1 H K vn ((Acl L).map Akz)/\i<=L.g.length/\(L.g.take i).all (fun x=>inB L.s.length x.2)=true/\k=L.g.length-i) L.g.length
  ⟨0,_,_,rfl,hkK,ho,by omega,by simp,rfl⟩ ?_
 clear hkK ho
 rintro Q' k fr K ⟨i,xc,xd,rfl,hkK,ho,hi,hp,rfl⟩ hn hx hret
 have gl:=hkK.at_ (Asv H u)
 simp only[V4.l]at gl
 by_cases hlt:i<L.g.length
 ·obtain⟨na,ra⟩:=(h.g.keeps ((Ajb H u).trans hkK)).at_ hlt
  have h1:(0:Int)<=(i:Int):=by omega
  have h2:(i:Int)<((Ab9 u.g:Nat):Int):=by omega
  have h3:(i:Int)<((L.g.length:Nat):Int):=by omega
  have hw:IntKind.i64.wrap ((i:Int)+1)=((i+1:Nat):Int):=by rw[Aa5 (by omega) (by have:=hf.g.1;omega)];simp
  have stop:=fun e=>Agc (p:=fun x:List UInt8×Int=>inB L.s.length x.2) (d:=([],0)) hlt e
  have go:=fun e=>Afu (p:=fun x:List UInt8×Int=>inB L.s.length x.2) (d:=([],0)) hlt hp e
  generalize L.g.getD i ([],0)=y at*
  have o1:one1 (Value.int .i64 y.2)=True:=by simp[one1,Aav]
  have gl2:=((Aac.refl K).alloc (.cells true false 1 [.int .i64 y.2] 3)).at_ gl
  have hk2:=hkK.trans ((Aac.refl K).alloc (.cells true false 1 [.int .i64 y.2] 3))
  have ho2:=ho.keeps ((Aac.refl K).alloc (.cells true false 1 [.int .i64 y.2] 3))
  have hln:=Aaa.Bfg gl
  have hil:IL (K.alloc (.cells true false 1 [.int .i64 y.2] 3)) (slc K.n 0 1 1) [y.2]:=
   ⟨⟨_,_,rfl⟩,by simp[Ag1],by rw[Acc rfl rfl];rfl⟩
  simp(disch:=first|assumption|omega)only[P4,seval,gl,gl2,lp,ls,ra,na,Aaj,o1]
  refine Aat (t81 _ hil (by simp)) ?_
  have e:(decide ([y.2].length<=16)&&[y.2].all (inB (L.s.length:Nat)))=inB L.s.length y.2:=by simp
  rw[e]
  cases hb:inB L.s.length y.2 with
  |false=>
   simp(disch:=first|assumption|omega)only[P4,seval]
   exact hret _ _ (hr (bad (stop hb)) _ _ ⟨_,_,_,_,_,_,_,_,_,_,_,_,_,_,_,rfl,(Ajb H u).trans hk2⟩)
  |true=>
   simp(disch:=first|assumption|omega)only[P4,seval,hw]
   exact hn _ _ _ ⟨i+1,_,_,rfl,hk2,ho2,by omega,go hb,rfl⟩ (by omega)
 ·have h3:¬(i:Int)<((L.g.length:Nat):Int):=by omega
  simp(disch:=first|assumption|omega)only[P4,seval,gl,lp]
  refine hx 4 _ _ ?_
  rw[List.take_of_length_le (by omega)]at hp
  exact hk _ _ ⟨_,_,_,_,_,_,_,_,_,_,_,_,_,_,_,rfl,hkK,ho,hpre,hp⟩
theorem A5t{L:Ly}{i:Nat}(hi:i<L.r.length)(h:roB L (L.r.getD i rv0.r)=false):Aew L=false:=by
 have:=Agc (p:=roB L) (d:=rv0.r) hi h
 simp only[Aew,this];simp
theorem Bag{H:Aaa}{u:V4}{xs:List RV}{L:Ly}{Q:AQ}{A:Value}{fr:List Value}{K:Aaa}(h:LyR H u xs L)(hf:Af2 L)(hm:RM A H u L (C3 L) fr K)
 (hk:∀fr K,RM A H u L (C3 L/\L.r.all (roB L)=true) fr K->Q .normal fr K) (hr:Aew L=false->∀fr K,RF A H fr K->Q .ret fr K):W Tryz.prog 0 (Aeu 1 (Ab1 6 f47.body)) Q fr K:=by
 obtain⟨vn,x4,x5,x6,x7,x8,x9,x10,x11,x12,x13,x14,x15,x16,x17,rfl,hkK,ho,hpre⟩:=hm
 have lp:=h.p.len
 have ls:=h.s.len
 have lg:=h.g.len
 have lr:=h.r.len
 rw[h.rlen]at lr
 have ip:=Sl.is h.p
 have is:=Sl.is h.s
 have ig:=Sl.is h.g
 have ir:=Sl.is h.r
 simp(disch:=first|assumption|omega)only[f47,Aeu,Ab1,P3,seval,Aah,Aao]
 rw[Aag]
 refine Aal (fun k fr K=>∃i x8 xc xd,fr=[A,ptr H.n 0,.bool false,vn,x4,x5,x6,.int .i64 ((i:Nat):Int),x8,x9,x10,x11,x12,x13,x14,x15,xc,xd]/\Aac (vB H u) K/\OW 9 1 H K vn ((Acl L).map Akz)/\i<=L.r.length/\(L.r.take i).all (roB L)=true/\k=L.r.length-i) L.r.length
  ⟨0,_,_,_,rfl,hkK,ho,by omega,by simp,rfl⟩ ?_
 clear hkK ho
 rintro Q' k fr K ⟨i,x8,xc,xd,rfl,hkK,ho,hi,hp,rfl⟩ hn hx hret
 have gl:=hkK.at_ (Asv H u)
 simp only[V4.l]at gl
 by_cases hlt:i<L.r.length
 ·have hlt':i<xs.length:=by rw[h.rlen];exact hlt
  obtain⟨na,ra⟩:=RL.at_ (h.r.keeps ((Ajb H u).trans hkK)) hlt'
  obtain⟨xok,xr⟩:=h.rat hlt
  have hbl:=Sl.bn_le (h.r.keeps ((Ajb H u).trans hkK)) (by intro e;simp at e;rw[e]at hlt';simp at hlt') (by omega)
  have h1:(0:Int)<=(i:Int):=by omega
  have h2:(i:Int)<((Ab9 u.r:Nat):Int):=by omega
  have h3:(i:Int)<((L.r.length:Nat):Int):=by omega
  have hw:IntKind.i64.wrap ((i:Int)+1)=((i+1:Nat):Int):=by rw[Aa5 (by omega) (by have:=hf.r.1;omega)];simp
  have hlen:=hf.r.2 _ (Adt (d:=rv0.r) hlt)
  have stop:=A5t hlt
  have go:=fun e=>Afu (p:=roB L) (d:=rv0.r) hlt hp e
  rw[<-xr]at stop go hlen
  clear xr
  generalize xs.getD i rv0=y at*
  simp only[RV.row]at ra
  have iP:=Sl.is xok.p
  have iQ:=Sl.is xok.q
  have iO:=Sl.is xok.o
  have iF:=Sl.is xok.f
  have o1:one1 (Value.int .i64 y.r.g)=True:=by simp[one1,Aav]
  have o2:one1 (Value.string ⟨y.r.n.toArray⟩)=True:=by simp[one1,Abc]
  have o3:=Aap iP
  have o4:=Aap iQ
  have o5:=Aap iO
  have o6:=Aap iF
  obtain⟨row,hrow⟩:∃row,row=[.string ⟨y.r.n.toArray⟩,.int .i64 y.r.g,y.vp,y.vq,y.vo,y.vf]:=⟨_,rfl⟩
  have k1:=(Aac.refl K).alloc (.cells true false 6 row 87)
  have gv1:=Aaa.Bfd K (.cells true false 6 row 87)
  obtain⟨K1,hK1⟩:∃X,X=K.alloc (.cells true false 6 row 87):=⟨_,rfl⟩
  have n1:K1.n=K.n+1:=by rw[hK1];rfl
  have k2:=(Aac.refl K1).alloc (.cells true false 1 [.int .i64 y.r.g] 3)
  obtain⟨K2,hK2⟩:∃X,X=K1.alloc (.cells true false 1 [.int .i64 y.r.g] 3):=⟨_,rfl⟩
  have n2:K2.n=K1.n+1:=by rw[hK2];rfl
  have hil:IL K2 (slc K1.n 0 1 1) [y.r.g]:=by
   rw[hK2];exact⟨⟨_,_,rfl⟩,by simp[Ag1],by rw[Acc rfl rfl];rfl⟩
  rw[<-hK1]at k1 gv1
  rw[<-hK2]at k2
  have gv2:=k2.at_ gv1
  have gl2:=(k1.trans k2).at_ gl
  have hk2:=hkK.trans (k1.trans k2)
  have ho2:=ho.keeps (k1.trans k2)
  have xk:=xok.keeps ((Ajb H u).trans hk2)
  have fin:∀{X:Aaa} {x8 xc xd:Value},Aac (vB H u) X->roB L y.r=false->Q' .ret [A,ptr H.n 0,.bool false,vn,x4,x5,x6,.int .i64 ((i:Nat):Int),x8,x9,x10,x11,x12,x13,x14,x15,xc,xd] X:=
   fun hX e=>hret _ _ (hr (stop e) _ _ ⟨_,_,_,_,_,_,_,_,_,_,_,_,_,_,_,rfl,(Ajb H u).trans hX⟩)
  have hln:=Aaa.Bfg gl
  subst hrow
  simp(disch:=first|assumption|omega|(simp only[LN]<;>omega)|(simp(disch:=first|assumption|omega|(simp only[LN]<;>omega))only[Aab,Aad];assumption))only[P4,seval,gl,lr,lg,ra,na,Aai,o1,o2,o3,o4,o5,o6]
  rw[<-hK1,<-hK2,<-n1]
  refine Aat (t81 _ hil (by simp)) ?_
  have e:(decide ([y.r.g].length<=16)&&[y.r.g].all (inB (L.g.length:Nat)))=inB L.g.length y.r.g:=by simp
  rw[e]
  have lP:=hlen.2.1
  have lQ:=hlen.2.2.1
  have lO:=hlen.2.2.2.1
  have lF:=hlen.2.2.2.2
  have e1:roB L y.r=(inB L.g.length y.r.g&&((decide (y.r.path.length<=16)&&y.r.path.all (inB L.s.length))&&((decide (y.r.ov.length<=16)&&y.r.ov.all (inB L.s.length))&&(Ahd L.p.length y.r.pts&&Ahd L.p.length y.r.fl)))):=by
   simp only[roB]
   cases inB L.g.length y.r.g<;>cases decide (y.r.path.length<=16)<;>cases decide (y.r.ov.length<=16)<;>cases y.r.path.all (inB L.s.length)<;>cases y.r.ov.all (inB L.s.length)<;>rfl
  cases hb:inB L.g.length y.r.g with
  |false=>
   simp(disch:=first|assumption|omega)only[P4,seval]
   exact fin hk2 (by rw[e1,hb];rfl)
  |true=>
  simp(disch:=first|assumption|omega)only[P4,seval,gv2,gl2,ls]
  refine Aat (t81 _ xk.p lP) ?_
  cases hbp:(decide (y.r.path.length<=16)&&y.r.path.all (inB (L.s.length:Nat)))with
  |false=>
   simp(disch:=first|assumption|omega)only[P4,seval]
   exact fin hk2 (by rw[e1,hbp];simp)
  |true=>
  simp(disch:=first|assumption|omega)only[P4,seval,gv2,gl2,ls]
  refine Aat (t81 _ xk.o lO) ?_
  cases hbo:(decide (y.r.ov.length<=16)&&y.r.ov.all (inB (L.s.length:Nat)))with
  |false=>
   simp(disch:=first|assumption|omega)only[P4,seval]
   exact fin hk2 (by rw[e1,hbo];simp)
  |true=>
  simp(disch:=first|assumption|omega)only[P4,seval,gv2,gl2,ls]
  refine Aae (t82 xk.q lQ) ?_
  rintro wq K3 ⟨hq,k3⟩
  have gl3:=k3.at_ gl2
  have gv3:=k3.at_ gv2
  have hln2:=Aaa.Bfg gl2
  have xk3:=xk.keeps k3
  simp(disch:=first|assumption|omega)only[P4,seval,gl2,gl3,gv3,lp]
  refine Aae (t81 _ hq (by rw[List.length_map,List.length_take];omega)) ?_
  rintro _ X ⟨rfl,hX⟩
  rw[hX,Aok]
  cases hbq:Ahd L.p.length y.r.pts with
  |false=>
   simp(disch:=first|assumption|omega)only[P4,seval]
   exact fin (hk2.trans k3) (by rw[e1,hbq];simp)
  |true=>
  simp(disch:=first|assumption|omega)only[P4,seval,gl3,gv3,lp]
  refine Aae (t82 xk3.f lF) ?_
  rintro wf K4 ⟨hfl,k4⟩
  have gl4:=k4.at_ gl3
  have hln3:=Aaa.Bfg gl3
  simp(disch:=first|assumption|omega)only[P4,seval,gl3,gl4,lp]
  refine Aae (t81 _ hfl (by rw[List.length_map,List.length_take];omega)) ?_
  rintro _ X ⟨rfl,hX⟩
  rw[hX,Aok]
  have hk4:=(hk2.trans k3).trans k4
  cases hbf:Ahd L.p.length y.r.fl with
  |false=>
   simp(disch:=first|assumption|omega)only[P4,seval]
   exact fin hk4 (by rw[e1,hbf];simp)
  |true=>
   simp(disch:=first|assumption|omega)only[P4,seval,hw]
   exact hn _ _ _ ⟨i+1,_,_,_,rfl,hk4,(ho2.keeps k3).keeps k4,by omega,go (by rw[e1,hb,hbp,hbo,hbq,hbf];rfl),rfl⟩ (by omega)
 ·have h3:¬(i:Int)<((L.r.length:Nat):Int):=by omega
  simp(disch:=first|assumption|omega)only[P4,seval,gl,lr]
  refine hx 6 _ _ ?_
  rw[List.take_of_length_le (by omega)]at hp
  exact hk _ _ ⟨_,_,_,_,_,_,_,_,_,_,_,_,_,_,_,rfl,hkK,ho,hpre,hp⟩
theorem t47{H:Aaa}{u:V4}{xs:List RV}{L:Ly}(h:LyR H u xs L)(hf:Af2 L):∃w H',Aaq Tryz.prog 0 47 [.agg u.l.toArray] H w H'/\w=.bool (Aew L)/\H'=H:=by
 refine gcb ?_
 refine Aam f47 ?_
 intro Q hq1 hq2
 have os:=Sl.one h.s
 have op:=Sl.one h.p
 have og:=Sl.one h.g
 have or:=Sl.one h.r
 have kv:=Ajb H u
 have hv:=h.keeps kv
 have gv:=Asv H u
 cases hfu:Agd L with
 |true=>
  have hm:Aew L=false:=by simp[Aew,hfu]
  rw[hm]at hq2
  unfold vB at*
  obtain⟨us,up,ug,ur⟩:=u
  simp only[V4.l]at*
  simp(disch:=first|assumption|omega|(simp only[LN]<;>omega)|(simp(disch:=first|assumption|omega|(simp only[LN]<;>omega))only[Aab,Aad];assumption))only[f47,P4,seval,os,op,og,or]
  refine Aae (t77 hv) ?_
  rintro _ X ⟨rfl,rfl⟩
  rw[hfu]
  simp(disch:=first|assumption|omega)only[P4,seval]
  exact hq2 _ _ ⟨_,rfl,rfl,kv⟩
 |false=>
  have hle:(Acl L).length<=1000000000:=by
   simp only[Agd,Bool.or_eq_false_iff,decide_eq_false_iff_not]at hfu
   simp only[Acl,List.length_append,List.length_map];omega
  have ret:Aew L=false->∀fr K,RF (.agg u.l.toArray) H fr K->Q .ret fr K:=by
   rintro e fr K ⟨x3,x4,x5,x6,x7,x8,x9,x10,x11,x12,x13,x14,x15,x16,x17,rfl,k⟩
   exact hq2 _ _ ⟨_,rfl,by rw[e];rfl,k⟩
  refine Aco 3 (RM (.agg u.l.toArray) H u L True) (by kernel_rfl) ?_ (fun fr K m=>?_)
  ·intro Q' a _ _
   unfold RM vB at*
   obtain⟨us,up,ug,ur⟩:=u
   simp only[V4.l]at*
   simp(disch:=first|assumption|omega|(simp only[LN]<;>omega)|(simp(disch:=first|assumption|omega|(simp only[LN]<;>omega))only[Aab,Aad];assumption))only[f47,Aeu,P4,seval,os,op,og,or]
   refine Aae (t77 hv) ?_
   rintro _ X ⟨rfl,hX⟩
   rw[hX,hfu]
   simp(disch:=first|assumption|omega|(simp only[LN]<;>omega)|(simp(disch:=first|assumption|omega|(simp only[LN]<;>omega))only[Aab,Aad];assumption))only[P4,seval]
   refine Aae (t78 hv hf) ?_
   rintro wn K ho
   simp(disch:=first|assumption|omega)only[P4,seval]
   exact a _ _ ⟨_,_,_,_,_,_,_,_,_,_,_,_,_,_,_,rfl,ho.k,ho.base kv,trivial⟩
  refine Aco 1 (RM (.agg u.l.toArray) H u L (okN (Acl L)=true)) (by kernel_rfl) (fun Q' a _ b=>Bad hf hle m a (fun e fr K k=>b _ _ (ret e fr K k))) (fun fr K m=>?_)
  refine Aco 1 (RM (.agg u.l.toArray) H u L (C2 L)) (by kernel_rfl) (fun Q' a _ b=>Bae h hf m a (fun e fr K k=>b _ _ (ret e fr K k))) (fun fr K m=>?_)
  refine Aco 1 (RM (.agg u.l.toArray) H u L (C3 L)) (by kernel_rfl) (fun Q' a _ b=>Baf h hf m a (fun e fr K k=>b _ _ (ret e fr K k))) (fun fr K m=>?_)
  refine Aco 1 (RM (.agg u.l.toArray) H u L (C3 L/\L.r.all (roB L)=true)) (by kernel_rfl) (fun Q' a _ b=>Bag h hf m a (fun e fr K k=>b _ _ (ret e fr K k))) (fun fr K m=>?_)
  obtain⟨vn,x4,x5,x6,x7,x8,x9,x10,x11,x12,x13,x14,x15,x16,x17,rfl,hkK,ho,⟨⟨c1,c2⟩,c3⟩,c4⟩:=m
  simp(disch:=first|assumption|omega)only[f47,Ab1,P4,seval]
  refine hq2 _ _ ⟨_,rfl,?_,kv.trans hkK⟩
  rw[Aew,hfu,c1,c2,c3,c4];rfl
structure Ah5 (T:Nat) (L:Ly):Prop where
 s:L.s.length<=T/\∀x∈L.s,x.length<=T
 p:L.p.length<=T/\∀x∈L.p,x.1.length<=T
 g:L.g.length<=T/\∀x∈L.g,x.1.length<=T
 r:L.r.length<=T/\∀x∈L.r,x.n.length<=T/\x.path.length<=T/\x.pts.length<=T/\x.ov.length<=T/\x.fl.length<=T
def WG(A:Value)(H:Aaa)(u:V4)(top:Nat)(fr:List Value)(K:Aaa):Prop:=
 ∃(n:Int) (x5 x6 x7 x8 x9 x10 x11 x12 x13 x14:Value),fr=[A,.int .i64 ((top:Nat):Int),ptr H.n 0,.int .i64 0,.int .i64 n,x5,x6,x7,x8,x9,x10,x11,x12,x13,x14]/\Aac (vB H u) K
theorem wgt1{H:Aaa}{u:V4}{xs:List RV}{L:Ly}{Q:AQ}{A:Value}{fr:List Value}{K:Aaa}{top:Nat}(ht:top<=1000000)(h:LyR H u xs L)(hf:Ah5 9223372036854775807 L)(hm:WG A H u top fr K)
 (hk:∀fr K,WG A H u top fr K->Q .normal fr K):W Tryz.prog 0 (Aeu 1 (Ab1 2 f7.body)) Q fr K:=by
 obtain⟨n0,x5,x6,x7,x8,x9,x10,x11,x12,x13,x14,rfl,hkK⟩:=hm
 have lp:=h.s.len
 have ip:=Sl.is h.s
 simp(disch:=first|assumption|omega)only[f7,Aeu,Ab1,P3,seval,Aah,Aao]
 rw[Aag]
 refine Aal (fun k fr K=>∃i n xc,fr=[A,.int .i64 ((top:Nat):Int),ptr H.n 0,.int .i64 0,.int .i64 n,.int .i64 ((i:Nat):Int),x6,x7,x8,x9,xc,x11,x12,x13,x14]/\Aac (vB H u) K/\i<=L.s.length/\k=L.s.length-i) L.s.length
  ⟨0,n0,_,rfl,hkK,by omega,rfl⟩ ?_
 clear hkK
 rintro Q' k fr K ⟨i,n,xc,rfl,hkK,hi,rfl⟩ hn hx hret
 have gl:=hkK.at_ (Asv H u)
 simp only[V4.l]at gl
 by_cases hlt:i<L.s.length
 ·have h3:(i:Int)<((L.s.length:Nat):Int):=by omega
  by_cases htn:n<=((top:Nat):Int)
  ·obtain⟨na,ra⟩:=(h.s.keeps ((Ajb H u).trans hkK)).at_ hlt
   have h1:(0:Int)<=(i:Int):=by omega
   have h2:(i:Int)<((Ab9 u.s:Nat):Int):=by omega
   have h4:=htn
   have hlf:=hf.s.1
   have hw:=wrS (i:=i) (by omega)
   unfold Akz at ra
   simp(disch:=first|assumption|omega)only[P4,seval,gl,lp,ra,na,Aaj,Ajw,hw]
   refine hn _ _ _ ⟨i+1,_,_,rfl,hkK,by omega,rfl⟩ (by omega)
  ·have h4:=htn
   simp(disch:=first|assumption|omega)only[P4,seval,gl,lp]
   refine hx 0 _ _ ?_
   exact hk _ _ ⟨n,_,_,_,_,_,_,_,_,_,_,rfl,hkK⟩
 ·have h3:¬(i:Int)<((L.s.length:Nat):Int):=by omega
  simp(disch:=first|assumption|omega)only[P4,seval,gl,lp]
  refine hx 0 _ _ ?_
  exact hk _ _ ⟨n,_,_,_,_,_,_,_,_,_,_,rfl,hkK⟩
theorem wgt2{H:Aaa}{u:V4}{xs:List RV}{L:Ly}{Q:AQ}{A:Value}{fr:List Value}{K:Aaa}{top:Nat}(ht:top<=1000000)(h:LyR H u xs L)(hf:Ah5 9223372036854775807 L)(hm:WG A H u top fr K)
 (hk:∀fr K,WG A H u top fr K->Q .normal fr K):W Tryz.prog 0 (Aeu 1 (Ab1 3 f7.body)) Q fr K:=by
 obtain⟨n0,x5,x6,x7,x8,x9,x10,x11,x12,x13,x14,rfl,hkK⟩:=hm
 have lp:=h.p.len
 have ip:=Sl.is h.p
 simp(disch:=first|assumption|omega)only[f7,Aeu,Ab1,P3,seval,Aah,Aao]
 rw[Aag]
 refine Aal (fun k fr K=>∃i n xc,fr=[A,.int .i64 ((top:Nat):Int),ptr H.n 0,.int .i64 0,.int .i64 n,x5,.int .i64 ((i:Nat):Int),x7,x8,x9,x10,xc,x12,x13,x14]/\Aac (vB H u) K/\i<=L.p.length/\k=L.p.length-i) L.p.length
  ⟨0,n0,_,rfl,hkK,by omega,rfl⟩ ?_
 clear hkK
 rintro Q' k fr K ⟨i,n,xc,rfl,hkK,hi,rfl⟩ hn hx hret
 have gl:=hkK.at_ (Asv H u)
 simp only[V4.l]at gl
 by_cases hlt:i<L.p.length
 ·have h3:(i:Int)<((L.p.length:Nat):Int):=by omega
  by_cases htn:n<=((top:Nat):Int)
  ·obtain⟨na,ra⟩:=(h.p.keeps ((Ajb H u).trans hkK)).at_ hlt
   have h1:(0:Int)<=(i:Int):=by omega
   have h2:(i:Int)<((Ab9 u.p:Nat):Int):=by omega
   have h4:=htn
   have hlf:=hf.p.1
   have hw:=wrS (i:=i) (by omega)
   simp(disch:=first|assumption|omega)only[P4,seval,gl,lp,ra,na,Aaj,Ajw,hw]
   refine hn _ _ _ ⟨i+1,_,_,rfl,hkK,by omega,rfl⟩ (by omega)
  ·have h4:=htn
   simp(disch:=first|assumption|omega)only[P4,seval,gl,lp]
   refine hx 2 _ _ ?_
   exact hk _ _ ⟨n,_,_,_,_,_,_,_,_,_,_,rfl,hkK⟩
 ·have h3:¬(i:Int)<((L.p.length:Nat):Int):=by omega
  simp(disch:=first|assumption|omega)only[P4,seval,gl,lp]
  refine hx 2 _ _ ?_
  exact hk _ _ ⟨n,_,_,_,_,_,_,_,_,_,_,rfl,hkK⟩
theorem wgt3{H:Aaa}{u:V4}{xs:List RV}{L:Ly}{Q:AQ}{A:Value}{fr:List Value}{K:Aaa}{top:Nat}(ht:top<=1000000)(h:LyR H u xs L)(hf:Ah5 9223372036854775807 L)(hm:WG A H u top fr K)
 (hk:∀fr K,WG A H u top fr K->Q .normal fr K):W Tryz.prog 0 (Aeu 1 (Ab1 4 f7.body)) Q fr K:=by
 obtain⟨n0,x5,x6,x7,x8,x9,x10,x11,x12,x13,x14,rfl,hkK⟩:=hm
 have lp:=h.g.len
 have ip:=Sl.is h.g
 simp(disch:=first|assumption|omega)only[f7,Aeu,Ab1,P3,seval,Aah,Aao]
 rw[Aag]
 refine Aal (fun k fr K=>∃i n xc,fr=[A,.int .i64 ((top:Nat):Int),ptr H.n 0,.int .i64 0,.int .i64 n,x5,x6,.int .i64 ((i:Nat):Int),x8,x9,x10,x11,xc,x13,x14]/\Aac (vB H u) K/\i<=L.g.length/\k=L.g.length-i) L.g.length
  ⟨0,n0,_,rfl,hkK,by omega,rfl⟩ ?_
 clear hkK
 rintro Q' k fr K ⟨i,n,xc,rfl,hkK,hi,rfl⟩ hn hx hret
 have gl:=hkK.at_ (Asv H u)
 simp only[V4.l]at gl
 by_cases hlt:i<L.g.length
 ·have h3:(i:Int)<((L.g.length:Nat):Int):=by omega
  by_cases htn:n<=((top:Nat):Int)
  ·obtain⟨na,ra⟩:=(h.g.keeps ((Ajb H u).trans hkK)).at_ hlt
   have h1:(0:Int)<=(i:Int):=by omega
   have h2:(i:Int)<((Ab9 u.g:Nat):Int):=by omega
   have h4:=htn
   have hlf:=hf.g.1
   have hw:=wrS (i:=i) (by omega)
   simp(disch:=first|assumption|omega)only[P4,seval,gl,lp,ra,na,Aaj,Ajw,hw]
   refine hn _ _ _ ⟨i+1,_,_,rfl,hkK,by omega,rfl⟩ (by omega)
  ·have h4:=htn
   simp(disch:=first|assumption|omega)only[P4,seval,gl,lp]
   refine hx 4 _ _ ?_
   exact hk _ _ ⟨n,_,_,_,_,_,_,_,_,_,_,rfl,hkK⟩
 ·have h3:¬(i:Int)<((L.g.length:Nat):Int):=by omega
  simp(disch:=first|assumption|omega)only[P4,seval,gl,lp]
  refine hx 4 _ _ ?_
  exact hk _ _ ⟨n,_,_,_,_,_,_,_,_,_,_,rfl,hkK⟩
theorem wgt4{H:Aaa}{u:V4}{xs:List RV}{L:Ly}{Q:AQ}{A:Value}{fr:List Value}{K:Aaa}{top:Nat}(ht:top<=1000000)(h:LyR H u xs L)(hf:Ah5 9223372036854775807 L)(hm:WG A H u top fr K)
 (hk:∀fr K,WG A H u top fr K->Q .normal fr K):W Tryz.prog 0 (Aeu 1 (Ab1 5 f7.body)) Q fr K:=by
 obtain⟨n0,x5,x6,x7,x8,x9,x10,x11,x12,x13,x14,rfl,hkK⟩:=hm
 have lp:=h.r.len
 rw[h.rlen]at lp
 have ip:=Sl.is h.r
 simp(disch:=first|assumption|omega)only[f7,Aeu,Ab1,P3,seval,Aah,Aao]
 rw[Aag]
 refine Aal (fun k fr K=>∃i n x9 xc xd,fr=[A,.int .i64 ((top:Nat):Int),ptr H.n 0,.int .i64 0,.int .i64 n,x5,x6,x7,.int .i64 ((i:Nat):Int),x9,x10,x11,x12,xc,xd]/\Aac (vB H u) K/\i<=L.r.length/\k=L.r.length-i) L.r.length
  ⟨0,n0,_,_,_,rfl,hkK,by omega,rfl⟩ ?_
 clear hkK
 rintro Q' k fr K ⟨i,n,x9,xc,xd,rfl,hkK,hi,rfl⟩ hn hx hret
 have gl:=hkK.at_ (Asv H u)
 simp only[V4.l]at gl
 by_cases hlt:i<L.r.length
 ·have h3:(i:Int)<((L.r.length:Nat):Int):=by omega
  by_cases htn:n<=((top:Nat):Int)
  ·have hlt':i<xs.length:=by rw[h.rlen];exact hlt
   obtain⟨na,ra⟩:=RL.at_ (h.r.keeps ((Ajb H u).trans hkK)) hlt'
   obtain⟨xok,xr⟩:=h.rat hlt
   have hbl:=Sl.bn_le (h.r.keeps ((Ajb H u).trans hkK)) (by intro e;simp at e;rw[e]at hlt';simp at hlt') (by omega)
   have h1:(0:Int)<=(i:Int):=by omega
   have h2:(i:Int)<((Ab9 u.r:Nat):Int):=by omega
   have h4:=htn
   have hl:=hf.r.2 _ (Adt (d:=rv0.r) hlt)
   have hlf:=hf.r.1
   have hw:=wrS (i:=i) (by omega)
   generalize xs.getD i rv0=y at*
   simp only[RV.row]at ra
   have iP:=Sl.is xok.p
   have iQ:=Sl.is xok.q
   have iO:=Sl.is xok.o
   have iF:=Sl.is xok.f
   have lP:=xok.p.len
   have lQ:=xok.q.len
   have lO:=xok.o.len
   have lF:=xok.f.len
   have o3:=Aap iP
   have o4:=Aap iQ
   have o5:=Aap iO
   have o6:=Aap iF
   obtain⟨m,hm⟩:∃m:Int,m=IntKind.i64.wrap (IntKind.i64.wrap (IntKind.i64.wrap (IntKind.i64.wrap (n+1)+((y.r.n.length:Nat):Int))+((y.r.path.length:Nat):Int))+((y.r.pts.length:Nat):Int)):=⟨_,rfl⟩
   have k1:=hkK.trans ((Aac.refl K).alloc (.cells true false 6 [.string ⟨y.r.n.toArray⟩,.int .i64 y.r.g,y.vp,y.vq,y.vo,y.vf] 87))
   by_cases hmt:m<=((top:Nat):Int)
   ·have h5:=hmt
    simp(disch:=first|assumption|omega|(simp only[LN]<;>omega)|(simp(disch:=first|assumption|omega|(simp only[LN]<;>omega))only[Aab,Aad];assumption))only[P4,seval,gl,lp,ra,na,Aai,Ajw,lP,lQ,lO,lF,o3,o4,o5,o6,hw,<-hm]
    refine hn _ _ _ ⟨i+1,_,_,_,_,rfl,k1,by omega,rfl⟩ (by omega)
   ·have h5:=hmt
    simp(disch:=first|assumption|omega|(simp only[LN]<;>omega)|(simp(disch:=first|assumption|omega|(simp only[LN]<;>omega))only[Aab,Aad];assumption))only[P4,seval,gl,lp,ra,na,Aai,Ajw,lP,lQ,lO,lF,o3,o4,o5,o6,hw,<-hm]
    refine hn _ _ _ ⟨i+1,m,_,_,_,rfl,k1,by omega,rfl⟩ (by omega)
  ·have h4:=htn
   simp(disch:=first|assumption|omega)only[P4,seval,gl,lp]
   refine hx 6 _ _ ?_
   exact hk _ _ ⟨n,_,_,_,_,_,_,_,_,_,_,rfl,hkK⟩
 ·have h3:¬(i:Int)<((L.r.length:Nat):Int):=by omega
  simp(disch:=first|assumption|omega)only[P4,seval,gl,lp]
  refine hx 6 _ _ ?_
  exact hk _ _ ⟨n,_,_,_,_,_,_,_,_,_,_,rfl,hkK⟩
theorem t7{H:Aaa}{u:V4}{xs:List RV}{L:Ly}{top:Nat}(ht:top<=1000000)(h:LyR H u xs L)(hf:Ah5 9223372036854775807 L):∃w H',Aaq Tryz.prog 0 7 [.agg u.l.toArray,.int .i64 ((top:Nat):Int)] H w H'/\(∃n:Int,w=.int .i64 n)/\H'=H:=by
 suffices h':∃w H',Aaq Tryz.prog 0 7 [.agg u.l.toArray,.int .i64 ((top:Nat):Int)] H w H'/\(∃n:Int,w=.int .i64 n)/\Aac H H' by
  obtain⟨_,_,a,⟨n,rfl⟩,k⟩:=h'
  exact⟨_,_,a.gc0 k (.inr (.int _ _)),⟨n,rfl⟩,rfl⟩
 refine Aam f7 ?_
 intro Q hq1 hq2
 refine Aco 2 (WG (.agg u.l.toArray) H u top) (by kernel_rfl) ?_ (fun fr K m=>?_)
 ·intro Q' a _ _
  have os:=Sl.one h.s
  have op:=Sl.one h.p
  have og:=Sl.one h.g
  have or:=Sl.one h.r
  unfold WG vB at*
  obtain⟨us,up,ug,ur⟩:=u
  simp only[V4.l]at*
  simp(disch:=first|assumption|omega)only[f7,Aeu,P4,seval,os,op,og,or]
  exact a _ _ ⟨0,_,_,_,_,_,_,_,_,_,_,rfl,Aac.refl _⟩
 refine Aco 1 (WG (.agg u.l.toArray) H u top) (by kernel_rfl) (fun Q' a _ _=>wgt1 ht h hf m a) (fun fr K m=>?_)
 refine Aco 1 (WG (.agg u.l.toArray) H u top) (by kernel_rfl) (fun Q' a _ _=>wgt2 ht h hf m a) (fun fr K m=>?_)
 refine Aco 1 (WG (.agg u.l.toArray) H u top) (by kernel_rfl) (fun Q' a _ _=>wgt3 ht h hf m a) (fun fr K m=>?_)
 refine Aco 1 (WG (.agg u.l.toArray) H u top) (by kernel_rfl) (fun Q' a _ _=>wgt4 ht h hf m a) (fun fr K m=>?_)
 obtain⟨n,x5,x6,x7,x8,x9,x10,x11,x12,x13,x14,rfl,hkK⟩:=m
 simp(disch:=first|assumption|omega)only[f7,Ab1,P4,seval]
 exact hq2 _ _ ⟨_,rfl,⟨n,rfl⟩,(Ajb H u).trans hkK⟩
end Go.AM.Fd
namespace Go.AM.F
def Aog:TypeId->List Value
 |89=>[(.string ByteArray.empty),(.int .i64 0)]
 |4=>[(.bool false)]
 |39=>[(.int .u64 0)]
 |87=>[(.string ByteArray.empty),(.int .i64 0),(.slice none 0 0),(.slice none 0 0),(.slice none 0 0),(.slice none 0 0)]
 |3=>[(.int .i64 0)]
 |120=>[(.int .i64 0),(.bool false)]
 |210=>[(.map none)]
 |_=>[]
def Aoh:TypeId->Value
 |_=>undef
def Aoi:TypeId->List Nat
 |_=>[]
def Aoj:Nat->TypeId->List Value
 |2,84=>[(.slice none 0 0),(.slice none 0 0)]
 |2,85=>[(.slice none 0 0),(.slice none 0 0)]
 |_,_=>[]
structure QzE (sl:List Nat) (n:Nat) where
 p:CzV sl n:=by
  refine(fun(_:Cz Aog Aoh Aoi Aoj Go.Proofs.Tryz.prog 0 ?sl ?n ?a)=>(CzV.mk ?a:CzV ?sl ?n)) ?h
  case h=>
  intro zc zv zk zr hc hv hk hr
  conv=>lhs;cbv;try simp only[hc,hv,hk,hr,Aog,Aoh,Aoi,Aoj]
noncomputable def f30:=({}:QzE [0,1,2,3,4,7,13] 30).p.a
noncomputable def f31:=({}:QzE [0,1,2] 31).p.a
noncomputable def f32:=({}:QzE [0,1,2] 32).p.a
noncomputable def f43:=({}:QzE [0,1,4] 43).p.a
noncomputable def f45:=({}:QzE [0,1,4] 45).p.a
noncomputable def f62:=({}:QzE [0,1,4,5,7,8,9,16] 62).p.a
noncomputable def f63:=({}:QzE [0,1,2,3] 63).p.a
noncomputable def f64:=({}:QzE [0,1,2,3,4,5,6,7,8,11,31,32,33,34,56] 64).p.a
noncomputable def f65:=({}:QzE [0,2,3,5,6,8,9,10,11,12,20,25,26,27,28] 65).p.a
noncomputable def f66:=({}:QzE [0,2,3,5,6,8,9,10,11,12,20,25,26,27,28] 66).p.a
noncomputable def f67:Af8:=by
 refine(fun(_:Cz Aog Aoh Aoi Aoj Go.Proofs.Tryz.prog 0 [0,1,2,3,4,5,6,7,11,12,13] 67 ?a)=>?a) ?h
 case h=>
 intro zc zv zk zr hc hv hk hr
 have e0A:=(rfl:rfA Go.Proofs.Tryz.prog 67 0=rfA Go.Proofs.Tryz.prog 67 0);conv at e0A=>rhs;cbv
 have e0B:=(rfl:rfB Go.Proofs.Tryz.prog 67 0=rfB Go.Proofs.Tryz.prog 67 0);conv at e0B=>rhs;cbv
 conv=>lhs;cbv;try simp only[hc,hv,hk,hr,Aog,Aoh,Aoi,Aoj];simp only[<-e0A,<-e0B]
noncomputable def Asn:Ab8:=by
 refine(fun(_:CzC Aog Aoh Aoi Aoj Go.Proofs.Tryz.prog 0 14 [0,1,2,3,4,5,6,7,11,12,13] (rfA Go.Proofs.Tryz.prog 67 0) ?a)=>?a) ?h
 case h=>intro zc zv zk zr hc hv hk hr;conv=>lhs;cbv;try simp only[hc,hv,hk,hr,Aog,Aoh,Aoi,Aoj]
theorem Aso:Acp Go.Proofs.Tryz.prog 0 14 [0,1,2,3,4,5,6,7,11,12,13] (rfA Go.Proofs.Tryz.prog 67 0)=some Asn:=by kernel_rfl
noncomputable def Asp:Ab8:=by
 refine(fun(_:CzC Aog Aoh Aoi Aoj Go.Proofs.Tryz.prog 0 14 [0,1,2,3,4,5,6,7,11,12,13] (rfB Go.Proofs.Tryz.prog 67 0) ?a)=>?a) ?h
 case h=>intro zc zv zk zr hc hv hk hr;conv=>lhs;cbv;try simp only[hc,hv,hk,hr,Aog,Aoh,Aoi,Aoj]
theorem Asq:Acp Go.Proofs.Tryz.prog 0 14 [0,1,2,3,4,5,6,7,11,12,13] (rfB Go.Proofs.Tryz.prog 67 0)=some Asp:=by kernel_rfl
theorem A05:(Ah2 (rfA Go.Proofs.Tryz.prog 67 0)&&Ah2 (rfB Go.Proofs.Tryz.prog 67 0))=true:=by kernel_rfl
noncomputable def f75:=({}:QzE [0,1,4,5,7,8,9,16] 75).p.a
noncomputable def f76:=({}:QzE [0,1,4,5,7,8,9,16] 76).p.a
noncomputable def Bbx:=({}:QzE [0,1,2,3,4,6,7,8,9,16,23,24,25,26,30,31,32,41] 118).p.a
noncomputable def f97:=({}:QzE [0,1,3,4,5,6,7,8,9,10,18] 97).p.a
noncomputable def f98:=({}:QzE [0,2] 98).p.a
noncomputable def f99:=({}:QzE [0,1,4] 99).p.a
noncomputable def Bby:=({}:QzE [0,1,3,4,5,6,7,8,9,10,18] 100).p.a
noncomputable def Bbz:=({}:QzE [0,1,2] 101).p.a
noncomputable def Bb0:=({}:QzE [0,1,3,4] 102).p.a
noncomputable def A94:=({}:QzE [0,1,4,6,16] 103).p.a
noncomputable def A95:=({}:QzE [0,1,4,6,16] 104).p.a
noncomputable def Bb1:=({}:QzE [0,1,2,3,4,5,6] 105).p.a
noncomputable def Bb2:=({}:QzE [0,1,2,4] 123).p.a
noncomputable def Bb3:=({}:QzE [0,1,4,5,7,8,9,16] 124).p.a
noncomputable def Bb4:=({}:QzE [0,1,2,3,4] 125).p.a
noncomputable def Bb5:=({}:QzE [0,1,2,3] 126).p.a
noncomputable def Bb6:=({}:QzE [0,1,2,3,5,6,8,9,10,11,12,13,14,15,16,17,18,26,31,32,33,34,42,49,50,51,52,105] 127).p.a
noncomputable def Bb7:Af8:=by
 refine(fun(_:Cz Aog Aoh Aoi Aoj Go.Proofs.Tryz.prog 0 [0,1,2,3,5,9,10,11] 128 ?a)=>?a) ?h
 case h=>
 intro zc zv zk zr hc hv hk hr
 have e0A:=(rfl:rfA Go.Proofs.Tryz.prog 128 0=rfA Go.Proofs.Tryz.prog 128 0);conv at e0A=>rhs;cbv
 have e0B:=(rfl:rfB Go.Proofs.Tryz.prog 128 0=rfB Go.Proofs.Tryz.prog 128 0);conv at e0B=>rhs;cbv
 conv=>lhs;cbv;try simp only[hc,hv,hk,hr,Aog,Aoh,Aoi,Aoj];simp only[<-e0A,<-e0B]
noncomputable def Am3:Ab8:=by
 refine(fun(_:CzC Aog Aoh Aoi Aoj Go.Proofs.Tryz.prog 0 18 [0,1,2,3,5,9,10,11] (rfA Go.Proofs.Tryz.prog 128 0) ?a)=>?a) ?h
 case h=>intro zc zv zk zr hc hv hk hr;conv=>lhs;cbv;try simp only[hc,hv,hk,hr,Aog,Aoh,Aoi,Aoj]
theorem Apl:Acp Go.Proofs.Tryz.prog 0 18 [0,1,2,3,5,9,10,11] (rfA Go.Proofs.Tryz.prog 128 0)=some Am3:=by kernel_rfl
noncomputable def Asr:Ab8:=by
 refine(fun(_:CzC Aog Aoh Aoi Aoj Go.Proofs.Tryz.prog 0 18 [0,1,2,3,5,9,10,11] (rfB Go.Proofs.Tryz.prog 128 0) ?a)=>?a) ?h
 case h=>intro zc zv zk zr hc hv hk hr;conv=>lhs;cbv;try simp only[hc,hv,hk,hr,Aog,Aoh,Aoi,Aoj]
theorem Apm:Acp Go.Proofs.Tryz.prog 0 18 [0,1,2,3,5,9,10,11] (rfB Go.Proofs.Tryz.prog 128 0)=some Asr:=by kernel_rfl
theorem Av2:(Ah2 (rfA Go.Proofs.Tryz.prog 128 0)&&Ah2 (rfB Go.Proofs.Tryz.prog 128 0))=true:=by kernel_rfl
noncomputable def Bb8:=({}:QzE [0,1,2] 138).p.a
noncomputable def Bb9:=({}:QzE [0,1,3,8,18] 139).p.a
end Go.AM.F
