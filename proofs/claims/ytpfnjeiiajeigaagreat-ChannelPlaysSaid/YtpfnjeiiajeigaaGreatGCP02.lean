/- Part of the proof. -/
import Derived.Test.YtpfnjeiiajeigaaGreatGCP01
import Derived.OpenShut
import Derived.Carry
import Derived.ChangeSame
import Derived.WalkKit
import Derived.ProofKit
import Derived.Laws.Externs
set_option linter.unusedSimpArgs false
set_option linter.unusedVariables false
namespace Go.AM
def A7f(P:Program)(f:TypeId→Bool):List Field→Nat→Nat→Bool
 |[],off,tot=>off==tot
 |fd::r,off,tot=>fd.offset==off&&f fd.type&&A7f P f r (off+P.cellsOf fd.type) tot
def okT(P:Program):Nat→TypeId→Bool
 |0,_=>false
 |d+1,t=>match P.underlying t with
  |some .bool=>P.cellsOf t==1
  |some (.int _)=>P.cellsOf t==1
  |some .string=>P.cellsOf t==1
  |some (.slice e)=>P.cellsOf t==1&&decide (0<P.cellsOf e)&&okT P d e
  |some (.struct fs)=>A7f P (okT P d) fs.toList 0 (P.cellsOf t)
  |some (.array n e)=>n*P.cellsOf e==P.cellsOf t&&okT P d e
  |_=>false
inductive AR (P:Program) (G:Gf):TypeId→List Value→Prop
 |bool {t:TypeId} {b:Bool} (h:P.underlying t=some .bool):AR P G t [.bool b]
 |int {t:TypeId} {k:IntKind} {n:Int} (h:P.underlying t=some (.int k)) (hw:(Lit.int k n).wf=true):AR P G t [.int k n]
 |str {t:TypeId} {s:ByteArray} (h:P.underlying t=some .string) (hs:s.size≤maxLen∧s.size≤reachBytes):AR P G t [.string s]
 |nil {t e:TypeId} (h:P.underlying t=some (.slice e)):AR P G t [.slice none 0 0]
 |zero {t e:TypeId} {x:Addr} (h:P.underlying t=some (.slice e)) (hx:x.spot.isSome=true):AR P G t [.slice (some x) 0 0]
 |sl {t e:TypeId} {b n k:Nat} {c:List Value} {u:TypeId} (h:P.underlying t=some (.slice e)) (hk:0<k) (hn:n≤k) (hm:k≤maxLen∧k*P.bytesOf e≤reachBytes) (hb:G b=some (.cells false false (P.cellsOf e) c u)) (hc:c.length=k*P.cellsOf e)
  (hi:∀i,i<k→AR P G e ((c.drop (i*P.cellsOf e)).take (P.cellsOf e))):AR P G t [slc b 0 n k]
 |struct {t:TypeId} {fs:Array Field} {cs:List Value} (h:P.underlying t=some (.struct fs)) (hl:cs.length=P.cellsOf t)
  (hf:∀(i:Nat) (f:Field),fs[i]? =some f→AR P G f.type ((cs.drop f.offset).take (P.cellsOf f.type))):AR P G t cs
 |array {t e:TypeId} {n:Nat} {cs:List Value} (h:P.underlying t=some (.array n e)) (hl:cs.length=P.cellsOf t)
  (hi:∀i,i<n→AR P G e ((cs.drop (i*P.cellsOf e)).take (P.cellsOf e))):AR P G t cs
theorem AR.mono{P:Program}{G G':Gf}(hg:∀b o,G b=some o→G' b=some o){t:TypeId}{cs:List Value}(h:AR P G t cs):AR P G' t cs:=by
 induction h with
 |bool h=>exact .bool h
 |int h hw=>exact .int h hw
 |str h hs=>exact .str h hs
 |nil h=>exact .nil h
 |zero h hx=>exact .zero h hx
 |sl h hk hn hm hb hc _ ih=>exact .sl h hk hn hm (hg _ _ hb) hc ih
 |struct h hl _ ih=>exact .struct h hl ih
 |array h hl _ ih=>exact .array h hl ih
def Akr(H:Aaa):Prop:=∀b o,H.get b=some o→o.own=false
section
variable {H0:Type} {enc:TypeId×Value→H0} {P:Program} {w:World} {ng:Nat}
structure Ade (P:Program) (ng:Nat) (w:World) (σ:Sg) (H:Aaa) (σ':Sg) (H':Aaa):Prop where
 le:σ.le σ'
 keep:Aac H H'
 hr:HR ng σ' H'.get w
 no:Akr H'
theorem Ade.refl{σ:Sg}{H:Aaa}(hr:HR ng σ H.get w)(no:Akr H):Ade P ng w σ H σ H:=⟨Sg.le.refl σ,Aac.refl H,hr,no⟩
theorem Ade.trans{σ σ1 σ2:Sg}{H H1 H2:Aaa}(h:Ade P ng w σ H σ1 H1)(k:Ade P ng w σ1 H1 σ2 H2):Ade P ng w σ H σ2 H2:=⟨h.le.trans k.le,h.keep.trans k.keep,k.hr,k.no⟩
theorem Aac.ar{H H':Aaa}(k:Aac H H'){t:TypeId}{cs:List Value}(h:AR P H.get t cs):AR P H'.get t cs:=h.mono (fun b o hb=>k.at_ hb)
def Asj(P:Program)(ng:Nat)(w:World)(t:TypeId)(cs:List Value):Prop:=∀σ H,HR ng σ H.get w→Akr H→∃σ' H' cs',Ade P ng w σ H σ' H'∧VL σ' cs' cs∧AR P H'.get t cs'∧∀v∈cs',v.oneCell'=true
theorem Al4{e:TypeId}{z:Nat}:∀(k:Nat) (css:Nat→List Value),(∀i,i<k→(css i).length=z∧Asj P ng w e (css i))→∀σ H,HR ng σ H.get w→Akr H→
 ∃σ' H' c,Ade P ng w σ H σ' H'∧VL σ' c ((List.range k).flatMap css)∧c.length=k*z∧(∀v∈c,v.oneCell'=true)∧∀i,i<k→AR P H'.get e ((c.drop (i*z)).take z)
 |0,css,_,σ,H,hr,no=>⟨σ,H,[],Ade.refl hr no,.nil,by simp,by simp,fun i hi=>by omega⟩
 |k+1,css,h,σ,H,hr,no=>by
  obtain⟨σ1,H1,c,h1,h2,h3,h4,h5⟩:=Al4 k css (fun i hi=>h i (by omega)) σ H hr no
  obtain⟨hz,hop⟩:=h k (by omega)
  obtain⟨σ2,H2,cs',g1,g2,g3,g4⟩:=hop σ1 H1 h1.hr h1.no
  have hl:cs'.length=z:=by rw[g2.length,hz]
  refine⟨σ2,H2,c++cs',h1.trans g1,?_,by rw[List.length_append,h3,hl,Nat.add_mul];omega,?_,?_⟩
  ·rw[List.range_succ,List.flatMap_append]
   simpa using(h2.mono g1.le).append g2
  ·intro v hv
   rcases List.mem_append.1 hv with hv|hv
   ·exact h4 v hv
   ·exact g4 v hv
  ·intro i hi
   by_cases hik:i<k
   ·have hle:i*z+z≤c.length:=by
     rw[h3]
     have:(i+1)*z≤k*z:=Nat.mul_le_mul_right _ hik
     rw[Nat.add_mul]at this
     omega
    rw[List.drop_append_of_le_length (by omega),List.take_append_of_le_length (by rw[List.length_drop];omega)]
    exact g1.keep.ar (h5 i hik)
   ·have:i=k:=by omega
    subst this
    rw[←h3,List.drop_left,←hl,List.take_length]
    exact g3
theorem Ajp{cs:List Value}{tot:Nat}{f:TypeId→Bool}:∀(fs:List Field) (off:Nat),A7f P f fs off tot=true→off≤cs.length→cs.length=tot→
 (∀fd∈fs,f fd.type=true→Asj P ng w fd.type ((cs.drop fd.offset).take (P.cellsOf fd.type)))→(∀fd∈fs,f fd.type=true→((cs.drop fd.offset).take (P.cellsOf fd.type)).length=P.cellsOf fd.type)→∀σ H,HR ng σ H.get w→Akr H→
 ∃σ' H' c,Ade P ng w σ H σ' H'∧VL σ' c (cs.drop off)∧(∀v∈c,v.oneCell'=true)∧∀fd∈fs,off≤fd.offset∧AR P H'.get fd.type ((c.drop (fd.offset-off)).take (P.cellsOf fd.type))
 |[],off,hk,hle,ht,_,_,σ,H,hr,no=>by
  simp only[A7f,beq_iff_eq]at hk
  refine⟨σ,H,[],Ade.refl hr no,?_,by simp,by simp⟩
  rw[List.drop_eq_nil_of_le (by omega)];exact .nil
 |fd::fs,off,hk,hle,ht,hop,hfit,σ,H,hr,no=>by
  simp only[A7f,Bool.and_eq_true,beq_iff_eq]at hk
  obtain⟨⟨h1,h2⟩,h3⟩:=hk
  have hft0:=hfit fd (by simp) h2
  have hft:fd.offset+P.cellsOf fd.type≤cs.length:=by rw[List.length_take,List.length_drop]at hft0;omega
  obtain⟨σ1,H1,c1,g1,g2,g3,g4⟩:=hop fd (by simp) h2 σ H hr no
  obtain⟨σ2,H2,c2,k1,k2,k3,k4⟩:=Ajp fs (off+P.cellsOf fd.type) h3 (by omega) ht (fun x hx=>hop x (by simp[hx])) (fun x hx=>hfit x (by simp[hx])) σ1 H1 g1.hr g1.no
  have hl:c1.length=P.cellsOf fd.type:=by rw[g2.length,List.length_take,List.length_drop];omega
  refine⟨σ2,H2,c1++c2,g1.trans k1,?_,?_,?_⟩
  ·have e:cs.drop off=(cs.drop fd.offset).take (P.cellsOf fd.type)++cs.drop (off+P.cellsOf fd.type):=by
    rw[h1,←List.drop_drop,List.take_append_drop]
   rw[e]
   exact(g2.mono k1.le).append k2
  ·intro v hv
   rcases List.mem_append.1 hv with hv|hv
   ·exact g4 v hv
   ·exact k3 v hv
  ·intro x hx
   rcases List.mem_cons.1 hx with rfl|hx
   ·refine⟨by omega,?_⟩
    rw[h1,Nat.sub_self,List.drop_zero,←hl,List.take_left]
    exact k1.keep.ar g3
   ·obtain⟨a1,a2⟩:=k4 x hx
    refine⟨by omega,?_⟩
    rw[show x.offset-off=c1.length+(x.offset-(off+P.cellsOf fd.type)) by omega,List.drop_length_add_append]
    exact a2
theorem Al5(l:List Value)(o z:Nat):∀k,(List.range k).flatMap (fun i=>(l.drop (o+i*z)).take z)=(l.drop o).take (k*z)
 |0=>by simp
 |k+1=>by
  rw[List.range_succ,List.flatMap_append,Al5 l o z k,Nat.add_mul,Nat.one_mul,List.take_add,List.drop_drop]
  simp
theorem Apk{b:Nat}{a:Addr}{n:Nat}{l:List Value}(h:w.cells? b a n=some l):l.length=n∧∀i,i<n→w.cell? (a.add i)=l[i]? :=by
 unfold World.cells? at h
 split at h
 ·exact⟨by simpa using mapM_some_length h,fun i hi=>mapM_some_get h i i (by simp[hi])⟩
 ·cases h
def Rch(P:Program)(t:TypeId)(d:DataW H0):Prop:=∀m∈d.weights P t,m≤reachBytes
theorem Ask{e:TypeId}:∀{l:List (DataW H0)},(∀m∈DataW.weightsAll P e l,m≤reachBytes)→∀d∈l,Rch P e d
 |[],_,d,hd=>by simp at hd
 |y::l,h,d,hd=>by
  simp only[DataW.weightsAll,List.mem_append]at h
  rcases List.mem_cons.1 hd with rfl|hd
  ·exact fun m hm=>h m (.inl hm)
  ·exact Ask (fun m hm=>h m (.inr hm)) d hd
theorem Aen{e:TypeId}{m:Nat}:∀{l:List (DataW H0×List MemPlace)} {y:DataW H0×List MemPlace},y∈l→m∈y.1.weights P e→m∈DataW.weightsAll P e (l.map (·.1))
 |[],_,hy,_=>by simp at hy
 |z::zs,y,hy,hm=>by
  simp only[List.map_cons,DataW.weightsAll,List.mem_append]
  rcases List.mem_cons.1 hy with rfl|hy
  ·exact .inl hm
  ·exact .inr (Aen hy hm)
theorem Apl:∀{ts:List TypeId} {l:List (DataW H0)},(∀m∈DataW.weightsEach P ts l,m≤reachBytes)→∀(i:Nat) t d,ts[i]? =some t→l[i]? =some d→Rch P t d
 |[],_,_,i,t,d,h1,_=>by simp at h1
 |_::_,[],_,i,t,d,_,h2=>by simp at h2
 |t0::ts,y::l,h,i,t,d,h1,h2=>by
  simp only[DataW.weightsEach,List.mem_append]at h
  cases i with
  |zero=>simp only[List.getElem?_cons_zero,Option.some.injEq]at h1 h2;subst h1 h2;exact fun m hm=>h m (.inl hm)
  |succ i=>exact Apl (fun m hm=>h m (.inr hm)) i t d (by simpa using h1) (by simpa using h2)
theorem Aqp:∀(fuel:Nat) (d:Nat) (t:TypeId) (cs:List Value) (x:DataW H0×List MemPlace),okT P d t=true→Rch P t x.1→DataW.trod enc P w 0 (fun _=>true) true fuel t cs=some x→cs.length=P.cellsOf t∧Asj P ng w t cs:=by
 intro fuel
 induction fuel with
 |zero=>intro d t cs x _ _ h;simp[DataW.trod]at h
 |succ fuel ih=>
  intro d t cs x hok hx h
  cases d with
  |zero=>simp[okT]at hok
  |succ d=>
   simp only[okT]at hok
   split at hok
   ·rename_i hu
    obtain⟨b,rfl,_⟩:=DataW.trod_bool hu h
    exact⟨by simpa using(beq_iff_eq.1 hok).symm,fun σ H hr no=>⟨σ,H,[.bool b],Ade.refl hr no,.cons (.bool b) .nil,.bool hu,by simp[Value.oneCell']⟩⟩
   ·rename_i k hu
    obtain⟨n,rfl,_,hw⟩:=DataW.trod_int hu h
    exact⟨by simpa using(beq_iff_eq.1 hok).symm,fun σ H hr no=>⟨σ,H,[.int k n],Ade.refl hr no,.cons (.int k n) .nil,.int hu hw,by simp[Value.oneCell']⟩⟩
   ·rename_i hu
    obtain⟨s,rfl,rfl,hs⟩:=DataW.trod_string hu h
    have hs2:s.size≤reachBytes:=hx _ (by simp only[DataW.weights,List.mem_singleton,Array.length_toList];rfl)
    exact⟨by simpa using(beq_iff_eq.1 hok).symm,fun σ H hr no=>⟨σ,H,[.string s],Ade.refl hr no,.cons (.string s) .nil,.str hu ⟨hs,hs2⟩,by simp[Value.oneCell']⟩⟩
   ·rename_i e hu
    simp only[Bool.and_eq_true,beq_iff_eq,decide_eq_true_eq]at hok
    obtain⟨⟨hc1,hz⟩,hoke⟩:=hok
    rcases DataW.trod_slice hu h with⟨rfl,_⟩|⟨a,len,cap,elems,rest,m,hfu,rfl,rfl,_,hlc,hcm,hel,helems,hrest,_⟩
    ·exact⟨by simpa using hc1.symm,fun σ H hr no=>⟨σ,H,[.slice none 0 0],Ade.refl hr no,.cons .nilSl .nil,.nil hu,by simp[Value.oneCell']⟩⟩
    ·cases hfu
     refine⟨by simpa using hc1.symm,fun σ H hr no=>?_⟩
     by_cases hcap:cap=0
     ·subst hcap
      have:len=0:=by omega
      subst this
      exact⟨σ,H,[.slice (some ⟨0,0,some 0⟩) 0 0],Ade.refl hr no,.cons (.slz rfl) .nil,.zero hu rfl,by simp[Value.oneCell']⟩
     ·obtain⟨hr1,hr2⟩:=hrest rfl
      have hx2:cap*P.bytesOf e≤reachBytes:=by
       refine hx _ ?_
       unfold DataW.weights
       rw[hu]
       simp only[List.length_map,hel,hr1,show len+(cap-len)=cap by omega]
       exact List.mem_cons_self
      have hx3:∀y∈elems,Rch P e y.1:=fun y hy m hm=>hx m (by
       unfold DataW.weights
       rw[hu]
       exact List.mem_cons_of_mem _ (List.mem_append.2 (.inl (Aen hy hm))))
      have hx4:∀y∈rest,Rch P e y.1:=fun y hy m hm=>hx m (by
       unfold DataW.weights
       rw[hu]
       exact List.mem_cons_of_mem _ (List.mem_append.2 (.inr (Aen hy hm))))
      have elem:∀i,i<cap→∃l,w.cells? 0 (a.add (i*P.cellsOf e)) (P.cellsOf e)=some l∧∃y,Rch P e y.1∧DataW.trod enc P w 0 (fun _=>true) true fuel e l=some y:=by
       intro i hi
       by_cases hil:i<len
       ·have:=helems i hil
        rw[List.getElem?_eq_getElem (by omega)]at this
        simp only[Option.bind_eq_some_iff]at this
        obtain⟨l,h1,h2⟩:=this
        exact⟨l,h1,_,hx3 _ (List.getElem_mem _),h2⟩
       ·have:=hr2 (i-len) (by omega)
        rw[List.getElem?_eq_getElem (by omega),show len+(i-len)=i by omega]at this
        simp only[Option.bind_eq_some_iff]at this
        obtain⟨l,h1,h2⟩:=this
        exact⟨l,h1,_,hx4 _ (List.getElem_mem _),h2⟩
      -- the block
      obtain⟨l0,hl0,_⟩:=elem 0 (by omega)
      obtain⟨hl0n,hl0c⟩:=Apk hl0
      have hc0:=hl0c 0 hz
      rw[Nat.zero_mul,show a.add 0=a by simp[Addr.add],show a.add 0=a by simp[Addr.add],List.getElem?_eq_getElem (by omega)]at hc0
      obtain⟨cc,ty,fr,hblk,hspot,hc0'⟩:∃cc ty fr,w.heap[a.block]? =some (.cells cc ty fr)∧a.spot=none∧cc[a.off]? =some (l0[0]'(by omega)):=by
       unfold World.cell? at hc0
       split at hc0
       ·rename_i cc ty fr hb
        split at hc0
        ·cases hc0
        ·rename_i hs
         exact⟨cc,ty,fr,hb,by simpa using hs,hc0⟩
       ·cases hc0
      obtain⟨ab,ao,asp⟩:=a
      simp only at hspot hblk hc0'
      subst hspot
      have cell:∀j,w.cell? ⟨ab,j,none⟩=cc[j]? :=fun j=>by simp[World.cell?,hblk]
      have elem2:∀i,i<cap→((cc.toList.drop (ao+i*P.cellsOf e)).take (P.cellsOf e)).length=P.cellsOf e∧Asj P ng w e ((cc.toList.drop (ao+i*P.cellsOf e)).take (P.cellsOf e)):=by
       intro i hi
       obtain⟨l,h1,y,hyr,h2⟩:=elem i hi
       obtain⟨hln,hlc⟩:=Apk h1
       have hl:l=(cc.toList.drop (ao+i*P.cellsOf e)).take (P.cellsOf e):=by
        apply List.ext_getElem?
        intro j
        by_cases hj:j<P.cellsOf e
        ·rw[←hlc j hj,List.getElem?_take_of_lt hj,List.getElem?_drop,Acg,Acg,cell]
         simp
        ·rw[List.getElem?_eq_none (by omega),List.getElem?_eq_none (by rw[List.length_take];omega)]
       rw[←hl]
       have:=ih d e l y hoke hyr h2
       exact⟨hln,this.2⟩
      obtain⟨σ1,H1,c,g1,g2,g3,g4,g5⟩:=Al4 cap (fun i=>(cc.toList.drop (ao+i*P.cellsOf e)).take (P.cellsOf e)) elem2 σ H hr no
      rw[Al5]at g2
      have hsz:ao+cap*P.cellsOf e≤cc.size∧0<cap*P.cellsOf e:=by
       have h1:=g2.length
       have h2:0<cap*P.cellsOf e:=Nat.mul_pos (by omega) hz
       rw[g3,List.length_take,List.length_drop,Array.length_toList]at h1
       omega
      have hnone:=g1.hr.none_of_ge (Nat.le_refl H1.n)
      have hlt:ab<w.heap.size:=by
       by_cases hh:ab<w.heap.size
       ·exact hh
       ·rw[Array.getElem?_eq_none (by omega)]at hblk;cases hblk
      let bi:BI:=⟨ab,ao,cap*P.cellsOf e,cc.size-ao,P.cellsOf e,false⟩
      let o2:AO:=.cells false false (P.cellsOf e) c ty
      have hor:OR σ1 w bi o2:=⟨g3.symm,rfl,rfl,by show c.length≤cc.size-ao;omega,g4,cc,fr,hblk,by show cc.size=ao+(cc.size-ao);omega,by rw[g3];exact g2,by simp⟩
      have hadd:=HR.add (o2:=o2) (G':=(H1.alloc o2).get) g1.hr hnone (fun x hx=>Aaa.get_alloc_ne H1 o2 hx) (Aaa.Bp6 H1 o2) hlt hor (fun x j ox _ hox hh=>by
       have:=g1.no x ox hox
       rcases hh with⟨_,h2⟩|⟨h2,_⟩
       ·cases h2
       ·rw[this]at h2;cases h2)
      have hk:Aac H1 (H1.alloc o2):=(Aac.refl H1).alloc o2
      refine⟨σ1.up H1.n bi,H1.alloc o2,[slc H1.n 0 len cap],g1.trans ⟨Sg.le_up _ hnone,hk,hadd,fun b o hb=>?_⟩,.cons ?_ .nil,?_,by simp[slc,Value.oneCell']⟩
      ·rw[Ajr]at hb
       split at hb
       ·cases hb;rfl
       ·exact g1.no b o hb
      ·exact VR.sl (i:=bi) (o:=0) (Sg.Bqc _ _ _) hlc (.inl rfl)
      ·exact .sl hu (by omega) hlc ⟨hcm,hx2⟩ (Aaa.Bp6 H1 o2) g3 (fun i hi=>hk.ar (g5 i hi))
   ·rename_i fs hu
    obtain⟨xs,m,hfu,rfl,hl,hxl,hxs⟩:=DataW.trod_struct hu h
    cases hfu
    have hx2:=Apl (P:=P) (ts:=fs.toList.map (·.type)) (l:=xs.map (·.1)) (fun m hm=>hx m (by unfold DataW.weights;rw[hu];exact hm))
    refine⟨hl,fun σ H hr no=>?_⟩
    have each:∀fd∈fs.toList,okT P d fd.type=true→((cs.drop fd.offset).take (P.cellsOf fd.type)).length=P.cellsOf fd.type∧Asj P ng w fd.type ((cs.drop fd.offset).take (P.cellsOf fd.type)):=by
     intro fd hfd hokf
     obtain⟨i,hi,hfi⟩:=List.mem_iff_getElem.1 hfd
     have hi':i<fs.size:=by simpa using hi
     have h1:fs[i]? =some fd:=by
      rw[Array.getElem?_eq_getElem hi']
      rw[←hfi];simp
     have h2:=hxs i fd h1
     rw[List.getElem?_eq_getElem (by omega)]at h2
     exact ih d fd.type _ _ hokf (hx2 i fd.type _ (by simpa using⟨fd,h1,rfl⟩) (by simp[List.getElem?_eq_getElem (show i<xs.length by omega)])) h2
    obtain⟨σ',H',c,g1,g2,g3,g4⟩:=Ajp fs.toList 0 hok (Nat.zero_le _) hl (fun fd hfd hf=>(each fd hfd hf).2) (fun fd hfd hf=>(each fd hfd hf).1) σ H hr no
    rw[List.drop_zero]at g2
    refine⟨σ',H',c,g1,g2,.struct hu (by rw[g2.length,hl]) (fun i f hf=>?_),g3⟩
    have:=(g4 f (by
     have:fs.toList[i]? =some f:=by simpa using hf
     exact List.mem_of_getElem? this)).2
    simpa using this
   ·rename_i n e hu
    simp only[Bool.and_eq_true,beq_iff_eq]at hok
    obtain⟨hn,hoke⟩:=hok
    obtain⟨xs,m,hfu,rfl,hl,hxl,hxs⟩:=DataW.trod_array hu h
    cases hfu
    have hx2:=Ask (P:=P) (e:=e) (l:=xs.map (·.1)) (fun m hm=>hx m (by unfold DataW.weights;rw[hu];exact hm))
    refine⟨hl,fun σ H hr no=>?_⟩
    obtain⟨σ',H',c,g1,g2,g3,g4,g5⟩:=Al4 (P:=P) (ng:=ng) (w:=w) (e:=e) (z:=P.cellsOf e) n (fun i=>(cs.drop (0+i*P.cellsOf e)).take (P.cellsOf e)) (fun i hi=>by
     have h2:=hxs i hi
     rw[List.getElem?_eq_getElem (by omega)]at h2
     rw[Nat.zero_add]
     exact ih d e _ _ hoke (hx2 _ (List.mem_map_of_mem (List.getElem_mem _))) h2) σ H hr no
    rw[Al5,List.drop_zero,hn,←hl,List.take_length]at g2
    exact⟨σ',H',c,g1,g2,.array hu (by rw[g3,hn]) g5,g4⟩
   ·cases hok
end
end Go.AM

namespace Go.AM
open Go.RowKit Go.WideShapes Go.ChangeShapes
section
variable {H0:Type} {enc:TypeId×Value→H0} {P:Program} {w:World} {ng:Nat}
def AV(P:Program)(G:Gf)(t:TypeId)(v:Value):Prop:=AR P G t v.cells.toList∧(Aba P t=some true→∃cs,v=.agg cs)∧(Aba P t=some false→v.oneCell'=true)
def AVs(P:Program)(G:Gf):List TypeId→List Value→Prop
 |[],[]=>True
 |t::ts,v::vs=>AV P G t v∧AVs P G ts vs
 |_,_=>False
theorem AV.mono{G G':Gf}(hg:∀b o,G b=some o→G' b=some o){t:TypeId}{v:Value}(h:AV P G t v):AV P G' t v:=⟨h.1.mono hg,h.2⟩
theorem Am3{t:TypeId}{v:Value}{d:Nat}(hok:okT P d t=true)(hv:Value.okWide P w .any 0 t v):(∃cs,v=.agg cs∧Aba P t=some true)∨(v.cells= #[v]∧Aba P t=some false∧v.oneCell'=true):=by
 cases d with
 |zero=>simp[okT]at hok
 |succ d=>
  simp only[okT]at hok
  split at hok
  ·rename_i hu
   obtain⟨b,rfl⟩:=okWide_bool hu hv
   exact .inr ⟨rfl,by unfold Aba;rw[hu];rfl,rfl⟩
  ·rename_i hu
   obtain⟨b,rfl⟩:=okWide_int hu hv
   exact .inr ⟨rfl,by unfold Aba;rw[hu];rfl,rfl⟩
  ·rename_i hu
   obtain⟨b,rfl⟩:=okWide_string hu hv
   exact .inr ⟨rfl,by unfold Aba;rw[hu];rfl,rfl⟩
  ·rename_i hu
   obtain⟨a,n,k,rfl⟩:=okWide_slice hu hv
   exact .inr ⟨rfl,by unfold Aba;rw[hu];rfl,rfl⟩
  ·rename_i hu
   obtain⟨cs,rfl,_⟩:=okWide_struct hu hv
   exact .inl ⟨cs,rfl,by unfold Aba;rw[hu];rfl⟩
  ·rename_i n e hu
   unfold Value.okWide at hv
   rw[hu]at hv
   obtain⟨cs,rfl,_⟩:=hv
   exact .inl ⟨cs,rfl,by unfold Aba;rw[hu];rfl⟩
  ·cases hok
theorem Awj{t:TypeId}{v:Value}{d:DataW H0}{ps:List MemPlace}(hok:okT P 20 t=true)(hv:Value.okWide P w .any 0 t v)(hx:Rch P t d)(h:DataW.Trod enc P w 0 (fun _=>true) true t v d ps){σ:Sg}{H:Aaa}(hr:HR ng σ H.get w)(no:Akr H):
 ∃σ' H' v',Ade P ng w σ H σ' H'∧VR σ' v' v∧AV P H'.get t v':=by
 obtain⟨fuel,hf⟩:=h
 obtain⟨hl,hop⟩:=Aqp (ng:=ng) fuel 20 t _ _ hok hx hf
 obtain⟨σ',H',cs',g1,g2,g3,g4⟩:=hop σ H hr no
 rcases Am3 hok hv with⟨cs,rfl,hag⟩|⟨hc,hag,hone⟩
 ·refine⟨σ',H',.agg cs'.toArray,g1,?_,g3,fun _=>⟨_,rfl⟩,(fun h=>by rw[hag]at h;cases h)⟩
  have:=VR.agg_of g2
  simpa[Value.cells]using this
 ·rw[hc]at g2
  match cs',g2 with
  |[u],.cons hu .nil=>
   have h1:=g4 u (by simp)
   refine⟨σ',H',u,g1,hu,?_,(fun h=>by rw[hag]at h;cases h),fun _=>h1⟩
   rw[Afy h1];exact g3
theorem Am4:∀{ts:List TypeId} {vs:List Value} {ds:List (DataW H0)} {ps:List MemPlace},(∀t∈ts,okT P 20 t=true)→(∀(j:Nat) t v,ts[j]? =some t→vs[j]? =some v→Value.okWide P w .any 0 t v)→(∀m∈DataW.weightsEach P ts ds,m≤reachBytes)→DataW.TrodAll enc P w 0 (fun _=>true) true ts vs ds ps→
 ∀{σ:Sg} {H:Aaa},HR ng σ H.get w→Akr H→∃σ' H' vs',Ade P ng w σ H σ' H'∧VL σ' vs' vs∧AVs P H'.get ts vs'
 |[],vs,ds,ps,_,_,_,h,σ,H,hr,no=>by
  obtain⟨rfl,_,_⟩:=trodAll_nil h
  exact⟨σ,H,[],Ade.refl hr no,.nil,trivial⟩
 |t::ts,vs,ds,ps,hok,hv,hx,h,σ,H,hr,no=>by
  obtain⟨v,vs',d,ds',p,q,rfl,rfl,rfl,h1,h2⟩:=trodAll_cons h
  obtain⟨σ1,H1,u,g1,g2,g3⟩:=Awj (ng:=ng) (hok t (by simp)) (hv 0 t v rfl rfl) (fun m hm=>hx m (List.mem_append.2 (.inl hm))) h1 hr no
  obtain⟨σ2,H2,us,k1,k2,k3⟩:=Am4 (fun t ht=>hok t (by simp[ht])) (fun j t v a b=>hv (j+1) t v (by simpa using a) (by simpa using b)) (fun m hm=>hx m (List.mem_append.2 (.inr hm))) h2 g1.hr g1.no
  exact⟨σ2,H2,u::us,g1.trans k1,.cons (g2.mono k1.le) k2,g3.mono (fun b o hb=>k1.keep.at_ hb),k3⟩
def Apm(n:Nat):Aaa:=⟨n,List.replicate n .dead⟩
theorem Ahz{n b:Nat}(h:b<n):(Apm n).get b=some .dead:=by
 unfold Apm Aaa.get
 simp only[h,if_true]
 rw[List.getElem?_replicate,if_pos (by omega)]
theorem HR.globs(n:Nat)(w:World)(h:n≤w.heap.size):HR n (fun b=>if b<n then some ⟨b,0,0,0,0,false⟩else none) (Apm n).get w:=by
 refine⟨fun b i hb=>?_,fun b1 b2 i1 i2 o1 o2 _ h1 _ g1 _ hw=>?_,fun b i hb=>?_,fun g hg=>⟨⟨g,0,0,0,0,false⟩,by simp[hg],rfl,rfl⟩⟩
 ·by_cases hn:b<n
  ·exact⟨.dead,Ahz hn,trivial⟩
  ·simp[hn]at hb
 ·by_cases hn:b1<n
  ·rw[Ahz hn]at g1;cases g1;cases hw
  ·simp[hn]at h1
 ·by_cases hn:b<n
  ·simp only[hn,if_true,Option.some.injEq]at hb;subst hb;exact Nat.lt_of_lt_of_le hn h
  ·simp[hn]at hb
theorem Asl(n:Nat):Akr (Apm n):=fun b o h=>by
 have hb:b<n:=Aaa.Bp9 h
 rw[Ahz hb]at h
 cases h;rfl
theorem law_calls{ng:Nat}{f:FuncId}{ts:List TypeId}(hts:∀t∈ts,okT P 20 t=true)(hlaw:∀H args,Akr H→AVs P H.get ts args→∃H',Aau P ng f args H (.bool true) H'){args:Array Value}{ds:List (DataW H0)}{ps:List MemPlace}
 (hA:DataW.TrodAll enc P w 0 (fun _=>true) true ts args.toList ds ps) (hws:(DataW.weightsEach P ts ds).all (· ≤reachBytes)=true) (hval:∀(j:Nat) t v,ts[j]? =some t→args[j]? =some v→Value.okWide P w .any 0 t v)
 (hng:ng≤w.heap.size:=by exact Nat.zero_le _) (hb:An3 P f=true:=by kernel_rfl):
 Calls P f args w fun e w'=>e=.returned (.bool true)∧Below w.heap.size w w':=by
 obtain⟨σ,H,args',g1,g2,g3⟩:=Am4 (ng:=ng) hts (fun j t v a b=>hval j t v a (by simpa using b)) (fun m hm=>by simpa using List.all_eq_true.1 hws m hm) hA (HR.globs ng w hng) (Asl ng)
 obtain⟨H',_,_,hrun⟩:=hlaw H args' g1.no g3
 refine((hrun σ w args.toList g1.hr g2).calls (Af1 hb)).mono ?_
 rintro e w' ⟨v',σ',rfl,k1,k2,k3⟩
 rw[k3.bool_inv]
 refine⟨rfl,k2.os,k2.tape,k2.output,k2.size,fun k hk=>k2.keep k hk (fun b i o hb ho hown=>?_)⟩
 rw[g1.no b o ho]at hown;cases hown
theorem trodAll_stays(hl:laidOutB P=true){W W':World}(hb:Below W.heap.size W W'){sp:Nat→Bool}:∀{ts:List TypeId} {vs:List Value} {ds:List (DataW H0)} {ps:List MemPlace},(∀t∈ts,P.readableRec t=true∧t<P.types.size)→
 DataW.TrodAll enc P W 0 (fun _=>true) true ts vs ds ps→(∀x∈ps,x.block<W.heap.size)→(∀p∈ps,sp p.block=true)→DataW.TrodAll enc P W' 0 sp true ts vs ds ps
 |[],vs,ds,ps,_,h,_,_=>by obtain⟨rfl,rfl,rfl⟩:=trodAll_nil h;rfl
 |t::ts,vs,ds,ps,hr,h,hlt,hsp=>by
  obtain⟨v,vs',d,ds',p,q,rfl,rfl,rfl,h1,h2⟩:=trodAll_cons h
  obtain⟨r1,r2⟩:=hr t (by simp)
  exact⟨p,q,WideElems.Trod_stays hl r1 r2 h1 (fun x hx=>hb.same (hlt x (by simp[hx]))) (fun x hx=>hsp x (by simp[hx])),
   trodAll_stays hl hb (fun t ht=>hr t (by simp[ht])) h2 (fun x hx=>hlt x (by simp[hx])) (fun x hx=>hsp x (by simp[hx])),rfl⟩
theorem post_of_below{H:Type}{enc:TypeId×Value→H}{f:Func}{s:ChangeSpec}{apart fresh handsOn again:Bool}{W W':World}{args:Array Value}{v:Value}{ds gs:List (DataW H)}{before pa pv:List MemPlace}
 (hW:DataW.Whole enc P f.params.toList s.vars apart W args.toList ds gs before)
 (hres:∀(b:Nat) (sp:Nat→Bool) (hd:Bool),DataW.TrodAll enc P W' b sp hd f.resultTypes.toList (v.resultList f.resultTypes.size) (s.fn H (ds++gs)).results [])
 (hargs:∀sp:Nat→Bool,(∀p∈before,sp p.block=true)→DataW.TrodAll enc P W' 0 sp true f.params.toList args.toList (s.fn H (ds++gs)).args pa)
 (hvars:∀sp:Nat→Bool,(∀p∈before,sp p.block=true)→DataW.TrodVars enc P W' sp s.vars (s.fn H (ds++gs)).vars pv)
 (hps:before=pa++pv) (hb:Below W.heap.size W W')
 (hok:∀(j:Nat) (t:TypeId) (r:Value),f.resultTypes[j]? =some t→(v.resultList f.resultTypes.size)[j]? =some r→Value.okWide P W' .any 0 t r):
 s.post enc P f apart fresh handsOn again W args v W':=by
 have hlt:∀p∈before,p.block<W.heap.size:=fun p hp=>hW.lt p hp
 have hold:∀p∈before,(fun b=>decide (b<W.heap.size)) p.block=true:=fun p hp=>by simpa using hlt p hp
 refine⟨ds,gs,before,[],pa,pv,hW,hres _ _ _,hargs _ hold,hvars _ hold,World.keptBut_mono (fun p hp=>⟨hp,?_⟩) (hb.frame (· ∈before)),fun _=>?_⟩
 ·rw[hps,List.mem_append]at hp
  exact Or.inr hp
 ·obtain⟨_,_,_,_,_,hz,hn⟩:=hW
  refine⟨hok,_,_,([]++pa)++pv,⟨[]++pa,pv,trodAll_append (hargs _ (fun _ _=>rfl)) (hres _ _ _),hvars _ (fun _ _=>rfl),rfl,?_,?_⟩,?_⟩
  ·intro b off hp
   have hin:MemPlace.cell b off∈before:=by rw[hps];simpa using hp
   rw[hb.frozen (hlt _ hin)]
   exact hz b off hin
  ·intro ha
   have:=hn ha
   rw[hps]at this
   simpa using this
  ·intro p hp _
   rw[hps]
   simpa using hp
end
end Go.AM

namespace Go.AM
section
variable {P:Program} {G:Gf} {t e:TypeId} {v:Value} {cs:List Value}
theorem AR.int_inv{k:IntKind}(hu:P.underlying t=some (.int k))(h:AR P G t cs):∃n,cs=[.int k n]∧(Lit.int k n).wf=true:=by
 cases h with
 |int h hw=>rw[hu]at h;cases h;exact⟨_,rfl,hw⟩
 |bool h=>rw[hu]at h;cases h
 |str h _=>rw[hu]at h;cases h
 |nil h=>rw[hu]at h;cases h
 |zero h _=>rw[hu]at h;cases h
 |sl h=>rw[hu]at h;cases h
 |struct h _=>rw[hu]at h;cases h
 |array h _=>rw[hu]at h;cases h
theorem AR.str_inv(hu:P.underlying t=some .string)(h:AR P G t cs):∃s:ByteArray,cs=[.string s]∧s.size≤maxLen∧s.size≤reachBytes:=by
 cases h with
 |int h hw=>rw[hu]at h;cases h
 |bool h=>rw[hu]at h;cases h
 |str h hs=>exact⟨_,rfl,hs⟩
 |nil h=>rw[hu]at h;cases h
 |zero h _=>rw[hu]at h;cases h
 |sl h=>rw[hu]at h;cases h
 |struct h _=>rw[hu]at h;cases h
 |array h _=>rw[hu]at h;cases h
theorem AR.slice_inv(hu:P.underlying t=some (.slice e))(h:AR P G t cs):cs=[.slice none 0 0]∨(∃x:Addr,x.spot.isSome=true∧cs=[.slice (some x) 0 0])∨
 ∃b n k c u,cs=[slc b 0 n k]∧0<k∧n≤k∧(k≤maxLen∧k*P.bytesOf e≤reachBytes)∧G b=some (.cells false false (P.cellsOf e) c u)∧c.length=k*P.cellsOf e∧∀i,i<k→AR P G e ((c.drop (i*P.cellsOf e)).take (P.cellsOf e)):=by
 cases h with
 |int h hw=>rw[hu]at h;cases h
 |bool h=>rw[hu]at h;cases h
 |str h hs=>rw[hu]at h;cases h
 |nil h=>exact .inl rfl
 |zero h hx=>exact .inr (.inl ⟨_,hx,rfl⟩)
 |sl h a b c d e f=>rw[hu]at h;cases h;exact .inr (.inr ⟨_,_,_,_,_,rfl,a,b,c,d,e,f⟩)
 |struct h _=>rw[hu]at h;cases h
 |array h _=>rw[hu]at h;cases h
theorem AV.one(ha:Aba P t=some false)(h:AV P G t v):v.cells.toList=[v]:=by
 rw[Afy (h.2.2 ha)]
theorem AV.int_inv{k:IntKind}(hu:P.underlying t=some (.int k))(h:AV P G t v):∃n,v=.int k n∧(Lit.int k n).wf=true:=by
 have h1:=h.one (by unfold Aba;rw[hu];rfl)
 obtain⟨n,h2,h3⟩:=h.1.int_inv hu
 rw[h1]at h2
 exact⟨n,by simpa using h2,h3⟩
end
end Go.AM

namespace Go.AM
section
variable {P:Program} {ng:Nat} {H:Aaa} {Q:AQ} {fr tm:List Value}
theorem Aan{c:Abw}(I:Nat→List Value→Aaa→Prop)(n:Nat)(h0:I n fr H)
 (hs:∀(Q':AQ) (k:Nat) (fr:List Value) (H:Aaa),I k fr H→(∀k' fr H,I k' fr H→k'<k→Q' .normal fr H)→(∀i fr H,Q (.exit i) fr H→Q' (.exit i) fr H)→(∀fr H,Q .ret fr H→Q' .ret fr H)→W P ng c Q' fr H):W P ng (.loop c) Q fr H:=
 ⟨I,n,h0,fun k fr H hI=>hs _ k fr H hI (fun k' fr H h1 h2=>⟨k',h2,h1⟩) (fun _ _ _ h=>h) (fun _ _ h=>h)⟩
theorem Atd(H:Aaa)(o o':AO):(H.alloc o).set H.n o'=H.alloc o':=by
 simp[Aaa.alloc,Aaa.set]
theorem Apq(p q:List UInt8):decide ((⟨p.toArray⟩:ByteArray)=⟨q.toArray⟩)=decide (p=q):=by
 rw[A1n,Asn]
end
set_option linter.defProp false in
def ANs:=(And.intro (And.intro (And.intro (And.intro (And.intro (And.intro (And.intro @A7g @Bhr) (And.intro @A7i (And.intro @A7v @Asx))) (And.intro (And.intro @Aqt (And.intro @A7j @Bhs)) (And.intro @A7h (And.intro @Bh5 @A7s)))) (And.intro (And.intro (And.intro @A1t (And.intro @A1u @Awo)) (And.intro @Ast (And.intro @A1v @Adg))) (And.intro (And.intro @Bia (And.intro @A7u @A1x)) (And.intro @Awp (And.intro @Asu @Awq))))) (And.intro (And.intro (And.intro (And.intro @Asv @Awr) (And.intro @A7w (And.intro @A1y @A7x))) (And.intro (And.intro @A7z (And.intro @Aws @Asy)) (And.intro @Awu (And.intro @Aww @As0)))) (And.intro (And.intro (And.intro @As2 (And.intro @Awy @A71)) (And.intro @A73 (And.intro @Bib @A75))) (And.intro (And.intro @A77 (And.intro @A79 @A8b)) (And.intro @Aw0 (And.intro @A10 @A12)))))) (And.intro (And.intro (And.intro (And.intro (And.intro @Aw2 @A14) (And.intro @Aw4 (And.intro @A16 @A18))) (And.intro (And.intro @Aw6 (And.intro @A2a @As4)) (And.intro @Aqu (And.intro @A8d @A2c)))) (And.intro (And.intro (And.intro @A1z (And.intro @A7y @A70)) (And.intro @Awt (And.intro @Asz @Awv))) (And.intro (And.intro @Awx (And.intro @As1 @As3)) (And.intro @Awz (And.intro @A72 @A74))))) (And.intro (And.intro (And.intro (And.intro @Bic @A76) (And.intro @A78 (And.intro @A8a @A8c))) (And.intro (And.intro @Aw1 (And.intro @A11 @A13)) (And.intro @Aw3 (And.intro @A15 @Aw5)))) (And.intro (And.intro (And.intro @A17 (And.intro @A19 @Aw7)) (And.intro @A2b (And.intro @As5 @Aqv))) (And.intro (And.intro @A8e (And.intro @A2d @A8f)) (And.intro @Bid (And.intro @A8h @Bie))))))) (And.intro (And.intro (And.intro (And.intro (And.intro (And.intro @Bif @A2e) (And.intro @As6 (And.intro @As7 @A2f))) (And.intro (And.intro @Big (And.intro @A2g @Bih)) (And.intro @Bii (And.intro @A2h @Bij)))) (And.intro (And.intro (And.intro @Bik (And.intro @A2i @A8i)) (And.intro @As8 (And.intro @A8j @As9))) (And.intro (And.intro @Aw8 (And.intro @Ata @Bil)) (And.intro @A8k (And.intro @Ak7 @Bhm))))) (And.intro (And.intro (And.intro (And.intro @Bhn @AX_c) (And.intro @Bho (And.intro @AX_g @D_no))) (And.intro (And.intro @Bhj (And.intro @D_tm @Bhk)) (And.intro @D_fr (And.intro @Bhl @Aso)))) (And.intro (And.intro (And.intro @A7t (And.intro @Bh6 @Bh7)) (And.intro @Bh8 (And.intro @Bh9 @pk_t))) (And.intro (And.intro @pk_f (And.intro @Bh0 @Bh1)) (And.intro @Bh2 (And.intro @Bh3 @e_sn)))))) (And.intro (And.intro (And.intro (And.intro (And.intro @e_ss @e_pn) (And.intro @e_ps (And.intro @e_bb @Asr))) (And.intro (And.intro @Bh4 (And.intro @A7k @A7l)) (And.intro @Bht (And.intro @Aqr @A1p)))) (And.intro (And.intro (And.intro @Bhu (And.intro @Bhv @Bhw)) (And.intro @Bhx (And.intro @Asp @Bhy))) (And.intro (And.intro @Aqs (And.intro @A7o @A7p)) (And.intro @A7q (And.intro @at_n @at_e))))) (And.intro (And.intro (And.intro (And.intro @at_r (And.intro @ib_n @ib_r)) (And.intro @ib_e (And.intro @ib_x @Aax))) (And.intro (And.intro @Al7 (And.intro @Abe @Ays)) (And.intro @Atb (And.intro @Atc @Ayt)))) (And.intro (And.intro (And.intro @Ayu (And.intro @Aoe @Abg)) (And.intro @Bim (And.intro @A8l @Bin))) (And.intro (And.intro @o_sl (And.intro @Bio @Bip)) (And.intro @o_pn (And.intro @o_if @A8m))))))))
set_option linter.defProp false in
def ANc:=(And.intro (And.intro (And.intro (And.intro (And.intro @List.getD_cons_zero.{0} @List.getD_cons_succ.{0}) (And.intro @List.set_cons_zero.{0} @List.set_cons_succ.{0})) (And.intro (And.intro @List.map_cons.{0,0} @List.map_nil.{0,0}) (And.intro @Option.map_some.{0,0} (And.intro @Option.map_none.{0,0} @beq_self_eq_true.{0})))) (And.intro (And.intro (And.intro @if_true.{1} @if_true.{0}) (And.intro @Bool.false_eq_true @if_false.{1})) (And.intro (And.intro @if_false.{0} @Bool.not_true) (And.intro @Bool.not_false (And.intro @Nat.add_zero @Nat.zero_add))))) (And.intro (And.intro (And.intro (And.intro @Nat.mul_one @Int.toNat_natCast) (And.intro @List.getElem?_cons_zero.{0} @List.getElem?_cons_succ.{0})) (And.intro (And.intro @true_and @and_true) (And.intro @false_and (And.intro @Exit.exit.injEq @Bool.true_beq)))) (And.intro (And.intro (And.intro @Bool.false_beq @beq_true) (And.intro @beq_false (And.intro @List.length_cons.{0} @List.length_nil.{0}))) (And.intro (And.intro @List.all_cons.{0} @List.all_nil.{0}) (And.intro @Bool.and_true (And.intro @Bool.true_and @and_self))))))
end Go.AM

namespace Go.AM
section
variable {P:Program} {ng:Nat} {H H':Aaa} {Q:AQ} {fr tm:List Value}
def A2j(g:Option AO)(o:Nat):Option Value:=match g with
 |some (.cells _ _ _ c _)=>c[o]?
 |_=>none
def Adz(g:Option AO)(o n:Nat):Option (List Value):=match g with
 |some (.cells _ _ _ c _)=>if o+n≤c.length then some ((c.drop o).take n)else none
 |_=>none
theorem A2k(H:Aaa)(b o:Nat):Ago H b o=A2j (H.get b) o:=by unfold Ago A2j;rfl
theorem Abj(H:Aaa)(b o n:Nat):Adp H b o n=Adz (H.get b) o n:=by unfold Adp Adz;rfl
theorem A2l(own room:Bool)(esz e:Nat)(c:List Value)(o:Nat):A2j (some (.cells own room esz c e)) o=c[o]? :=_root_.id rfl
theorem Ag7(own room:Bool)(esz e:Nat)(c:List Value)(o n:Nat):Adz (some (.cells own room esz c e)) o n=if o+n≤c.length then some ((c.drop o).take n)else none:=_root_.id rfl
def Bgy(H:Aaa)(b o:Nat)(x:Value)(g:Option AO):Option (Value×Aaa):=match g with
 |some (.cells true room esz c e)=>if o<c.length∧x.oneCell'=true then some (undef,H.set b (.cells true room esz (c.set o x) e))else none
 |_=>none
def Aw9(H:Aaa)(b o n:Nat)(x:List Value)(g:Option AO):Option (Value×Aaa):=match g with
 |some (.cells true room esz c e)=>if o+n≤c.length∧x.length=n∧x.all Value.oneCell'=true then some (undef,H.set b (.cells true room esz (c.take o++x++c.drop (o+n)) e))else none
 |_=>none
theorem Ate(H:Aaa)(b o:Nat)(x:Value):Aam (.store1 (ptr b o) x) H=Bgy H b o x (H.get b):=by
 unfold Bgy
 rfl
theorem Atf(H:Aaa)(b o n:Nat)(x:Value):Aam (.storen n (ptr b o) x) H=Aw9 H b o n x.cells.toList (H.get b):=by
 unfold Aw9
 rfl
theorem A8n(b o:Nat)(x:Value)(room:Bool)(esz e:Nat)(c:List Value):Bgy H b o x (some (.cells true room esz c e))=if o<c.length∧x.oneCell'=true then some (undef,H.set b (.cells true room esz (c.set o x) e))else none:=by
 unfold Bgy;rfl
theorem Ayv(b o n:Nat)(x:List Value)(room:Bool)(esz e:Nat)(c:List Value):Aw9 H b o n x (some (.cells true room esz c e))=if o+n≤c.length∧x.length=n∧x.all Value.oneCell'=true then some (undef,H.set b (.cells true room esz (c.take o++x++c.drop (o+n)) e))else none:=by
 unfold Aw9;rfl
theorem Abx{own room:Bool}{esz e n:Nat}{c:List Value}(h:c.length=n):Adz (some (.cells own room esz c e)) 0 n=some c:=by
 rw[Ag7,if_pos (by omega),List.drop_zero,List.take_of_length_le (by omega)]
theorem Axa{own room:Bool}{esz e o n:Nat}{c:List Value}(h:c.length≠n):Adz (some (.cells own room esz c e)) o n=if o+n≤c.length then some ((c.drop o).take n)else none:=Ag7 ..
theorem Ag8{b n:Nat}{x:List Value}{room:Bool}{esz e:Nat}{c:List Value}(h:c.length=n):Aw9 H b 0 n x (some (.cells true room esz c e))=if x.length=n∧x.all Value.oneCell'=true then some (undef,H.set b (.cells true room esz x e))else none:=by
 rw[Ayv]
 by_cases hx:x.length=n∧x.all Value.oneCell'=true
 ·rw[if_pos ⟨by omega,hx⟩,if_pos hx,List.take_zero,List.nil_append,List.drop_of_length_le (by omega),List.append_nil]
 ·rw[if_neg (fun h=>hx h.2),if_neg hx]
theorem Axb{b o n:Nat}{x:List Value}{room:Bool}{esz e:Nat}{c:List Value}(h:c.length≠n):Aw9 H b o n x (some (.cells true room esz c e))=if o+n≤c.length∧x.length=n∧x.all Value.oneCell'=true then some (undef,H.set b (.cells true room esz (c.take o++x++c.drop (o+n)) e))else none:=Ayv ..
theorem Atg(l:List Value):(Value.agg l.toArray).cells.toList=l:=by simp[Value.cells]
theorem Ac7(l:List Value):l.toArray.toList=l:=by simp
theorem Axc(l:List Value):l.toArray.size=l.length:=by simp
theorem Biq{b:Nat}(o:AO)(h:b=H.n):(H.alloc o).get b=some o:=by subst h;exact Aaa.Bp6 H o
theorem Ath{b:Nat}(o:AO)(h:b<H.n):(H.alloc o).get b=H.get b:=Aaa.Bqb H o h
theorem Bir(b:Nat)(o:AO):(H.set b o).get b=(H.get b).map fun _=>o:=by
 by_cases hb:b<H.n
 ·by_cases h:H.n-1-b<H.l.length
  ·simp[Aaa.get,Aaa.set,hb,h]
  ·simp only[Aaa.get,Aaa.set,hb,if_true,List.getElem?_eq_none (Nat.le_of_not_lt h),Option.map_none]
   exact List.getElem?_eq_none (by simpa using Nat.le_of_not_lt h)
 ·simp[Aaa.get,Aaa.set,hb]
theorem Ayw{b b':Nat}(o:AO)(h:b'≠b)(h2:b<H.n):(H.set b o).get b'=H.get b':=Aaa.Bp8 H h h2 o
theorem A2m{b:Nat}(o o':AO)(h:b=H.n):(H.alloc o).set b o'=H.alloc o':=by subst h;exact Atd H o o'
theorem A2n{b:Nat}(o o':AO)(h:b<H.n):(H.alloc o).set b o'=(H.set b o').alloc o:=by
 simp only[Aaa.alloc,Aaa.set,show H.n+1-1-b=(H.n-1-b)+1 by omega,List.set_cons_succ]
theorem Ati(b:Nat)(o o':AO):(H.set b o).set b o'=H.set b o':=by simp[Aaa.set]
theorem A8o{a b:Nat}(h:a<b):(a<b)=True:=by simp[h]
theorem A8p{a b:Nat}(h:a≤b):(a≤b)=True:=by simp[h]
theorem A2o{a b:Nat}(h:a=b):(a=b)=True:=by simp[h]
theorem A2p{a b:Int}(h:a<b):(a<b)=True:=by simp[h]
theorem A2q{a b:Int}(h:a≤b):(a≤b)=True:=by simp[h]
theorem A8q{a b:Int}(h:¬a<b):(a<b)=False:=by simp[h]
theorem A8r{a b:Int}(h:¬a≤b):(a≤b)=False:=by simp[h]
theorem A2r{a b:Int}(h:¬a=b):(a==b)=false:=by simp[h]
theorem Axd{a b:Int}(h:a=b):(a==b)=true:=by simp[h]
theorem A2s{a b:Int}(h:a=b):(a != b)=false:=by simp[h]
theorem Axe{a b:Int}(h:¬a=b):(a != b)=true:=by simp[h]
theorem bi_u(b:Bool):Ae4 undef b=false:=by cases b<;>rfl
theorem Axf(b:Bool):Ae4 (.bool b) true=b:=by cases b<;>rfl
theorem Axg(b:Bool):Ae4 (.bool b) false= !b:=by cases b<;>rfl
theorem Aag{f:FuncId}{xs:List Value}{R K:Value→Aaa→Prop}(h:∃v H',Aau P ng f xs H v H'∧R v H')(k:∀v H',R v H'→K v H'):∃v H',Aau P ng f xs H v H'∧K v H':=by
 obtain⟨v,H',h1,h2⟩:=h;exact⟨v,H',h1,k v H' h2⟩
theorem Aaw{f:FuncId}{xs:List Value}{K:Value→Aaa→Prop}{x:Value}{H2:Aaa}(h:∃v H',Aau P ng f xs H v H'∧v=x∧H'=H2)(k:K x H2):∃v H',Aau P ng f xs H v H'∧K v H':=by
 obtain⟨v,H',h1,rfl,rfl⟩:=h;exact⟨_,_,h1,k⟩
theorem Chg1.get{r:Nat}(c:Chg [r] H H'){b:Nat}(h1:b<H.n)(h2:b≠r):H'.get b=H.get b:=c.get b h1 (by simpa using h2)
def bn(v:Value):Nat:=match blk v with
 |some b=>b+1
 |none=>0
def elP(v:Value)(esz j off:Nat):Value:=match v with
 | .slice (some ⟨b,o,none⟩) _ _=>ptr b (o+j*esz+off)
 |_=>undef
def nnS(v:Value):Bool:=match v with
 | .slice (some ⟨_,_,none⟩) _ _=>true
 |_=>false
def lenS(v:Value):Nat:=match v with
 | .slice _ n _=>n
 |_=>0
def isS(v:Value):Bool:=match v with
 | .slice _ _ _=>true
 |_=>false
def Afp(H:Aaa)(esz:Nat)(v:Value)(j:Nat):Option (List Value):=match v with
 | .slice (some ⟨b,o,none⟩) _ _=>Adp H b (o+j*esz) esz
 |_=>none
theorem Al8{v:Value}(h:nnS v=true):∃b o n k,v=slc b o n k:=by
 unfold nnS at h
 split at h
 ·exact⟨_,_,_,_,rfl⟩
 ·cases h
theorem Aeo{v:Value}(h:isS v=true):∃a n k,v=.slice a n k:=by
 unfold isS at h
 split at h
 ·exact⟨_,_,_,rfl⟩
 ·cases h
theorem A8s{v:Value}(h:isS v=true):Aam (.len false v) H=some (.int .i64 (lenS v),H):=by
 obtain⟨a,n,k,rfl⟩:=Aeo h;rfl
theorem Axh{v:Value}{esz:Nat}{kd:IntKind}{i:Int}(h:nnS v=true)(h1:0≤i)(h2:i<(lenS v:Int)):Aam (.iaddr esz v (.int kd i)) H=some (elP v esz i.toNat 0,H):=by
 obtain⟨b,o,n,k,rfl⟩:=Al8 h
 rw[As9,if_pos ⟨h1,h2⟩];rfl
theorem Axi{v:Value}{esz j off d:Nat}(h:nnS v=true):Aam (.faddr d (elP v esz j off)) H=some (elP v esz j (off+d),H):=by
 obtain⟨b,o,n,k,rfl⟩:=Al8 h
 show Aam (.faddr d (ptr b (o+j*esz+off))) H=_
 rw[As8,Nat.add_assoc];rfl
theorem Ad5{v:Value}{esz j:Nat}{r:List Value}(h:Afp H esz v j=some r):∃b o n k,v=slc b o n k∧r.length=esz∧∃own room z c e,H.get b=some (.cells own room z c e)∧o+j*esz+esz≤c.length∧r=(c.drop (o+j*esz)).take esz:=by
 unfold Afp at h
 split at h
 ·rename_i b o n k
  refine⟨b,o,n,k,rfl,?_⟩
  unfold Adp at h
  split at h
  ·rename_i own room z c e hg
   split at h
   ·rename_i hl
    simp only[Option.some.injEq]at h;subst h
    exact⟨by rw[List.length_take,List.length_drop];omega,own,room,z,c,e,hg,hl,rfl⟩
   ·cases h
  ·cases h
 ·cases h
theorem Aal{v:Value}{esz j off:Nat}{r:List Value}(h:Afp H esz v j=some r)(ho:off<esz):Aam (.load1 (elP v esz j off)) H=r[off]?.map fun x=>(x,H):=by
 obtain⟨b,o,n,k,rfl,h1,own,room,z,c,e,h2,h3,h4⟩:=Ad5 h
 show Aam (.load1 (ptr b (o+j*esz+off))) H=_
 rw[As6,Awn h2,h4,List.getElem?_take_of_lt ho,List.getElem?_drop]
theorem Ag9{v:Value}{esz j off n:Nat}{r:List Value}(h:Afp H esz v j=some r)(ho:off+n≤esz):Aam (.loadn n (elP v esz j off)) H=some (.agg ((r.drop off).take n).toArray,H):=by
 obtain⟨b,o,n',k,rfl,h1,own,room,z,c,e,h2,h3,h4⟩:=Ad5 h
 show Aam (.loadn n (ptr b (o+j*esz+off))) H=_
 rw[As7,Asq h2,if_pos (by omega),h4,List.drop_take,List.take_take,List.drop_drop,Nat.min_eq_left (by omega)]
 rfl
theorem Aai{v:Value}{n j:Nat}{r:List Value}(h:Afp H n v j=some r):Aam (.loadn n (elP v n j 0)) H=some (.agg r.toArray,H):=by
 obtain⟨_,_,_,_,_,hl,_⟩:=Ad5 h
 rw[Ag9 h (by omega),List.drop_zero,List.take_of_length_le (by omega)]
theorem Atj{v:Value}{esz j off n:Nat}{r:List Value}(hne:n≠esz)(h:Afp H esz v j=some r)(ho:off+n≤esz):Aam (.loadn n (elP v esz j off)) H=some (.agg ((r.drop off).take n).toArray,H):=Ag9 h ho
theorem Af4{KF:List Value→Aaa→Prop}{tr:List TE}(g:FuncId)(first cap:Array Value)(xs:List Value)(d:D)(un:List Nat)(r:List (Aa5×List Nat)):stD P ng (.callv (.func (.func g) first cap) xs) d un r fr tm H tr KF=A1w P ng g (first.toList++xs++cap.toList) d un r fr tm H tr KF:=_root_.id rfl
theorem Axj{v:Value}{esz j off:Nat}(h:nnS v=true):Abt (.load1 (elP v esz j off))=[bn v-1]:=by
 obtain⟨b,o,n',k,rfl⟩:=Al8 h;rfl
theorem Atk{v:Value}{esz j off n:Nat}(h:nnS v=true):Abt (.loadn n (elP v esz j off))=[bn v-1]:=by
 obtain⟨b,o,n',k,rfl⟩:=Al8 h;rfl
theorem Aiy{esz:Nat}{v:Value}{j:Nat}(h:∀b,blk v=some b→H'.get b=H.get b):Afp H' esz v j=Afp H esz v j:=by
 unfold Afp
 split
 ·rename_i b o n k
  rw[Abj,Abj,h b rfl]
 ·rfl
theorem A2t{v:Value}{n b:Nat}(h:bn v≤n)(e:blk v=some b):b<n:=by
 unfold bn at h;rw[e]at h;exact h
theorem Aab{esz:Nat}{v:Value}{j:Nat}(o:AO)(h:bn v≤H.n):Afp (H.alloc o) esz v j=Afp H esz v j:=Aiy fun b e=>Ath o (A2t h e)
theorem Aad{esz:Nat}{v:Value}{j b:Nat}(o:AO)(h:bn v≠b+1)(hb:b<H.n):Afp (H.set b o) esz v j=Afp H esz v j:=Aiy fun x e=>Ayw o (by intro hx;subst hx;apply h;unfold bn;rw[e]) hb
structure Sl (H:Aaa) (esz:Nat) (v:Value) (rows:List (List Value)):Prop where
 sh:∃a k,v=.slice a rows.length k
 row:∀r∈rows,r.length=esz
 el:Aa6 H esz v=some rows.flatten
theorem Sl.len{esz:Nat}{v:Value}{rows:List (List Value)}(h:Sl H esz v rows):lenS v=rows.length:=by
 obtain⟨a,k,rfl⟩:=h.sh;rfl
theorem Sl.is{esz:Nat}{v:Value}{rows:List (List Value)}(h:Sl H esz v rows):isS v=true:=by
 obtain⟨a,k,rfl⟩:=h.sh;rfl
theorem Sl.one{esz:Nat}{v:Value}{rows:List (List Value)}(h:Sl H esz v rows):v.oneCell'=true:=by
 obtain⟨a,k,rfl⟩:=h.sh;rfl
theorem Sl.nil(H:Aaa)(esz:Nat):Sl H esz (.slice none 0 0) []:=⟨⟨_,_,rfl⟩,by simp,rfl⟩
theorem Aco{esz:Nat}:∀{rows:List (List Value)},(∀r∈rows,r.length=esz)→rows.flatten.length=rows.length*esz
 |[],_=>by simp
 |r::rows,h=>by
  have h1:=h r (by simp)
  have h2:=Aco (rows:=rows) (fun x hx=>h x (by simp[hx]))
  rw[List.flatten_cons,List.length_append,h1,h2,List.length_cons,Nat.add_mul];omega
theorem Atl{esz:Nat}:∀{rows:List (List Value)},(∀r∈rows,r.length=esz)→∀(i:Nat) (hi:i<rows.length),(rows.flatten.drop (i*esz)).take esz=rows[i]
 |r::rows,h,0,_=>by
  have h1:=h r (by simp)
  rw[Nat.zero_mul,List.drop_zero,List.flatten_cons,List.take_append_of_le_length (by omega),List.take_of_length_le (by omega)];rfl
 |r::rows,h,i+1,hi=>by
  have h1:=h r (by simp)
  have h2:=Atl (rows:=rows) (fun x hx=>h x (by simp[hx])) i (by simpa using hi)
  rw[Nat.add_mul,Nat.one_mul,Nat.add_comm,←List.drop_drop,List.flatten_cons]
  rw[show(r++rows.flatten).drop esz=rows.flatten by rw[←h1,List.drop_left],h2]
  rfl
theorem Sl.at_{esz:Nat}{v:Value}{rows:List (List Value)}(h:Sl H esz v rows)(hz:0<esz){i:Nat}(hi:i<rows.length):nnS v=true∧Afp H esz v i=some rows[i]:=by
 have h2:=h.el
 have hfl:=Aco h.row
 have hpos:0<rows.flatten.length:=by rw[hfl];exact Nat.mul_pos (by omega) hz
 obtain⟨a,k,rfl⟩:=h.sh
 match a,h2 with
 |none,h2=>simp only[Aa6,Option.some.injEq]at h2;rw[←h2]at hpos;simp at hpos
 |some ⟨b,o,some q⟩,h2=>
  simp only[Aa6]at h2
  rw[if_neg (by omega)]at h2;cases h2
 |some ⟨b,o,none⟩,h2=>
  refine⟨rfl,?_⟩
  simp only[Aa6]at h2
  simp only[Afp,Adp]
  split at h2
  ·rename_i own room z c e hg
   split at h2
   ·rename_i hl
    have hm:(i+1)*esz≤rows.length*esz:=Nat.mul_le_mul_right esz hi
    rw[Nat.add_mul,Nat.one_mul]at hm
    rw[if_pos (by omega)]
    simp only[Option.some.injEq]at h2
    have:=Atl h.row i hi
    rw[←h2,List.drop_take,List.take_take,List.drop_drop,Nat.min_eq_left (by omega)]at this
    rw[this]
   ·cases h2
  ·cases h2
theorem Sl.bn_le{esz:Nat}{v:Value}{rows:List (List Value)}(h:Sl H esz v rows)(hr:rows≠[])(hz:0<esz):bn v≤H.n:=by
 have hl:0<rows.length:=List.length_pos_iff.2 hr
 obtain⟨h1,h2⟩:=h.at_ hz hl
 obtain⟨b,o,n,k,rfl,_,own,room,z,c,e,hg,_⟩:=Ad5 h2
 exact Aaa.Bp9 hg
theorem Sl.get'{esz:Nat}{v:Value}{rows:List (List Value)}(h:Sl H esz v rows)(k:∀b,blk v=some b→b<H.n→H'.get b=H.get b):Sl H' esz v rows:=by
 refine⟨h.sh,h.row,?_⟩
 have h2:=h.el
 obtain⟨a,c,rfl⟩:=h.sh
 match a,h2 with
 |none,h2=>exact h2
 |some ⟨b,o,none⟩,h2=>
  simp only[Aa6]at h2 ⊢
  cases hg:H.get b with
  |none=>rw[hg]at h2;cases h2
  |some ob=>rw[k b rfl (Aaa.Bp9 hg)];exact h2
 |some ⟨b,o,some _⟩,h2=>simpa[Aa6]using h2
theorem Sl.keeps{esz:Nat}{v:Value}{rows:List (List Value)}(h:Sl H esz v rows)(k:Aac H H'):Sl H' esz v rows:=h.get' fun b _ hb=>k.get b hb
theorem Sl.chg{esz:Nat}{v:Value}{rows:List (List Value)}{S:List Nat}(h:Sl H esz v rows)(k:Chg S H H')(hS:∀b,blk v=some b→b∉S):Sl H' esz v rows:=h.get' fun b e hb=>k.get b hb (hS b e)
theorem Sl.chg1{esz:Nat}{v:Value}{rows:List (List Value)}{r:Nat}(h:Sl H esz v rows)(k:Chg [r] H H')(hS:bn v≠r+1):Sl H' esz v rows:=h.get' fun b e hb=>Chg1.get k hb (by intro hx;subst hx;apply hS;unfold bn;rw[e])
theorem AP.sl{e esz:Nat}{v:Value}{n:Nat}{rows:List (List Value)}(h:AP H e esz v n rows.flatten)(hr:∀r∈rows,r.length=esz)(hn:n=rows.length):Sl H esz v rows:=by
 obtain⟨a,ha⟩:=h.shape
 exact⟨⟨a,n,by rw[←hn];exact ha⟩,hr,h.elems⟩
section
variable {KF:List Value→Aaa→Prop} {tr:List TE} (d:D) (r:List Aa5) (un:List Nat) (rd:List (Aa5×List Nat))
theorem Ayx(e s b:Nat)(x y:Value):stR P ng (.app e s b x y) d r fr tm H KF=goR P ng (Aam (.app e s b x y) H) d r fr tm KF:=Abr d r (by simp) (by simp) (by simp)
theorem A2u(e b:Nat)(x y:Value):stR P ng (.apps e b x y) d r fr tm H KF=goR P ng (Aam (.apps e b x y) H) d r fr tm KF:=Abr d r (by simp) (by simp) (by simp)
theorem A2v(e b:Nat)(x y:Value):stD P ng (.apps e b x y) d un rd fr tm H tr KF=goD P ng (.apps e b x y) (Aam (.apps e b x y) H) d un rd fr tm H tr KF:=Abi d un rd (by simp) (by simp) (by simp)
theorem Atm(s n:Nat)(x i:Value):stR P ng (.iaddrp s n x i) d r fr tm H KF=goR P ng (Aam (.iaddrp s n x i) H) d r fr tm KF:=Abr d r (by simp) (by simp) (by simp)
theorem Atn(s n:Nat)(x i:Value):stD P ng (.iaddrp s n x i) d un rd fr tm H tr KF=goD P ng (.iaddrp s n x i) (Aam (.iaddrp s n x i) H) d un rd fr tm H tr KF:=Abi d un rd (by simp) (by simp) (by simp)
theorem A2w(a:Bool)(s n:Nat)(x i:Value):stR P ng (.idxa a s n x i) d r fr tm H KF=goR P ng (Aam (.idxa a s n x i) H) d r fr tm KF:=Abr d r (by simp) (by simp) (by simp)
theorem A2x(a:Bool)(s n:Nat)(x i:Value):stD P ng (.idxa a s n x i) d un rd fr tm H tr KF=goD P ng (.idxa a s n x i) (Aam (.idxa a s n x i) H) d un rd fr tm H tr KF:=Abi d un rd (by simp) (by simp) (by simp)
theorem Axk(s n:Nat)(x:Value)(lo hi mx:Option Value):stR P ng (.slarr s n x lo hi mx) d r fr tm H KF=goR P ng (Aam (.slarr s n x lo hi mx) H) d r fr tm KF:=Abr d r (by simp) (by simp) (by simp)
theorem Axl(s n:Nat)(x:Value)(lo hi mx:Option Value):stD P ng (.slarr s n x lo hi mx) d un rd fr tm H tr KF=goD P ng (.slarr s n x lo hi mx) (Aam (.slarr s n x lo hi mx) H) d un rd fr tm H tr KF:=Abi d un rd (by simp) (by simp) (by simp)
theorem A8t(c:List Nat)(n:Bool)(x y:Value):stR P ng (.eqs c n x y) d r fr tm H KF=goR P ng (Aam (.eqs c n x y) H) d r fr tm KF:=Abr d r (by simp) (by simp) (by simp)
theorem A8u(c:List Nat)(n:Bool)(x y:Value):stD P ng (.eqs c n x y) d un rd fr tm H tr KF=goD P ng (.eqs c n x y) (Aam (.eqs c n x y) H) d un rd fr tm H tr KF:=Abi d un rd (by simp) (by simp) (by simp)
theorem Bis(m:Bool)(x y:Value):stR P ng (.mm m x y) d r fr tm H KF=goR P ng (Aam (.mm m x y) H) d r fr tm KF:=Abr d r (by simp) (by simp) (by simp)
theorem Bit(m:Bool)(x y:Value):stD P ng (.mm m x y) d un rd fr tm H tr KF=goD P ng (.mm m x y) (Aam (.mm m x y) H) d un rd fr tm H tr KF:=Abi d un rd (by simp) (by simp) (by simp)
theorem Axm(x:Value):stR P ng (.i2str x) d r fr tm H KF=goR P ng (Aam (.i2str x) H) d r fr tm KF:=Abr d r (by simp) (by simp) (by simp)
theorem Axn(x:Value):stD P ng (.i2str x) d un rd fr tm H tr KF=goD P ng (.i2str x) (Aam (.i2str x) H) d un rd fr tm H tr KF:=Abi d un rd (by simp) (by simp) (by simp)
theorem A8v(x:Value):stR P ng (.rng x) d r fr tm H KF=goR P ng (Aam (.rng x) H) d r fr tm KF:=Abr d r (by simp) (by simp) (by simp)
theorem A2y(x:Value):stR P ng (.next x) d r fr tm H KF=goR P ng (Aam (.next x) H) d r fr tm KF:=Abr d r (by simp) (by simp) (by simp)
theorem A2z(e:Nat)(x y:Value):stR P ng (.copy e x y) d r fr tm H KF=goR P ng (Aam (.copy e x y) H) d r fr tm KF:=Abr d r (by simp) (by simp) (by simp)
theorem A20(e:Nat)(x y:Value):stD P ng (.copy e x y) d un rd fr tm H tr KF=goD P ng (.copy e x y) (Aam (.copy e x y) H) d un rd fr tm H tr KF:=Abi d un rd (by simp) (by simp) (by simp)
theorem A8w(e:Nat)(z:List Value)(x:Value):stR P ng (.clr e z x) d r fr tm H KF=goR P ng (Aam (.clr e z x) H) d r fr tm KF:=Abr d r (by simp) (by simp) (by simp)
end
theorem Bnd(m:Bool)(k:IntKind)(a b:Int):Aam (.mm m (.int k a) (.int k b)) H=some (.int k (if m then(if b>a then b else a)else(if b<a then b else a)),H):=by
 simp[Aam]
theorem Biu(k:IntKind)(a b:Int):Aam (.mm true (.int k a) (.int k b)) H=some (.int k (max a b),H):=by
 rw[Bnd];simp only[if_true];congr 3;split<;>omega
theorem Af5(k:IntKind)(a b:Int):Aam (.mm false (.int k a) (.int k b)) H=some (.int k (min a b),H):=by
 rw[Bnd];simp only[Bool.false_eq_true,if_false];congr 3;split<;>omega
theorem Aa1(esz n b o:Nat)(kd:IntKind)(i:Int):Aam (.iaddrp esz n (ptr b o) (.int kd i)) H=if 0≤i∧i<(n:Int)then some (ptr b (o+i.toNat*esz),H)else none:=_root_.id rfl
theorem Ato(e esz n:Nat)(z:List Value)(ps:List (Nat×Nat×Value)):Aam (.bslice e esz n z ps) H=(Aa4 z ps).bind fun c=>if c.all Value.oneCell'=true∧c.length=n*esz then some (slc H.n 0 n n,H.alloc (.cells true false esz c e))else none:=by
 simp only[Aam];cases Aa4 z ps<;>rfl
theorem Ad9(c:List Value)(o n:Nat)(v:Value)(r:List (Nat×Nat×Value)):Aa4 c ((o,n,v)::r)=if v.cells.toList.length=n∧o+n≤c.length then Aa4 (c.take o++v.cells.toList++c.drop (o+n)) r else none:=by
 simp only[Aa4]
theorem Atp(k:IntKind)(n:Int):(Value.int k n).cells.toList=[.int k n]:=_root_.id rfl
theorem Aqw(n:Bool):(Value.bool n).cells.toList=[.bool n]:=_root_.id rfl
theorem Atq(n:ByteArray):(Value.string n).cells.toList=[.string n]:=_root_.id rfl
theorem Axo(a:Option Addr)(n k:Nat):(Value.slice a n k).cells.toList=[.slice a n k]:=_root_.id rfl
theorem Atr(b o n k:Nat):(slc b o n k).cells.toList=[slc b o n k]:=_root_.id rfl
theorem Ats(b o:Nat):(ptr b o).cells.toList=[ptr b o]:=_root_.id rfl
theorem Axp(a:Option Addr):(Value.pointer a).cells.toList=[.pointer a]:=_root_.id rfl
theorem Att{v:Value}(h:isS v=true):v.cells.toList=[v]:=by obtain⟨a,n,k,rfl⟩:=Aeo h;rfl
theorem Aas{v:Value}(h:isS v=true):v.oneCell'=true:=by obtain⟨a,n,k,rfl⟩:=Aeo h;rfl
theorem Aqx(i n:Nat)(fr:List Value):Acx [.cn n i] fr H=(Adm n (fr.getD i undef) H):=by
 simp only[Acx,Agl,RX.get]
 cases Adm n (fr.getD i undef) H<;>rfl
theorem Acq(n b o:Nat):Adm n (ptr b o) H=(Adp H b o n).map fun c=>.agg c.toArray:=_root_.id rfl
theorem Ayy(b o:Nat):Aqm (ptr b o) H=Ago H b o:=_root_.id rfl
theorem Aof(b o:Nat)(H:Aaa):Acb (.load1 (ptr b o)) H=[b]:=_root_.id rfl
theorem Aog(n b o:Nat)(H:Aaa):Acb (.loadn n (ptr b o)) H=[b]:=_root_.id rfl
theorem Am7{v:Value}{esz j off:Nat}(h:nnS v=true)(H:Aaa):Acb (.load1 (elP v esz j off)) H=[bn v-1]:=by
 show Abt _=_;exact Axj h
theorem Am8{v:Value}{esz j off n:Nat}(h:nnS v=true)(H:Aaa):Acb (.loadn n (elP v esz j off)) H=[bn v-1]:=by
 show Abt _=_;exact Atk h
theorem Axq(A B:Aaa):Afj [] A B=True:=_root_.id rfl
theorem Axr(b:Nat)(l:List Nat)(A B:Aaa):Afj (b::l) A B=(B.get b=A.get b∧Afj l A B):=_root_.id rfl
theorem Axs(A:Aaa):Ag5 [] A=True:=_root_.id rfl
theorem Axt(b:Nat)(l:List Nat)(A:Aaa):Ag5 (b::l) A=(b<A.n∧Ag5 l A):=_root_.id rfl
def ob1(k:Nat)(bs:List Nat)(A B:Aaa)(x:Option TE):Prop:=match x with
 |some t=>if k=1∧t.k=3 then Ag5 bs t.H∧Afj bs t.H t.H' else if k=3∧(t.k=1∨t.k=2)then Afj t.bs A B else True
 |none=>True
theorem Biv(k:Nat)(bs:List Nat)(A B:Aaa)(tr:List TE)(i:Nat)(un:List Nat):Ans k bs A B tr (i::un)=(ob1 k bs A B tr[i]? ∧Ans k bs A B tr un):=_root_.id rfl
theorem Biw(bs:List Nat)(A B:Aaa)(x:Option TE):ob1 0 bs A B x=True:=by unfold ob1;split<;>simp
theorem Bix(bs:List Nat)(A B:Aaa)(x:Option TE):ob1 2 bs A B x=True:=by unfold ob1;split<;>simp
theorem Biy(k:Nat)(bs:List Nat)(A B:Aaa)(j:Nat)(cs:List Nat)(C D:Aaa):ob1 k bs A B (some ⟨j,cs,C,D⟩)=if k=1∧j=3 then Ag5 bs C∧Afj bs C D else if k=3∧(j=1∨j=2)then Afj cs A B else True:=_root_.id rfl
end
set_option linter.defProp false in
def A3s:=(And.intro (And.intro (And.intro (And.intro (And.intro (And.intro @A2k @Abj) (And.intro @A2l (And.intro @Abx @Axa))) (And.intro (And.intro @Ate (And.intro @Atf @A8n)) (And.intro @Ag8 (And.intro @Axb @Aal)))) (And.intro (And.intro (And.intro @Aai (And.intro @Atj @Af4)) (And.intro @Atg (And.intro @Ac7 @Axc))) (And.intro (And.intro @Biq (And.intro @Ath @Bir)) (And.intro @Ayw (And.intro @A2m @A2n))))) (And.intro (And.intro (And.intro (And.intro @Ati @Acd) (And.intro @Ab7 (And.intro @A8o @A8p))) (And.intro (And.intro @A2o (And.intro @A2p @A2q)) (And.intro @A8q (And.intro @A8r @A2r)))) (And.intro (And.intro (And.intro @Axd (And.intro @A2s @Axe)) (And.intro @Axf (And.intro @Axg @A8s))) (And.intro (And.intro @Axh (And.intro @Axi @Aab)) (And.intro @Aad (And.intro @Ayx @A2u)))))) (And.intro (And.intro (And.intro (And.intro (And.intro @A2v @A8g) (And.intro @Atm (And.intro @Atn @A2w))) (And.intro (And.intro @A2x (And.intro @Axk @Axl)) (And.intro @A8t (And.intro @A8u @Bis)))) (And.intro (And.intro (And.intro @Bit (And.intro @Axm @Axn)) (And.intro @A8v (And.intro @A2y @A2z))) (And.intro (And.intro @A20 (And.intro @A8w @Biu)) (And.intro @Af5 (And.intro @Aa1 @Ato))))) (And.intro (And.intro (And.intro (And.intro @Atp (And.intro @Aqw @Atq)) (And.intro @Axo (And.intro @Atr @Ats))) (And.intro (And.intro @Axp (And.intro @Aof @Aog)) (And.intro @Am7 (And.intro @Am8 @Axq)))) (And.intro (And.intro (And.intro @Axr (And.intro @Axs @Axt)) (And.intro @A1s (And.intro @Biv @Biw))) (And.intro (And.intro @Bix (And.intro @Biy @bi_u)) (And.intro @Aqx (And.intro @Acq @Ayy)))))))
set_option linter.defProp false in
def A3c:=(And.intro (And.intro (And.intro (And.intro @List.append_nil.{0} @List.nil_append.{0}) (And.intro @List.cons_append.{0} @decide_true)) (And.intro (And.intro @decide_false @List.drop_zero.{0}) (And.intro @Option.bind_some.{0,0} @List.toList_toArray.{0}))) (And.intro (And.intro (And.intro @implies_true.{1} @implies_true.{0}) (And.intro @not_true_eq_false @not_false_eq_true)) (And.intro (And.intro @and_false @Int.toNat_zero) (And.intro @bne_self_eq_false.{0} @Bool.not_not))))
set_option linter.defProp false in
def LN:=And.intro @List.length_cons.{0} (And.intro @List.length_nil.{0} (And.intro @Acd @Ab7))
set_option linter.defProp false in
def P3:=And.intro ANs (And.intro A3s (And.intro ANc (And.intro A3c (And.intro (And.intro (And.intro (And.intro (And.intro @AOp.map.eq_1 (And.intro @AOp.map.eq_2 @AOp.map.eq_3)) (And.intro @AOp.map.eq_4 (And.intro @AOp.map.eq_5 @AOp.map.eq_6))) (And.intro (And.intro @AOp.map.eq_7 (And.intro @AOp.map.eq_8 @AOp.map.eq_9)) (And.intro (And.intro @AOp.map.eq_10 @AOp.map.eq_11) (And.intro @AOp.map.eq_12 @AOp.map.eq_13)))) (And.intro (And.intro (And.intro @AOp.map.eq_14 (And.intro @AOp.map.eq_15 @AOp.map.eq_16)) (And.intro @AOp.map.eq_17 (And.intro @AOp.map.eq_18 @AOp.map.eq_19))) (And.intro (And.intro @AOp.map.eq_20 (And.intro @AOp.map.eq_21 @AOp.map.eq_22)) (And.intro (And.intro @AOp.map.eq_23 @AOp.map.eq_24) (And.intro @AOp.map.eq_25 @AOp.map.eq_26))))) (And.intro (And.intro (And.intro (And.intro @AOp.map.eq_27 (And.intro @AOp.map.eq_28 @AOp.map.eq_29)) (And.intro @AOp.map.eq_30 (And.intro @AOp.map.eq_31 @AOp.map.eq_32))) (And.intro (And.intro @AOp.map.eq_33 (And.intro @AOp.map.eq_34 @AOp.map.eq_35)) (And.intro (And.intro @AOp.map.eq_36 @AOp.map.eq_37) (And.intro @AOp.map.eq_38 @AOp.map.eq_39)))) (And.intro (And.intro (And.intro @AOp.map.eq_40 (And.intro @AOp.map.eq_41 @AOp.map.eq_42)) (And.intro (And.intro @AOp.map.eq_43 @AOp.map.eq_44) (And.intro @AOp.map.eq_45 @AOp.map.eq_46))) (And.intro (And.intro @AOp.map.eq_47 (And.intro (And.intro @AOp.map.eq_48 (And.intro @AOp.map.eq_49 (And.intro @AOp.map.eq_50 (And.intro @AOp.map.eq_51 (And.intro @AOp.map.eq_52 (And.intro @AOp.map.eq_53 @AOp.map.eq_54)))))) (And.intro @List.take_nil.{0} @List.take_zero.{0}))) (And.intro (And.intro @List.take_succ_cons.{0} @List.drop_nil.{0}) (And.intro @List.drop_zero.{0} @List.drop_succ_cons.{0})))))))))
theorem cls0{X:Type}:(∀v,Aat (.mov v:AOp X)=0)∧(∀a b c,Aat (.pick a b c:AOp X)=0)∧(∀a b,Aat (.build a b:AOp X)=0)∧(∀v,Aat (.nilck v:AOp X)=0)∧(∀a b c,Aat (.bin a b c:AOp X)=0)∧(∀a b c d,Aat (.eqv a b c d:AOp X)=0)∧(∀a b,Aat (.un a b:AOp X)=0)∧(∀a b,Aat (.i2i a b:AOp X)=0)∧(∀v,Aat (.s2s v:AOp X)=0)∧(∀a b,Aat (.iface a b:AOp X)=0)∧(∀a b c,Aat (.mkfn a b c:AOp X)=0)∧(∀a b c,Aat (.slstr a b c:AOp X)=0)∧(∀a b,Aat (.faddr a b:AOp X)=0)∧(∀a b,Aat (.fld1 a b:AOp X)=0)∧(∀a b c,Aat (.fldn a b c:AOp X)=0)∧(∀a b c,Aat (.iaddr a b c:AOp X)=0)∧(∀a b,Aat (.idxs a b:AOp X)=0)∧(∀a b c d,Aat (.assert a b c d:AOp X)=0)∧(∀a b,Aat (.extract a b:AOp X)=0)∧(∀a b,Aat (.len a b:AOp X)=0)∧(∀a b c d,Aat (.iaddrp a b c d:AOp X)=0)∧(∀a b c d e,Aat (.idxa a b c d e:AOp X)=0)∧(∀a b c d e f,Aat (.slarr a b c d e f:AOp X)=0)∧(∀a b c d,Aat (.eqs a b c d:AOp X)=0)∧(∀a b c,Aat (.mm a b c:AOp X)=0)∧(∀a b c d e,Aat (.mm4 a b c d e:AOp X)=0)∧(∀v,Aat (.i2str v:AOp X)=0):=by
 repeat' (first|apply And.intro|(intros;rfl))
set_option linter.defProp false in
def P4:=And.intro @Aah (And.intro P3 (And.intro @Aak.eq_1 (And.intro @cls0 (And.intro @Aat.eq_1 (And.intro @Aat.eq_2 (And.intro @Aat.eq_3 (And.intro @Aat.eq_4 (And.intro @Aat.eq_5 (And.intro @Aat.eq_6 (And.intro @Aat.eq_7 (And.intro @Aat.eq_8 (And.intro @Aat.eq_9 (And.intro @Aat.eq_10 (And.intro @Aat.eq_11 (And.intro @Aat.eq_12 (And.intro @Aat.eq_13 (And.intro @Aat.eq_14 (And.intro @Aat.eq_15 (And.intro @Aat.eq_16 (And.intro @Aat.eq_17 (And.intro @Aat.eq_18 (And.intro @Aat.eq_19 (And.intro @Aat.eq_20 (And.intro @Aat.eq_21 (And.intro @Aat.eq_22 (And.intro @Aat.eq_23 (And.intro @Aat.eq_24 (And.intro @Aat.eq_25 (And.intro @Aat.eq_26 @Aat.eq_27)))))))))))))))))))))))))))))
end Go.AM

namespace Go.AM
structure Th where
 P:Aaa→Prop
 F:List Nat
 lt:∀H,P H→∀b∈F,b<H.n
 st:∀H H',P H→H.n≤H'.n→(∀b∈F,H'.get b=H.get b)→P H'
section
variable {P:Program} {ng:Nat} {H:Aaa} {KF:List Value→Aaa→Prop} {fr tm:List Value} {tr:List TE} {Q:AQ}
theorem Bhg{d:D}{r:List Aa5}{e esz bytes:Nat}{s x:Value}{n m:Nat}{c news:List Value}(h:AP H e esz s n c)(hx:∃a k,x=.slice a m k)(h1:Aa6 H esz x=some news)(hm:news.length=m*esz)
 (hs:(n+m)*bytes≤140737488355328∧n+m≤140737488355328)
 (hk:∀v' H',AP H' e esz v' (n+m) (c++news)→Chg (Ahm s) H H'→(blk v'=blk s∨blk v'=some H.n)→RW P ng r (d.frame v' fr) (d.temps v' tm) H' KF):goR P ng (Aam (.app e esz bytes s x) H) d r fr tm KF:=by
 rw[←Ayx];exact appR h hx h1 hm hs hk
theorem A1m{d:D}{r:List (Aa5×List Nat)}{e esz bytes:Nat}{s x:Value}{n m:Nat}{c news:List Value}(h:AP H e esz s n c)(hx:∃a k,x=.slice a m k)(h1:Aa6 H esz x=some news)(hm:news.length=m*esz)
 (hs:(n+m)*bytes≤140737488355328∧n+m≤140737488355328)
 (hk:∀v' H',AP H' e esz v' (n+m) (c++news)→Chg (Ahm s) H H'→(blk v'=blk s∨blk v'=some H.n)→RD P ng r (d.frame v' fr) (d.temps v' tm) H' (tr++[⟨3,[],H,H'⟩]) KF):goD P ng (.app e esz bytes s x) (Aam (.app e esz bytes s x) H) d [] r fr tm H tr KF:=by
 obtain⟨v',H',e1,e2,e3,e4⟩:=h.app (bytes:=bytes) hm hs
 obtain⟨a,k,rfl⟩:=hx
 exact⟨v',H',by simp only[Aam,h1];exact e1,trivial,hk v' H' e2 e3 e4⟩
theorem AP.chg1{H H':Aaa}{e esz:Nat}{v:Value}{n:Nat}{c:List Value}{b:Nat}(h:AP H e esz v n c)(k:Chg [b] H H')(hb:Go.AM.bn v≠b+1):AP H' e esz v n c:=
 h.chg k (by intro z hz e;simp at e;subst e;apply hb;unfold Go.AM.bn;rw[Abo.1 hz])
end
theorem Ach{H:Aaa}{own room:Bool}{esz e n:Nat}{c:List Value}{b:Nat}(hb:b=H.n)(h:c.length=n*esz):Aa6 (H.alloc (.cells own room esz c e)) esz (slc b 0 n n)=some c:=by
 subst hb;exact Ass (Aaa.Bp6 H _) h
def Ag6(esz:Nat):Nat→List Value→List (List Value)
 |0,_=>[]
 |n+1,c=>c.take esz::Ag6 esz n (c.drop esz)
theorem Ak6(esz:Nat):∀(n:Nat) (c:List Value),(Ag6 esz n c).length=n
 |0,_=>rfl
 |n+1,c=>by simp[Ag6,Ak6 esz n]
theorem Ajo(esz:Nat):∀(n:Nat) (c:List Value),(Ag6 esz n c).flatten=c.take (n*esz)
 |0,_=>by simp[Ag6]
 |n+1,c=>by
  rw[Ag6,List.flatten_cons,Ajo esz n,Nat.add_mul,Nat.one_mul,Nat.add_comm (n*esz) esz,List.take_add]
theorem Ahy(esz:Nat):∀(n:Nat) (c:List Value) (r:List Value),r∈Ag6 esz n c→∃i,i<n∧r=(c.drop (i*esz)).take esz
 |n+1,c,r,h=>by
  simp only[Ag6,List.mem_cons]at h
  rcases h with rfl|h
  ·exact⟨0,by omega,by simp⟩
  ·obtain⟨i,hi,rfl⟩:=Ahy esz n _ r h
   exact⟨i+1,by omega,by rw[List.drop_drop,Nat.add_mul,Nat.one_mul,Nat.add_comm]⟩
theorem AR.rows{P:Program}{t e esz:Nat}{H:Aaa}{v:Value}(hu:P.underlying t=some (.slice e))(hz:P.cellsOf e=esz)(h:AR P H.get t [v]):∃rows,Sl H esz v rows∧∀r∈rows,AR P H.get e r:=by
 subst hz
 rcases h.slice_inv hu with h2|⟨x,hx,h2⟩|⟨b,n,k,c,u,h2,h3,h4,h5,h6,h7,h8⟩
 ·cases h2;exact⟨[],Sl.nil _ _,by simp⟩
 ·cases h2
  refine⟨[],⟨⟨_,_,rfl⟩,by simp,?_⟩,by simp⟩
  obtain⟨b,o,s⟩:=x
  cases s with
  |none=>simp at hx
  |some s=>simp[Aa6]
 ·cases h2
  have hnk:n*P.cellsOf e≤c.length:=by rw[h7];exact Nat.mul_le_mul_right _ h4
  refine⟨Ag6 (P.cellsOf e) n c,⟨⟨_,k,by rw[Ak6];rfl⟩,?_,?_⟩,?_⟩
  ·intro r hr
   obtain⟨i,hi,rfl⟩:=Ahy _ _ _ _ hr
   have:(i+1)*P.cellsOf e≤n*P.cellsOf e:=Nat.mul_le_mul_right _ hi
   rw[Nat.add_mul,Nat.one_mul]at this
   rw[List.length_take,List.length_drop];omega
  ·rw[Ajo]
   simp only[Aa6,slc,h6]
   rw[if_pos (by omega),List.drop_zero]
  ·intro r hr
   obtain⟨i,hi,rfl⟩:=Ahy _ _ _ _ hr
   exact h8 i (by omega)
theorem Aci{α β:Type}{f:β→α}{Q:β→Prop}:∀{l:List α},(∀x∈l,∃y,x=f y∧Q y)→∃m:List β,l=m.map f∧∀y∈m,Q y
 |[],_=>⟨[],rfl,by simp⟩
 |x::l,h=>by
  obtain⟨y,rfl,hy⟩:=h x (by simp)
  obtain⟨m,rfl,hm⟩:=Aci (l:=l) (fun z hz=>h z (by simp[hz]))
  exact⟨y::m,rfl,by intro z hz;rcases List.mem_cons.1 hz with rfl|hz;exact hy;exact hm z hz⟩
end Go.AM

namespace Go.AM
def via(ρ:Nat→Option Nat)(σ:Sg):Sg:=fun b=>(ρ b).bind σ
theorem Akz{ρ:Nat→Option Nat}{σ:Sg}{b c:Nat}{i:BI}(h:ρ b=some c)(k:σ c=some i):via ρ σ b=some i:=by
 unfold via;rw[h];exact k
theorem An1{ρ:Nat→Option Nat}{σ:Sg}{b:Nat}{i:BI}(h:via ρ σ b=some i):∃c,ρ b=some c∧σ c=some i:=by
 unfold via at h
 cases hb:ρ b with
 |none=>rw[hb]at h;cases h
 |some c=>rw[hb]at h;exact⟨c,rfl,h⟩
inductive NV (ρ:Nat→Option Nat):Value→Value→Prop
 |bool (b:Bool):NV ρ (.bool b) (.bool b)
 |int (k:IntKind) (n:Int):NV ρ (.int k n) (.int k n)
 |string (s:ByteArray):NV ρ (.string s) (.string s)
 |nilPtr:NV ρ (.pointer none) (.pointer none)
 |ptr {b c o:Nat} (h:ρ b=some c):NV ρ (.pointer (some ⟨b,o,none⟩)) (.pointer (some ⟨c,o,none⟩))
 |nilSl:NV ρ (.slice none 0 0) (.slice none 0 0)
 |sl {b c o n k:Nat} (h:ρ b=some c):NV ρ (.slice (some ⟨b,o,none⟩) n k) (.slice (some ⟨c,o,none⟩) n k)
 |slz {x:Addr} (hx:x.spot.isSome=true):NV ρ (.slice (some x) 0 0) (.slice (some x) 0 0)
 |nilMap:NV ρ (.map none) (.map none)
 |map {b c:Nat} (h:ρ b=some c):NV ρ (.map (some b)) (.map (some c))
 |func (fn:Fn) (xs xs' ys ys':Array Value) (h1:xs.size=xs'.size) (h2:∀i (a:i<xs.size) (b:i<xs'.size),NV ρ xs[i] xs'[i])
  (h3:ys.size=ys'.size) (h4:∀i (a:i<ys.size) (b:i<ys'.size),NV ρ ys[i] ys'[i]):NV ρ (.func fn xs ys) (.func fn xs' ys')
 |nilFunc:NV ρ .nilFunc .nilFunc
 |iface (t:TypeId) {v v':Value} (h:NV ρ v v'):NV ρ (.iface t v) (.iface t v')
 |nilIface:NV ρ .nilIface .nilIface
 |agg (xs xs':Array Value) (h1:xs.size=xs'.size) (h2:∀i (a:i<xs.size) (b:i<xs'.size),NV ρ xs[i] xs'[i]):NV ρ (.agg xs) (.agg xs')
 |tuple (xs xs':Array Value) (h1:xs.size=xs'.size) (h2:∀i (a:i<xs.size) (b:i<xs'.size),NV ρ xs[i] xs'[i]):NV ρ (.tuple xs) (.tuple xs')
inductive NL (ρ:Nat→Option Nat):List Value→List Value→Prop
 |nil:NL ρ [] []
 |cons {v v':Value} {l l':List Value} (h:NV ρ v v') (t:NL ρ l l'):NL ρ (v::l) (v'::l')
theorem NV.via{ρ:Nat→Option Nat}{σ:Sg}{a b:Value}(h:NV ρ a b):∀{c:Value},VR σ b c→VR (AM.via ρ σ) a c:=by
 induction h with
 |bool b=>intro c k;cases k;exact .bool _
 |int k n=>intro c k;cases k;exact .int _ _
 |string s=>intro c k;cases k;exact .string _
 |nilPtr=>intro c k;cases k;exact .nilPtr
 |ptr e=>intro c k;cases k with|ptr e2=>exact .ptr (Akz e e2)
 |nilSl=>intro c k;cases k;exact .nilSl
 |sl e=>
  intro c k
  cases k with
  |sl e2 hn2 hk2=>exact .sl (Akz e e2) hn2 hk2
  |sl0 e2=>exact .sl0 (Akz e e2)
  |slz hx=>simp at hx
 |slz hx=>
  intro c k
  cases k with
  |sl e2 hn2 hk2=>simp at hx
  |sl0 e2=>exact .slz hx
  |slz _=>exact .slz hx
 |nilMap=>intro c k;cases k;exact .nilMap
 |map e=>intro c k;cases k with|map e2=>exact .map (Akz e e2)
 |func fn xs xs' ys ys' h1 _ h3 _ i2 i4=>
  intro c k
  cases k with
  |func _ _ zs _ us g1 g2 g3 g4=>exact .func fn xs zs ys us (by omega) (fun i a b=>i2 i a (by omega) (g2 i (by omega) b)) (by omega) (fun i a b=>i4 i a (by omega) (g4 i (by omega) b))
 |nilFunc=>intro c k;cases k;exact .nilFunc
 |iface t _ ih=>intro c k;cases k with|iface _ k=>exact .iface t (ih k)
 |nilIface=>intro c k;cases k;exact .nilIface
 |agg xs xs' h1 _ ih=>
  intro c k
  cases k with
  |agg _ zs g1 g2=>exact .agg xs zs (by omega) (fun i a b=>ih i a (by omega) (g2 i (by omega) b))
 |tuple xs xs' h1 _ ih=>
  intro c k
  cases k with
  |tuple _ zs g1 g2=>exact .tuple xs zs (by omega) (fun i a b=>ih i a (by omega) (g2 i (by omega) b))
theorem NL.via{ρ:Nat→Option Nat}{σ:Sg}{a b:List Value}(h:NL ρ a b):∀{c:List Value},VL σ b c→VL (AM.via ρ σ) a c:=by
 induction h with
 |nil=>intro c k;cases k;exact .nil
 |cons h _ ih=>intro c k;cases k with|cons k1 k2=>exact .cons (h.via k1) (ih k2)
theorem NL.length{ρ:Nat→Option Nat}{a b:List Value}(h:NL ρ a b):a.length=b.length:=by
 induction h with
 |nil=>rfl
 |cons _ _ ih=>simp[ih]
theorem NL.one{ρ:Nat→Option Nat}{a b:List Value}(h:NL ρ a b)(hb:∀v∈b,v.oneCell'=true):∀v∈a,v.oneCell'=true:=by
 induction h with
 |nil=>simp
 |cons h _ ih=>
  intro v hv
  rcases List.mem_cons.1 hv with rfl|hv
  ·have:=hb _ (List.mem_cons_self ..)
   cases h<;>first|exact this|rfl
  ·exact ih (fun v hv=>hb v (List.mem_cons_of_mem _ hv)) v hv
def AOr(ρ:Nat→Option Nat)(a b:AO):Prop:=match a with
 | .dead=>True
 | .cells own room esz c e=>∃own' c',b=.cells own' room esz c' e∧(own=true→own'=true)∧NL ρ c c'
 | .obj own o=>∃own',b=.obj own' o∧(own=true→own'=true)
 | .loop .. =>False
theorem AOr.own{ρ:Nat→Option Nat}{a b:AO}(h:AOr ρ a b)(ha:a.own=true):b.own=true:=by
 cases a with
 |dead=>cases ha
 |cells own room esz c e=>obtain⟨own',c',rfl,h1,_⟩:=h;exact h1 ha
 |obj own o=>obtain⟨own',rfl,h1⟩:=h;exact h1 ha
 |loop own st pe L=>exact h.elim
theorem AOr.live{ρ:Nat→Option Nat}{a b:AO}(h:AOr ρ a b)(ha:a.live=true):b.live=true:=by
 cases a with
 |dead=>cases ha
 |cells own room esz c e=>obtain⟨own',c',rfl,h1,_⟩:=h;rfl
 |obj own o=>obtain⟨own',rfl,h1⟩:=h;rfl
 |loop own st pe L=>exact h.elim
theorem AOr.or{ρ:Nat→Option Nat}{a b:AO}(h:AOr ρ a b){σ:Sg}{w:World}{i:BI}(k:OR σ w i b):OR (AM.via ρ σ) w i a:=by
 cases a with
 |dead=>trivial
 |cells own room esz c e=>
  obtain⟨own',c',rfl,h1,h2⟩:=h
  obtain⟨a1,a2,a3,a4,a9,d,fr,a5,a6,a7,a8⟩:=k
  have hl:=h2.length
  exact⟨by rw[hl];exact a1,a2,a3,by rw[hl];exact a4,h2.one a9,d,fr,a5,a6,by rw[hl];exact h2.via a7,fun ho=>by rw[hl];exact a8 (h1 ho)⟩
 |obj own o=>obtain⟨own',rfl,h1⟩:=h;exact k
 |loop own st pe L=>exact h.elim
variable {P:Program} {ng:Nat} {f:FuncId} {args:List Value} {H H' H'':Aaa} {v v'':Value}
def A1e(ng:Nat)(args:List Value)(H:Aaa)(v:Value):Prop:=∀(σ:Sg) (w:World) (args':List Value),HR ng σ H.get w→VL σ args args'→∃x,VR σ v x
theorem Aau.gc(h:Aau P ng f args H v H')(ρ:Nat→Option Nat)(hn:H.n≤H''.n)
 (r0:∀b,b<H.n→ρ b=some b) (r1:∀b c,ρ b=some c→b<H''.n∧(H.n≤b→H.n≤c)) (ri:∀b1 b2 c,ρ b1=some c→ρ b2=some c→b1=b2)
 (ro:∀b c o',ρ b=some c→H'.get c=some o'→(b=c∧b<H.n∧H.get b=some o'∧H''.get b=some o')∨∃o'',H''.get b=some o''∧AOr ρ o'' o')
 (rv:(v''=v∧A1e ng args H v)∨NV ρ v'' v):Aau P ng f args H v'' H'':=by
 obtain⟨h0,h1,h2⟩:=h
 refine⟨h0,hn,fun σ w args' hr ha=>?_⟩
 refine(h2 σ w args' hr ha).mono ?_
 rintro e w' ⟨v',σ',rfl,k1,k2,k3⟩
 have old:∀b i,σ b=some i→b<H.n:=fun b i hb=>by
  obtain⟨o,g,_⟩:=hr.obj b i hb
  exact Aaa.Bp9 g
 have sub:σ.le (AM.via ρ σ'):=fun b i hb=>Akz (r0 b (old b i hb)) (k2.sub b i hb)
 have back:∀b i,b<H.n→σ' b=some i→σ b=some i:=fun b i hb hs=>by
  cases hsb:σ b with
  |none=>have:=(k2.new b i hsb hs).1.1;omega
  |some j=>have:=k2.sub b j hsb;rw[hs]at this;exact this.symm
 have meet_le:(meet σ' σ).le (AM.via ρ σ'):=fun b i hb=>by
  unfold meet at hb
  split at hb
  ·rename_i hs
   obtain⟨j,hj⟩:=Option.isSome_iff_exists.1 hs
   exact Akz (r0 b (old b j hj)) hb
  ·cases hb
 have obj:∀b i,AM.via ρ σ' b=some i→∃c o'' o',ρ b=some c∧σ' c=some i∧H''.get b=some o''∧H'.get c=some o'∧OR (AM.via ρ σ') w' i o''∧(o''.own=true→o'.own=true)∧(o''.live=true→o'.live=true):=by
  intro b i hb
  obtain⟨c,hc,hs⟩:=An1 hb
  obtain⟨o',g1,g2⟩:=k1.obj c i hs
  rcases ro b c o' hc g1 with⟨rfl,hlt,e1,e2⟩|⟨o'',e1,e2⟩
  ·refine⟨b,o',o',hc,hs,e2,g1,?_,fun x=>x,fun x=>x⟩
   have hsb:=back b i hlt hs
   obtain⟨o2,f1,f2⟩:=hr.obj b i hsb
   rw[e1]at f1;cases f1
   exact(g2.meet f2).mono meet_le
  ·exact⟨c,o'',o',hc,hs,e1,g1,e2.or g2,e2.own,e2.live⟩
 refine⟨v',AM.via ρ σ',rfl,⟨?_,?_,?_,?_⟩,⟨sub,?_,?_,?_,k2.keep,k2.size,hn,k2.os,k2.tape,k2.output⟩,?_⟩
 ·intro b i hb
  obtain⟨c,o'',o',_,_,e1,_,e2,_⟩:=obj b i hb
  exact⟨o'',e1,e2⟩
 ·intro b1 b2 i1 i2 o1 o2 hne hb1 hb2 ho1 ho2 hw hl
  obtain⟨c1,p1,q1,a1,a2,a3,a4,_,a5,_⟩:=obj b1 i1 hb1
  obtain⟨c2,p2,q2,d1,d2,d3,d4,_,_,d6⟩:=obj b2 i2 hb2
  rw[ho1]at a3;cases a3
  rw[ho2]at d3;cases d3
  exact k1.inj c1 c2 i1 i2 q1 q2 (fun hc=>by subst hc;exact hne (ri b1 b2 c1 a1 d1)) a2 d2 a4 d4 (a5 hw) (d6 hl)
 ·intro b i hb
  obtain⟨c,_,hs⟩:=An1 hb
  exact k1.lt c i hs
 ·intro g hg
  obtain⟨i,g1,g2,g3⟩:=hr.glob g hg
  exact⟨i,sub g i g1,g2,g3⟩
 ·intro b i hb hs
  obtain⟨c,hc,hs'⟩:=An1 hs
  by_cases hlt:b<H.n
  ·have:=r0 b hlt
   rw[hc]at this;cases this
   rw[back b i hlt hs']at hb;cases hb
  ·have hcn:=(r1 b c hc).2 (by omega)
   have hsc:σ c=none:=by
    cases hsc:σ c with
    |none=>rfl
    |some j=>have:=old c j hsc;omega
   exact⟨⟨by omega,(r1 b c hc).1⟩,(k2.new c i hsc hs').2⟩
 ·intro b i o'' hb ho hw
  obtain⟨c,p1,q1,a1,a2,a3,a4,_,a5,_⟩:=obj b i (sub b i hb)
  rw[r0 b (old b i hb)]at a1;cases a1
  rw[ho]at a3;cases a3
  exact k2.own b i q1 hb a4 (a5 hw)
 ·intro b i o'' hb ho hw
  obtain⟨c,p1,q1,a1,a2,a3,a4,_,_,a6⟩:=obj b i (sub b i hb)
  rw[r0 b (old b i hb)]at a1;cases a1
  rw[ho]at a3;cases a3
  exact k2.live b i q1 hb a4 (a6 hw)
 ·rcases rv with⟨rfl,hst⟩|hrv
  ·obtain⟨x,hx⟩:=hst σ w args' hr ha
   exact(k3.meet hx).mono meet_le
  ·exact hrv.via k3
theorem NV.plain{ρ:Nat→Option Nat}{v:Value}(h:Acf v=true):NV ρ v v:=by
 unfold Acf at h
 split at h<;>first|constructor|cases h
theorem NL.plain{ρ:Nat→Option Nat}:∀{l:List Value},l.all Acf=true→NL ρ l l
 |[],_=>.nil
 |v::l,h=>by
  simp only[List.all_cons,Bool.and_eq_true]at h
  exact .cons (NV.plain h.1) (NL.plain h.2)
theorem NL.get{ρ:Nat→Option Nat}{l l':List Value}(h:NL ρ l l'):∀(i:Nat) (a:i<l.length) (b:i<l'.length),NV ρ l[i] l'[i]:=by
 induction h with
 |nil=>intro i a;simp at a
 |cons h _ ih=>
  intro i a b
  cases i with
  |zero=>exact h
  |succ i=>exact ih i (by simpa using a) (by simpa using b)
theorem NV.agg_of{ρ:Nat→Option Nat}{l l':List Value}(h:NL ρ l l'):NV ρ (.agg l.toArray) (.agg l'.toArray):=
 .agg _ _ (by simpa using h.length) (fun i a b=>by simpa using h.get i (by simpa using a) (by simpa using b))
theorem NV.tuple_of{ρ:Nat→Option Nat}{l l':List Value}(h:NL ρ l l'):NV ρ (.tuple l.toArray) (.tuple l'.toArray):=
 .tuple _ _ (by simpa using h.length) (fun i a b=>by simpa using h.get i (by simpa using a) (by simpa using b))
def rho(n:Nat)(bs:List Nat):Nat→Option Nat:=fun b=>if b<n then some b else bs[b-n]?
theorem Ar1{n:Nat}{bs:List Nat}{b:Nat}(h:b<n):rho n bs b=some b:=by unfold rho;rw[if_pos h]
theorem Aau.gc0(h:Aau P ng f args H v H')(k:Aac H H')(hv:A1e ng args H v∨NV (rho H.n []) v v):Aau P ng f args H v H:=by
 refine h.gc (rho H.n []) (Nat.le_refl _) (fun b hb=>Ar1 hb) ?_ ?_ ?_ ?_
 ·intro b c hb
  unfold rho at hb
  split at hb
  ·cases hb;exact⟨by assumption,by omega⟩
  ·simp at hb
 ·intro b1 b2 c h1 h2
  unfold rho at h1 h2
  split at h1<;>split at h2<;>simp_all
 ·intro b c o' hb ho
  unfold rho at hb
  split at hb
  ·rename_i hlt
   cases hb
   have:=k.get b hlt
   rw[ho]at this
   exact .inl ⟨rfl,hlt,this.symm,this.symm⟩
  ·simp at hb
 ·rcases hv with hv|hv
  ·exact .inl ⟨rfl,hv⟩
  ·exact .inr hv
section
variable {KF:List Value→Aaa→Prop} {fr tm:List Value} {tr:List TE} {K:Aaa}
end
theorem gcb{P:Program}{ng:Nat}{f:FuncId}{xs:List Value}{H:Aaa}{b:Bool}(h:∃w H',Aau P ng f xs H w H'∧w=.bool b∧Aac H H'):∃w H',Aau P ng f xs H w H'∧w=.bool b∧H'=H:=by
 obtain⟨_,_,a,rfl,k⟩:=h
 exact⟨_,_,a.gc0 k (.inr (.bool _)),rfl,rfl⟩
end Go.AM

namespace Go.AM
def WR(H:Aaa)(e esz:Nat)(v:Value)(n:Nat)(c:List Value):Prop:=
 (v=.slice none 0 0∧n=0∧c=[])∨∃b k room d,v=slc b 0 n k∧n≤k∧d.length=k*esz∧d.take (n*esz)=c∧H.get b=some (.cells true room esz d e)
section
variable {H H':Aaa} {e esz:Nat} {v:Value} {n:Nat} {c:List Value}
theorem AP.wr(h:AP H e esz v n c):WR H e esz v n c:=by
 rcases h with h|⟨b,room,rfl,h1,h2⟩
 ·exact .inl h
 ·exact .inr ⟨b,n,room,c,rfl,Nat.le_refl _,h1,by rw[←h1,List.take_length],h2⟩
theorem WR.elems(h:WR H e esz v n c):Aa6 H esz v=some c:=by
 rcases h with⟨rfl,rfl,rfl⟩|⟨b,k,room,d,rfl,h1,h2,rfl,h4⟩
 ·rfl
 ·have:=Nat.mul_le_mul_right esz h1
  simp only[Aa6,slc,h4]
  rw[if_pos (by omega),List.drop_zero]
theorem WR.shape(h:WR H e esz v n c):∃a k,v=.slice a n k:=by
 rcases h with⟨rfl,rfl,rfl⟩|⟨b,k,room,d,rfl,h1,h2,h3,h4⟩
 ·exact⟨_,_,rfl⟩
 ·exact⟨_,_,rfl⟩
theorem WR.is(h:WR H e esz v n c):isS v=true:=by obtain⟨a,k,rfl⟩:=h.shape;rfl
theorem WR.lt(h:WR H e esz v n c){b:Nat}(hb:blk v=some b):b<H.n:=by
 rcases h with⟨rfl,rfl,rfl⟩|⟨b',k,room,d,rfl,h1,h2,h3,h4⟩
 ·cases hb
 ·cases hb;exact Aaa.Bp9 h4
theorem WR.chg{S:List Nat}(h:WR H e esz v n c)(k:Chg S H H')(hS:∀x∈Ahm v,x∉S):WR H' e esz v n c:=by
 rcases h with h|⟨b,m,room,d,rfl,h1,h2,h3,h4⟩
 ·exact .inl h
 ·exact .inr ⟨b,m,room,d,rfl,h1,h2,h3,k.at_ h4 (hS b (Abo.2 rfl))⟩
theorem WR.keeps(h:WR H e esz v n c)(k:Aac H H'):WR H' e esz v n c:=h.chg (k.chg []) (by simp)
theorem WR.sl{rows:List (List Value)}(h:WR H e esz v n rows.flatten)(hr:∀r∈rows,r.length=esz)(hn:n=rows.length):Sl H esz v rows:=by
 obtain⟨a,k,rfl⟩:=h.shape
 exact⟨⟨a,k,by rw[hn]⟩,hr,h.elems⟩
theorem WR.app{bytes m:Nat}{news:List Value}(h:WR H e esz v n c)(hm:news.length=m*esz)(hs:(n+m)*bytes≤140737488355328∧n+m≤140737488355328):
 ∃v' H',Alm H e esz bytes v m news=some (v',H')∧WR H' e esz v' (n+m) (c++news)∧Chg (Ahm v) H H'∧(blk v'=blk v∨blk v'=some H.n):=by
 rcases h with⟨rfl,rfl,rfl⟩|⟨b,k,room,d,rfl,h1,h2,h3,h4⟩
 ·obtain⟨v',H',a,b,d⟩:=AP.app (H:=H) (e:=e) (esz:=esz) (v:=.slice none 0 0) (n:=0) (c:=[]) (.inl ⟨rfl,rfl,rfl⟩) hm hs
  exact⟨v',H',a,b.wr,d⟩
 ·simp only[Alm,slc]
  by_cases hm0:m=0
  ·subst hm0
   have:news=[]:=by rw[←List.length_eq_zero_iff];omega
   subst this
   rw[if_pos rfl]
   exact⟨_,_,rfl,.inr ⟨b,k,room,d,rfl,h1,h2,by simpa using h3,h4⟩,Chg.refl _ _,.inl rfl⟩
  ·have hle:=Nat.mul_le_mul_right esz h1
   have hc:c.length=n*esz:=by rw[←h3,List.length_take,h2];omega
   have hnm:(n+m)*esz=n*esz+m*esz:=Nat.add_mul _ _ _
   rw[if_neg hm0,if_pos hs]
   simp only[h4,true_and]
   rw[if_pos (show 0+k*esz≤d.length by omega)]
   by_cases hk:n+m≤k
   ·have hle2:=Nat.mul_le_mul_right esz hk
    rw[if_pos hk]
    simp only[if_true]
    refine⟨_,_,rfl,.inr ⟨b,k,room,_,rfl,hk,?_,?_,Aaa.Bp7 h4 _⟩,Chg.set H (Aaa.Bp9 h4) _,.inl rfl⟩
    ·rw[List.length_append,List.length_append,List.length_take,List.length_drop,hm];omega
    ·rw[Nat.zero_add,h3,List.take_append_of_le_length (by rw[List.length_append,hc,hm];omega),List.take_of_length_le (by rw[List.length_append,hc,hm];omega)]
   ·rw[if_neg hk,List.drop_zero,h3]
    have hlen:(c++news).length=(n+m)*esz:=by rw[List.length_append,hc,hm,Nat.add_mul]
    split
    ·exact⟨_,_,rfl,.inr ⟨H.n,n+m,true,_,rfl,Nat.le_refl _,hlen,by rw[←hlen,List.take_length],Aaa.Bp6 H _⟩,(Chg.refl _ _).alloc _,.inr rfl⟩
    ·exact⟨_,_,rfl,.inr ⟨H.n,n+m,true,_,rfl,Nat.le_refl _,hlen,by rw[←hlen,List.take_length],Aaa.Bp6 (H.set b .dead) _⟩,(Chg.set H (Aaa.Bp9 h4) _).alloc _,.inr rfl⟩
end
section
variable {P:Program} {ng:Nat} {H:Aaa} {KF:List Value→Aaa→Prop} {fr tm:List Value} {tr:List TE} {e esz:Nat} {v:Value} {n:Nat} {c:List Value}
theorem WR.appR{d:D}{r:List Aa5}{bytes:Nat}{x:Value}{m:Nat}{news:List Value}(h:WR H e esz v n c)(hx:∃a k,x=.slice a m k)(h1:Aa6 H esz x=some news)(hm:news.length=m*esz)
 (hs:(n+m)*bytes≤140737488355328∧n+m≤140737488355328)
 (hk:∀v' H',WR H' e esz v' (n+m) (c++news)→Chg (Ahm v) H H'→(blk v'=blk v∨blk v'=some H.n)→RW P ng r (d.frame v' fr) (d.temps v' tm) H' KF):goR P ng (Aam (.app e esz bytes v x) H) d r fr tm KF:=by
 obtain⟨v',H',e1,e2,e3,e4⟩:=h.app (bytes:=bytes) hm hs
 obtain⟨a,k,rfl⟩:=hx
 refine⟨v',H',?_,hk v' H' e2 e3 e4⟩
 simp only[Aam,h1];exact e1
end
end Go.AM

namespace Go.AM
def Ae5:Nat→Abw→Abw
 |0,_=>.skip
 |1,.seq a _=>a
 |n+2,.seq a b=>.seq a (Ae5 (n+1) b)
 |_+1,c=>c
def Ab5:Nat→Abw→Abw
 |0,c=>c
 |n+1,.seq _ b=>Ab5 n b
 |_+1,_=>.skip
def cok:Nat→Abw→Bool
 |0,_=>false
 |1,.seq _ _=>true
 |n+2,.seq _ b=>cok (n+1) b
 |_+1,_=>false
variable {P:Program} {ng:Nat} {H:Aaa} {Q:AQ} {fr:List Value}
theorem Avx(Q:AQ)(K K':List Value→Aaa→Prop):(Q.andThen K).andThen K'=Q.andThen K':=by
 funext e fr H
 cases e<;>rfl
theorem Bm9:∀(n:Nat) (c:Abw) (Q:AQ) (fr:List Value) (H:Aaa),cok n c=true→W P ng c Q fr H=W P ng (Ae5 n c) (Q.andThen (W P ng (Ab5 n c) Q)) fr H
 |0,c,Q,fr,H,h=>by simp[cok]at h
 |1,c,Q,fr,H,h=>by
  cases c<;>simp[cok]at h
  rfl
 |n+2,c,Q,fr,H,h=>by
  cases c<;>simp[cok]at h
  rename_i a b
  simp only[Ae5,Ab5,A7i]
  rw[Avx]
  congr 1
  funext e fr H
  cases e
  ·exact Bm9 (n+1) b Q fr H h
  all_goals rfl
theorem Acv{c:Abw}(n:Nat)(M:List Value→Aaa→Prop)(hok:cok n c=true)
 (h1:∀Q':AQ,(∀fr H,M fr H→Q' .normal fr H)→(∀i fr H,Q (.exit i) fr H→Q' (.exit i) fr H)→(∀fr H,Q .ret fr H→Q' .ret fr H)→W P ng (Ae5 n c) Q' fr H)
 (h2:∀fr H,M fr H→W P ng (Ab5 n c) Q fr H):W P ng c Q fr H:=by
 rw[Bm9 n c Q fr H hok]
 exact h1 _ (fun fr H h=>h2 fr H h) (fun _ _ _ h=>h) (fun _ _ h=>h)
end Go.AM

namespace Go.AM
section
variable {P:Program} {ng:Nat} {H:Aaa} {Q:AQ} {fr tm:List Value}
theorem Apj(l:List UInt8):(⟨l.toArray⟩:ByteArray).size=l.length:=by simp[ByteArray.size]
theorem Abu(b:Nat)(xs:List Value)(d:D)(r:List Aa5)(KF:List Value→Aaa→Prop):stR P ng (.callv (.chan (some b)) xs) d r fr tm H KF=∃v H',Ae1 P ng b xs H v H'∧RW P ng r (d.frame v fr) (d.temps v tm) H' KF:=_root_.id rfl
theorem Ae3{b:Nat}{xs:List Value}{R K:Value→Aaa→Prop}(h:∃v H',Ae1 P ng b xs H v H'∧R v H')(k:∀v H',R v H'→K v H'):∃v H',Ae1 P ng b xs H v H'∧K v H':=by
 obtain⟨v,H',h1,h2⟩:=h;exact⟨v,H',h1,k v H' h2⟩
end
end Go.AM

namespace Go.AM.Fd
open Nat (reduceAdd reduceEqDiff reduceLT reduceLeDiff reduceMul reduceSub)
open Go.Proofs Go.AM.F
def Anu(l:List UInt8)(p:Nat):Nat×Nat:=Utf8.decode ⟨l.toArray⟩ p
theorem Ai5{l:List UInt8}{p:Nat}:1≤(Anu l p).2 :=by
 unfold Anu Utf8.decode
 repeat' split
 all_goals (first|omega|(simp only[];repeat' split))
 all_goals first|omega|(dsimp only[];repeat' split)
 all_goals omega
def A5q(l:List UInt8):Nat→Nat→List (Nat×Int)
 |0,_=>[]
 |k+1,p=>if p<l.length then(p,((Anu l p).1 :Int))::A5q l k (p+(Anu l p).2)else[]
theorem Ajv{l:List UInt8}:∀{k p:Nat},l.length-p≤k→A5q l k p=A5q l (l.length-p) p
 |0,p,h=>by rw[show l.length-p=0 by omega]
 |k+1,p,h=>by
  by_cases hp:p<l.length
  ·obtain⟨m,hm⟩:∃m,l.length-p=m+1:=⟨l.length-p-1,by omega⟩
   have h1:=Ai5 (l:=l) (p:=p)
   rw[hm]
   simp only[A5q,if_pos hp]
   rw[Ajv (k:=k) (by omega),Ajv (k:=m) (by omega)]
  ·rw[show l.length-p=0 by omega]
   simp[A5q,hp]
def Al9(l:List UInt8)(p:Nat):List (Nat×Int):=A5q l (l.length-p) p
theorem Anc{l:List UInt8}{p:Nat}(h:p<l.length):Al9 l p=(p,((Anu l p).1 :Int))::Al9 l (p+(Anu l p).2):=by
 obtain⟨m,hm⟩:∃m,l.length-p=m+1:=⟨l.length-p-1,by omega⟩
 have h1:=Ai5 (l:=l) (p:=p)
 unfold Al9
 rw[hm]
 simp only[A5q,if_pos h]
 rw[Ajv (k:=m) (by omega)]
theorem Apy{l:List UInt8}{p:Nat}(h:¬p<l.length):Al9 l p=[]:=by
 unfold Al9
 rw[show l.length-p=0 by omega]
 rfl
theorem A0a{H:Aaa}(l:List UInt8):Aam (.rng (.string ⟨l.toArray⟩)) H=some (ptr H.n 0,H.alloc (.obj true (.stringIter ⟨l.toArray⟩ 0))):=rfl
theorem Auj{H:Aaa}{b p:Nat}{l:List UInt8}(hg:H.get b=some (.obj true (.stringIter ⟨l.toArray⟩ p)))(h:p<l.length):
 Aam (.next (ptr b 0)) H=some (.tuple #[.bool true,.int .i64 (p:Int),.int .i32 ((Anu l p).1 :Int)],H.set b (.obj true (.stringIter ⟨l.toArray⟩ (p+(Anu l p).2)))):=by
 simp only[Aam,ptr,hg,Apj]
 rw[if_pos h]
 rfl
theorem Auk{H:Aaa}{b p:Nat}{l:List UInt8}(hg:H.get b=some (.obj true (.stringIter ⟨l.toArray⟩ p)))(h:¬p<l.length):Aam (.next (ptr b 0)) H=some (.tuple #[.bool false],H):=by
 simp only[Aam,ptr,hg,Apj]
 rw[if_neg h]
def sgn(r:Int):Bool:=decide (33≤r)&&(decide (r<127)||decide (160<r))&&r != 58&&r != 35&&r != 43&&r != 45&&r != 65533
theorem t110(H:Aaa)(r:Int):∃w H',Aau Tryz.prog 0 110 [.int .i32 r] H w H'∧w=.bool (sgn r)∧H'=H:=by
 refine Aaq A24 A89 ?_
 intro Q hq1 hq2
 by_cases h1:33≤r
 ·by_cases h2:r=58
  ·subst h2;simp(disch:=first|assumption|omega)only[Avm,P4,seval];exact hq2 _ _ ⟨_,rfl,rfl,rfl⟩
  by_cases h3:r=35
  ·subst h3;simp(disch:=first|assumption|omega)only[Avm,P4,seval];exact hq2 _ _ ⟨_,rfl,rfl,rfl⟩
  by_cases h4:r=43
  ·subst h4;simp(disch:=first|assumption|omega)only[Avm,P4,seval];exact hq2 _ _ ⟨_,rfl,rfl,rfl⟩
  by_cases h5:r=45
  ·subst h5;simp(disch:=first|assumption|omega)only[Avm,P4,seval];exact hq2 _ _ ⟨_,rfl,rfl,rfl⟩
  by_cases h6:r=65533
  ·subst h6;simp(disch:=first|assumption|omega)only[Avm,P4,seval];exact hq2 _ _ ⟨_,rfl,rfl,rfl⟩
  by_cases h7:r<127
  ·simp(disch:=first|assumption|omega)only[Avm,P4,seval]
   exact hq2 _ _ ⟨_,rfl,by simp[sgn,Afi,h1,h2,h3,h4,h5,h6,h7],rfl⟩
  ·by_cases h8:160<r
   ·simp(disch:=first|assumption|omega)only[Avm,P4,seval]
    exact hq2 _ _ ⟨_,rfl,by simp[sgn,Afi,h1,h2,h3,h4,h5,h6,h7,h8],rfl⟩
   ·simp(disch:=first|assumption|omega)only[Avm,P4,seval]
    exact hq2 _ _ ⟨_,rfl,by simp[sgn,Afi,h1,h2,h3,h4,h5,h6,h7,h8],rfl⟩
 ·simp(disch:=first|assumption|omega)only[Avm,P4,seval]
  exact hq2 _ _ ⟨_,rfl,by simp[sgn,Afi,h1],rfl⟩
theorem t122(H:Aaa)(r:Int):∃w H',Aau Tryz.prog 0 122 [.int .i32 r] H w H'∧w=.bool (sgn r)∧H'=H:=by
 refine Aaq A23 A87 ?_
 intro Q hq1 hq2
 by_cases h1:r<33
 ·simp(disch:=first|assumption|omega)only[Avl,P4,seval]
  exact hq2 _ _ ⟨_,rfl,by simp[sgn,Afi,show¬33≤r by omega],rfl⟩
 have h1':33≤r:=by omega
 by_cases h2:r=58
 ·subst h2;simp(disch:=first|assumption|omega)only[Avl,P4,seval];exact hq2 _ _ ⟨_,rfl,rfl,rfl⟩
 by_cases h3:r=35
 ·subst h3;simp(disch:=first|assumption|omega)only[Avl,P4,seval];exact hq2 _ _ ⟨_,rfl,rfl,rfl⟩
 by_cases h4:r=43
 ·subst h4;simp(disch:=first|assumption|omega)only[Avl,P4,seval];exact hq2 _ _ ⟨_,rfl,rfl,rfl⟩
 by_cases h5:r=45
 ·subst h5;simp(disch:=first|assumption|omega)only[Avl,P4,seval];exact hq2 _ _ ⟨_,rfl,rfl,rfl⟩
 by_cases h6:r=65533
 ·subst h6;simp(disch:=first|assumption|omega)only[Avl,P4,seval];exact hq2 _ _ ⟨_,rfl,rfl,rfl⟩
 by_cases h7:127≤r
 ·by_cases h8:r≤160
  ·simp(disch:=first|assumption|omega)only[Avl,P4,seval]
   exact hq2 _ _ ⟨_,rfl,by simp[sgn,Afi,h1',h2,h3,h4,h5,h6,show¬r<127 by omega,show¬160<r by omega],rfl⟩
  ·simp(disch:=first|assumption|omega)only[Avl,P4,seval]
   exact hq2 _ _ ⟨_,rfl,by simp[sgn,Afi,h1',h2,h3,h4,h5,h6,show¬r<127 by omega,show 160<r by omega],rfl⟩
 ·simp(disch:=first|assumption|omega)only[Avl,P4,seval]
  exact hq2 _ _ ⟨_,rfl,by simp[sgn,Afi,h1',h2,h3,h4,h5,h6,show r<127 by omega],rfl⟩
def Acz(l:List UInt8):Bool:=(Al9 l 0).all (fun x=>sgn x.2)&&decide (1≤(Al9 l 0).length)&&decide ((Al9 l 0).length≤16)
theorem t93(H:Aaa)(l:List UInt8)(hl:l.length≤9223372036854775807):∃w H',Aau Tryz.prog 0 93 [.string ⟨l.toArray⟩] H w H'∧w=.bool (Acz l)∧H'=H:=by
 suffices h:∃w H',Aau Tryz.prog 0 93 [.string ⟨l.toArray⟩] H w H'∧w=.bool (Acz l)∧Aac H H' by
  obtain⟨_,_,a,rfl,k⟩:=h
  exact⟨_,_,a.gc0 k (.inr (.bool _)),rfl,rfl⟩
 refine Aaq A86 Bi3 ?_
 intro Q hq1 hq2
 simp(disch:=first|assumption|omega)only[f93,P3,seval,Aak,Aat,A0a]
 rw[Aah]
 refine Aan (fun k fr K=>∃p n x1 x3 x5 x6 x7,fr=[.string ⟨l.toArray⟩,x1,.int .i64 ((n:Nat):Int),x3,ptr H.n 0,x5,x6,x7]∧K.get H.n=some (.obj true (.stringIter ⟨l.toArray⟩ p))∧Aac H K∧
  Acz l=((Al9 l p).all (fun x=>sgn x.2)&&decide (1≤n+(Al9 l p).length)&&decide (n+(Al9 l p).length≤16))∧n≤p∧k=l.length-p) l.length
  ⟨0,0,_,_,_,_,_,rfl,Aaa.Bp6 _ _,(Aac.refl H).alloc _,by simp[Acz],Nat.le_refl _,rfl⟩ ?_
 rintro Q' k fr K ⟨p,n,x1,x3,x5,x6,x7,rfl,hg,hk,hr,hnp,rfl⟩ hn hx hret
 by_cases hp:p<l.length
 ·have hstep:=Anc hp
  have hpos:=Ai5 (l:=l) (p:=p)
  simp(disch:=first|assumption|omega)only[P4,seval,Auj hg hp]
  refine Aag (t122 _ _) ?_
  rintro _ K2 ⟨rfl,rfl⟩
  cases hs:sgn ((Anu l p).1 :Int)with
  |false=>
   simp(disch:=first|assumption|omega)only[P4,seval]
   refine hret _ _ (hq2 _ _ ⟨_,rfl,?_,?_⟩)
   ·rw[hr,hstep];simp[hs];rfl
   ·exact hk.set (Nat.le_refl _) (Aaa.Bp9 hg) _
  |true=>
   have hw:IntKind.i64.wrap ((n:Int)+1)=((n+1:Nat):Int):=by rw[Aae (by omega) (by omega)];simp
   simp(disch:=first|assumption|omega)only[P4,seval,hw]
   refine hn _ _ _ ⟨p+(Anu l p).2,n+1,_,_,_,_,_,rfl,Aaa.Bp7 hg _,hk.set (Nat.le_refl _) (Aaa.Bp9 hg) _,?_,by omega,rfl⟩ (by omega)
   rw[hr,hstep]
   simp only[List.all_cons,hs,Bool.true_and,List.length_cons,show n+((Al9 l (p+(Anu l p).2)).length+1)=n+1+(Al9 l (p+(Anu l p).2)).length by omega]
 ·have hend:=Apy hp
  simp(disch:=first|assumption|omega)only[P4,seval,Auk hg hp]
  refine hx 0 _ _ ?_
  rw[hend]at hr
  simp only[List.all_nil,Bool.true_and,List.length_nil,Nat.add_zero]at hr
  by_cases h1:1≤n
  ·have h1':(1:Int)≤(n:Int):=by omega
   simp(disch:=first|assumption|omega)only[P4,seval]
   refine hq2 _ _ ⟨_,rfl,?_,hk⟩
   rw[hr]
   simp only[Afi,List.getD_cons_succ,List.getD_cons_zero,h1,decide_true,Bool.true_and]
   congr 1
   rw[decide_eq_decide];omega
  ·have h1':¬(1:Int)≤(n:Int):=by omega
   simp(disch:=first|assumption|omega)only[P4,seval]
   refine hq2 _ _ ⟨_,rfl,?_,hk⟩
   rw[hr]
   simp only[Afi,List.getD_cons_succ,List.getD_cons_zero,h1,decide_false,Bool.false_and]
theorem t79(H:Aaa)(l:List UInt8)(hl:l.length≤9223372036854775807):∃w H',Aau Tryz.prog 0 79 [.string ⟨l.toArray⟩] H w H'∧w=.bool (Acz l)∧H'=H:=by
 suffices h:∃w H',Aau Tryz.prog 0 79 [.string ⟨l.toArray⟩] H w H'∧w=.bool (Acz l)∧Aac H H' by
  obtain⟨_,_,a,rfl,k⟩:=h
  exact⟨_,_,a.gc0 k (.inr (.bool _)),rfl,rfl⟩
 refine Aaq A88 Bi4 ?_
 intro Q hq1 hq2
 simp(disch:=first|assumption|omega)only[f79,P3,seval,Aak,Aat,A0a]
 rw[Aah]
 refine Aan (fun k fr K=>∃p n x1 x3 x5 x6 x7,fr=[.string ⟨l.toArray⟩,x1,.int .i64 ((n:Nat):Int),x3,ptr H.n 0,x5,x6,x7]∧K.get H.n=some (.obj true (.stringIter ⟨l.toArray⟩ p))∧Aac H K∧
  Acz l=((Al9 l p).all (fun x=>sgn x.2)&&decide (1≤n+(Al9 l p).length)&&decide (n+(Al9 l p).length≤16))∧n≤p∧k=l.length-p) l.length
  ⟨0,0,_,_,_,_,_,rfl,Aaa.Bp6 _ _,(Aac.refl H).alloc _,by simp[Acz],Nat.le_refl _,rfl⟩ ?_
 rintro Q' k fr K ⟨p,n,x1,x3,x5,x6,x7,rfl,hg,hk,hr,hnp,rfl⟩ hn hx hret
 by_cases hp:p<l.length
 ·have hstep:=Anc hp
  have hpos:=Ai5 (l:=l) (p:=p)
  simp(disch:=first|assumption|omega)only[P4,seval,Auj hg hp]
  refine Aag (t110 _ _) ?_
  rintro _ K2 ⟨rfl,rfl⟩
  cases hs:sgn ((Anu l p).1 :Int)with
  |false=>
   simp(disch:=first|assumption|omega)only[P4,seval]
   refine hret _ _ (hq2 _ _ ⟨_,rfl,?_,?_⟩)
   ·rw[hr,hstep];simp[hs];rfl
   ·exact hk.set (Nat.le_refl _) (Aaa.Bp9 hg) _
  |true=>
   have hw:IntKind.i64.wrap ((n:Int)+1)=((n+1:Nat):Int):=by rw[Aae (by omega) (by omega)];simp
   simp(disch:=first|assumption|omega)only[P4,seval,hw]
   refine hn _ _ _ ⟨p+(Anu l p).2,n+1,_,_,_,_,_,rfl,Aaa.Bp7 hg _,hk.set (Nat.le_refl _) (Aaa.Bp9 hg) _,?_,by omega,rfl⟩ (by omega)
   rw[hr,hstep]
   simp only[List.all_cons,hs,Bool.true_and,List.length_cons,show n+((Al9 l (p+(Anu l p).2)).length+1)=n+1+(Al9 l (p+(Anu l p).2)).length by omega]
 ·have hend:=Apy hp
  simp(disch:=first|assumption|omega)only[P4,seval,Auk hg hp]
  refine hx 0 _ _ ?_
  rw[hend]at hr
  simp only[List.all_nil,Bool.true_and,List.length_nil,Nat.add_zero]at hr
  by_cases h1:1≤n
  ·have h1':(1:Int)≤(n:Int):=by omega
   simp(disch:=first|assumption|omega)only[P4,seval]
   refine hq2 _ _ ⟨_,rfl,?_,hk⟩
   rw[hr]
   simp only[Afi,List.getD_cons_succ,List.getD_cons_zero,h1,decide_true,Bool.true_and]
   congr 1
   rw[decide_eq_decide];omega
  ·have h1':¬(1:Int)≤(n:Int):=by omega
   simp(disch:=first|assumption|omega)only[P4,seval]
   refine hq2 _ _ ⟨_,rfl,?_,hk⟩
   rw[hr]
   simp only[Afi,List.getD_cons_succ,List.getD_cons_zero,h1,decide_false,Bool.false_and]
end Go.AM.Fd

namespace Go.AM.Fd
open Go.Proofs Go.AM.F
def Akv(t:List UInt8):List Value:=[.string ⟨t.toArray⟩]
def TL(H:Aaa)(v:Value)(ts:List (List UInt8)):Prop:=Sl H 1 v (ts.map Akv)
theorem TL.len{H:Aaa}{v:Value}{ts:List (List UInt8)}(h:TL H v ts):lenS v=ts.length:=by
 have:=Sl.len h;simpa using this
theorem TL.at_{H:Aaa}{v:Value}{ts:List (List UInt8)}(h:TL H v ts){i:Nat}(hi:i<ts.length):nnS v=true∧Afp H 1 v i=some (Akv (ts.getD i [])):=by
 have:=Sl.at_ h (by omega) (i:=i) (by simpa using hi)
 refine⟨this.1,?_⟩
 rw[this.2]
 simp[List.getD,List.getElem?_eq_getElem hi]
theorem TL.keeps{H K:Aaa}{v:Value}{ts:List (List UInt8)}(h:TL H v ts)(k:Aac H K):TL K v ts:=Sl.keeps h k
end Go.AM.Fd

namespace Go.AM
section
variable {P:Program} {ng:Nat} {H:Aaa} {Q:AQ} {fr tm:List Value} {KF:List Value→Aaa→Prop} {tr:List TE}
variable (d:D) (r:List Aa5) (un:List Nat) (rd:List (Aa5×List Nat))
theorem Ape:stR P ng (.mkmap) d r fr tm H KF=goR P ng (Aam .mkmap H) d r fr tm KF:=Abr d r (by simp) (by simp) (by simp)
theorem Afg(k:TypeDesc)(z:Value)(ok:Bool)(x y:Value):stR P ng (.mget k z ok x y) d r fr tm H KF=goR P ng (Aam (.mget k z ok x y) H) d r fr tm KF:=Abr d r (by simp) (by simp) (by simp)
theorem Asf(k:TypeDesc)(x y v:Value):stR P ng (.mset k x y v) d r fr tm H KF=goR P ng (Aam (.mset k x y v) H) d r fr tm KF:=Abr d r (by simp) (by simp) (by simp)
theorem Al0(e esz b:Nat)(z:List Value)(s x:Value):stR P ng (.appz e esz b z s x) d r fr tm H KF=goR P ng (Aam (.appz e esz b z s x) H) d r fr tm KF:=Abr d r (by simp) (by simp) (by simp)
theorem Apf(x:Value):stR P ng (.cap x) d r fr tm H KF=goR P ng (Aam (.cap x) H) d r fr tm KF:=Abr d r (by simp) (by simp) (by simp)
end
section
variable {H:Aaa}
theorem Asg:Aam .mkmap H=some (.map (some H.n),H.alloc (.obj true (.map #[] 0))):=_root_.id rfl
theorem Apg:Aam (.cap (.slice none 0 0)) H=some (.int .i64 0,H):=_root_.id rfl
end
theorem Ash(a:Option Nat):(Value.map a).cells.toList=[.map a]:=_root_.id rfl
structure Enc (d:TypeDesc) {κ:Type} [DecidableEq κ] (enc:κ→Value):Prop where
 same:∀a b,Instr.sameNow d (enc a) (enc b)=some (decide (a=b))
 key:∀a,A01 d (enc a)=true
theorem Ayn:Enc (.int .i64) (fun n:Int=>.int .i64 n):=⟨fun a b=>by
 show(if IntKind.i64=IntKind.i64 then some (a==b)else none)=_
 rw[if_pos rfl]
 by_cases h:a=b<;>simp[h],fun a=>rfl⟩
theorem A7d:Enc .string (fun l:List UInt8=>.string ⟨l.toArray⟩):=⟨fun a b=>by
 show some ((⟨a.toArray⟩:ByteArray)==⟨b.toArray⟩)=_
 have h:((⟨a.toArray⟩:ByteArray)==⟨b.toArray⟩)=true↔a=b:=by
  rw[MapKept.bytes_beq]
  constructor
  ·intro h;cases h;rfl
  ·rintro rfl;rfl
 by_cases e:a=b
 ·rw[h.2 e];simp[e]
 ·have:((⟨a.toArray⟩:ByteArray)==⟨b.toArray⟩)=false:=by
   cases hb:((⟨a.toArray⟩:ByteArray)==⟨b.toArray⟩)
   ·rfl
   ·exact absurd (h.1 hb) e
  rw[this];simp[e],fun a=>rfl⟩
section
variable {κ:Type} [DecidableEq κ] {enc:κ→Value} {d:TypeDesc} {H:Aaa}
def Ad7(k:κ):List (κ×Value)→Option Value
 |[]=>none
 |(a,v)::l=>if k=a then some v else Ad7 k l
def Aoa(k:κ)(x:Value):List (κ×Value)→List (κ×Value)
 |[]=>[(k,x)]
 |(a,v)::l=>if k=a then(k,x)::l else(a,v)::Aoa k x l
theorem Ak5(a k:κ)(x:Value):∀l:List (κ×Value),Ad7 a (Aoa k x l)=if a=k then some x else Ad7 a l
 |[]=>by simp[Aoa,Ad7]
 |(b,v)::l=>by
  simp only[Aoa]
  split
  ·rename_i h
   subst h
   simp only[Ad7]
   split<;>rfl
  ·rename_i h
   simp only[Ad7,Ak5 a k x l]
   split
   ·rename_i h2
    subst h2
    rw[if_neg (fun e=>h e.symm)]
   ·rfl
theorem Al1{k:κ}{x:Value}:∀{l:List (κ×Value)},Ad7 k l=none→Aoa k x l=l++[(k,x)]
 |[],_=>rfl
 |(a,v)::l,h=>by
  simp only[Ad7]at h
  split at h
  ·cases h
  ·rename_i hk
   simp only[Aoa,if_neg hk,Al1 h,List.cons_append]
theorem Aph{k:κ}{x:Value}{p:κ×Value}:∀{l:List (κ×Value)},p∈Aoa k x l→p∈l∨p=(k,x)
 |[],h=>by simp[Aoa]at h;exact .inr h
 |(a,v)::l,h=>by
  simp only[Aoa]at h
  split at h
  ·simp only[List.mem_cons]at h ⊢
   rcases h with rfl|h
   ·exact .inr rfl
   ·exact .inl (.inr h)
  ·simp only[List.mem_cons]at h ⊢
   rcases h with rfl|h
   ·exact .inl (.inl rfl)
   ·rcases Aph h with h|h
    ·exact .inl (.inr h)
    ·exact .inr h
def MP(enc:κ→Value)(H:Aaa)(b:Nat)(l:List (κ×Value)):Prop:=
 (∃es clock,H.get b=some (.obj true (.map es clock))∧es.toList.map (fun e=>(e.key,e.val))=l.map (fun p=>(enc p.1,p.2)))∧∀p∈l,Are p.2=true
omit [DecidableEq κ]in
theorem MP.lt{b:Nat}{l:List (κ×Value)}(h:MP enc H b l):b<H.n:=by
 obtain⟨⟨es,c,h1,_⟩,_⟩:=h;exact Aaa.Bp9 h1
omit [DecidableEq κ]in
theorem MP.get{H':Aaa}{b:Nat}{l:List (κ×Value)}(h:MP enc H b l)(e:H'.get b=H.get b):MP enc H' b l:=by
 obtain⟨⟨es,c,h1,h2⟩,h3⟩:=h;exact⟨⟨es,c,by rw[e];exact h1,h2⟩,h3⟩
omit [DecidableEq κ]in
theorem MP.new(H:Aaa):MP enc (H.alloc (.obj true (.map #[] 0))) H.n []:=⟨⟨#[],0,Aaa.Bp6 _ _,rfl⟩,by simp⟩
theorem Ajl(E:Enc d enc)(k:κ):∀(es:List MapEntry) (l:List (κ×Value)) (i:Nat),es.map (fun e=>(e.key,e.val))=l.map (fun p=>(enc p.1,p.2))→
 ∃r,Instr.findNow d (enc k) es i=some r∧r.map (·.2)=Ad7 k l∧∀j v,r=some (j,v)→i≤j∧∀x,((es.modify (j-i) fun e=>{e with key:=enc k,val:=x}).map (fun e=>(e.key,e.val)))=(Aoa k x l).map (fun p=>(enc p.1,p.2))
 |[],l,i,h=>by
  have:l=[]:=by cases l<;>simp_all
  subst this
  exact⟨none,rfl,rfl,fun j v h=>by cases h⟩
 |e::es,l,i,h=>by
  cases l with
  |nil=>simp at h
  |cons p l=>
   obtain⟨a,v⟩:=p
   simp only[List.map_cons,List.cons.injEq,Prod.mk.injEq]at h
   obtain⟨⟨h1,h2⟩,h3⟩:=h
   by_cases hk:k=a
   ·subst hk
    refine⟨some (i,e.val),?_,by simp[Ad7,h2],?_⟩
    ·unfold Instr.findNow
     rw[h1,E.same]
     simp
    ·intro j w hj
     cases hj
     refine⟨Nat.le_refl _,fun x=>?_⟩
     simp[Aoa,h3]
   ·obtain⟨r,r1,r2,r3⟩:=Ajl E k es l (i+1) h3
    refine⟨r,?_,by simp[Ad7,hk,r2],?_⟩
    ·unfold Instr.findNow
     rw[h1,E.same]
     simp[hk,r1]
    ·intro j w hj
     obtain⟨q1,q2⟩:=r3 j w hj
     refine⟨by omega,fun x=>?_⟩
     rw[show j-i=(j-(i+1))+1 by omega]
     simp only[List.modify_succ_cons,List.map_cons,Aoa,if_neg hk,q2 x,h1,h2]
def Bgt(z:Value)(ok:Bool):Option Value→Value
 |some v=>if ok then .tuple #[v,.bool true]else v
 |none=>if ok then .tuple #[z,.bool false]else z
theorem Am1{k:κ}{v:Value}:∀{l:List (κ×Value)},Ad7 k l=some v→(k,v)∈l
 |(a,w)::l,h=>by
  simp only[Ad7]at h
  split at h
  ·rename_i e;cases h;subst e;simp
  ·simp[Am1 h]
theorem Ayo(E:Enc d enc){b:Nat}{l:List (κ×Value)}(h:MP enc H b l)(k:κ)(z:Value)(ok:Bool):Aam (.mget d z ok (.map (some b)) (enc k)) H=some (Bgt z ok (Ad7 k l),H):=by
 obtain⟨⟨es,c,h1,h2⟩,h3⟩:=h
 obtain⟨r,r1,r2,_⟩:=Ajl E k es.toList l 0 h2
 simp only[Aam,E.key,if_true,h1,r1,←r2]
 cases r with
 |none=>rfl
 |some p=>
  obtain⟨j,v⟩:=p
  have:Are v=true:=h3 _ (Am1 (k:=k) (by rw[←r2];rfl))
  simp[Ark,this,Bgt]
theorem Ayp(E:Enc d enc){b:Nat}{l:List (κ×Value)}(h:MP enc H b l)(k:κ){x:Value}(hx:Are x=true):∃o,Aam (.mset d (.map (some b)) (enc k) x) H=some (undef,H.set b o)∧MP enc (H.set b o) b (Aoa k x l):=by
 obtain⟨⟨es,c,h1,h2⟩,h3⟩:=h
 obtain⟨r,r1,r2,r3⟩:=Ajl E k es.toList l 0 h2
 have hg:∀p∈Aoa k x l,Are p.2=true:=fun p hp=>by
  rcases Aph hp with hp|rfl
  ·exact h3 p hp
  ·exact hx
 simp only[Aam,E.key,hx,and_self,if_true,h1,r1]
 cases r with
 |none=>
  refine⟨_,rfl,⟨⟨_,_,Aaa.Bp7 h1 _,?_⟩,hg⟩⟩
  rw[Al1 (by rw[←r2];rfl)]
  simp[h2]
 |some p=>
  obtain⟨j,v⟩:=p
  refine⟨_,rfl,⟨⟨_,_,Aaa.Bp7 h1 _,?_⟩,hg⟩⟩
  obtain⟨_,q⟩:=r3 j v rfl
  have:=q x
  simpa using this
end
end Go.AM

namespace Go.AM.Fd
open Go.Proofs Go.AM.F
structure Ro where
 n:List UInt8
 g:Int
 path:List Int
 pts:List (Int×Bool)
 ov:List Int
 fl:List (Int×Bool)
structure Ly where
 s:List (List UInt8)
 p:List (List UInt8×Int)
 g:List (List UInt8×Int)
 r:List Ro
def Agw(n:Int):List Value:=[.int .i64 n]
def Afq(x:Int×Bool):List Value:=[.int .i64 x.1,.bool x.2]
def Bdm(x:List UInt8×Int):List Value:=[.string ⟨x.1.toArray⟩,.int .i64 x.2]
def IL(H:Aaa)(v:Value)(l:List Int):Prop:=Sl H 1 v (l.map Agw)
def NL(H:Aaa)(v:Value)(l:List (Int×Bool)):Prop:=Sl H 2 v (l.map Afq)
def PL(H:Aaa)(v:Value)(l:List (List UInt8×Int)):Prop:=Sl H 2 v (l.map Bdm)
structure RV where
 r:Ro
 vp:Value
 vq:Value
 vo:Value
 vf:Value
def RV.row(x:RV):List Value:=[.string ⟨x.r.n.toArray⟩,.int .i64 x.r.g,x.vp,x.vq,x.vo,x.vf]
structure RV.ok (H:Aaa) (x:RV):Prop where
 p:IL H x.vp x.r.path
 q:NL H x.vq x.r.pts
 o:IL H x.vo x.r.ov
 f:NL H x.vf x.r.fl
def RL(H:Aaa)(v:Value)(xs:List RV):Prop:=Sl H 6 v (xs.map RV.row)
structure V4 where
 s:Value
 p:Value
 g:Value
 r:Value
def V4.l(u:V4):List Value:=[u.s,u.p,u.g,u.r]
structure LyR (H:Aaa) (u:V4) (xs:List RV) (L:Ly):Prop where
 s:TL H u.s L.s
 p:PL H u.p L.p
 g:PL H u.g L.g
 r:RL H u.r xs
 e:xs.map (·.r)=L.r
 ok:∀x∈xs,x.ok H
section
variable {H K:Aaa} {v:Value}
theorem IL.len{l:List Int}(h:IL H v l):lenS v=l.length:=by have:=Sl.len h;simpa using this
theorem NL.len{l:List (Int×Bool)}(h:NL H v l):lenS v=l.length:=by have:=Sl.len h;simpa using this
theorem PL.len{l:List (List UInt8×Int)}(h:PL H v l):lenS v=l.length:=by have:=Sl.len h;simpa using this
theorem RL.len{l:List RV}(h:RL H v l):lenS v=l.length:=by have:=Sl.len h;simpa using this
theorem IL.keeps{l:List Int}(h:IL H v l)(k:Aac H K):IL K v l:=Sl.keeps h k
theorem NL.keeps{l:List (Int×Bool)}(h:NL H v l)(k:Aac H K):NL K v l:=Sl.keeps h k
theorem PL.keeps{l:List (List UInt8×Int)}(h:PL H v l)(k:Aac H K):PL K v l:=Sl.keeps h k
theorem RL.keeps{l:List RV}(h:RL H v l)(k:Aac H K):RL K v l:=Sl.keeps h k
theorem IL.at_{l:List Int}(h:IL H v l){i:Nat}(hi:i<l.length):nnS v=true∧Afp H 1 v i=some [.int .i64 (l.getD i 0)]:=by
 have:=Sl.at_ h (by omega) (i:=i) (by simpa using hi)
 refine⟨this.1,?_⟩
 rw[this.2];simp[List.getD,List.getElem?_eq_getElem hi,Agw]
theorem NL.at_{l:List (Int×Bool)}(h:NL H v l){i:Nat}(hi:i<l.length):nnS v=true∧Afp H 2 v i=some [.int .i64 (l.getD i (0,false)).1,.bool (l.getD i (0,false)).2]:=by
 have:=Sl.at_ h (by omega) (i:=i) (by simpa using hi)
 refine⟨this.1,?_⟩
 rw[this.2];simp[List.getD,List.getElem?_eq_getElem hi,Afq]
theorem PL.at_{l:List (List UInt8×Int)}(h:PL H v l){i:Nat}(hi:i<l.length):nnS v=true∧Afp H 2 v i=some [.string ⟨(l.getD i ([],0)).1.toArray⟩,.int .i64 (l.getD i ([],0)).2]:=by
 have:=Sl.at_ h (by omega) (i:=i) (by simpa using hi)
 refine⟨this.1,?_⟩
 rw[this.2];simp[List.getD,List.getElem?_eq_getElem hi,Bdm]
def rv0:RV:=⟨⟨[],0,[],[],[],[]⟩,.slice none 0 0,.slice none 0 0,.slice none 0 0,.slice none 0 0⟩
theorem RL.at_{l:List RV}(h:RL H v l){i:Nat}(hi:i<l.length):nnS v=true∧Afp H 6 v i=some (l.getD i rv0).row:=by
 have:=Sl.at_ h (by omega) (i:=i) (by simpa using hi)
 refine⟨this.1,?_⟩
 rw[this.2];simp[List.getD,List.getElem?_eq_getElem hi]
theorem RV.ok.keeps{x:RV}(h:x.ok H)(k:Aac H K):x.ok K:=⟨h.p.keeps k,h.q.keeps k,h.o.keeps k,h.f.keeps k⟩
theorem LyR.keeps{u:V4}{xs:List RV}{L:Ly}(h:LyR H u xs L)(k:Aac H K):LyR K u xs L:=
 ⟨h.s.keeps k,h.p.keeps k,h.g.keeps k,h.r.keeps k,h.e,fun x hx=>(h.ok x hx).keeps k⟩
theorem LyR.rlen{u:V4}{xs:List RV}{L:Ly}(h:LyR H u xs L):xs.length=L.r.length:=by rw[←h.e];simp
theorem LyR.rat{u:V4}{xs:List RV}{L:Ly}(h:LyR H u xs L){i:Nat}(hi:i<L.r.length):(xs.getD i rv0).ok H∧(xs.getD i rv0).r=L.r.getD i rv0.r:=by
 have hi':i<xs.length:=by rw[h.rlen];exact hi
 have e:xs.getD i rv0=xs[i]:=by simp[List.getD,List.getElem?_eq_getElem hi']
 refine⟨by rw[e];exact h.ok _ (List.getElem_mem _),?_⟩
 rw[e]
 have:(xs.map (·.r))[i]'(by simpa using hi')=L.r[i]:=by
  have:=h.e
  simp only[←this]
 simp only[List.getElem_map]at this
 rw[this];simp[List.getD,List.getElem?_eq_getElem hi]
end
end Go.AM.Fd

set_option maxRecDepth 100000
set_option maxHeartbeats 0
namespace Go.AM.F
def Akb:TypeId→List Value
 |87=>[(.string ByteArray.empty),(.int .i64 0),(.slice none 0 0),(.slice none 0 0),(.slice none 0 0),(.slice none 0 0)]
 |175=>[(.slice none 0 0),(.slice none 0 0),(.slice none 0 0),(.slice none 0 0),(.map none)]
 |89=>[(.string ByteArray.empty),(.int .i64 0)]
 |90=>[(.string ByteArray.empty),(.int .i64 0)]
 |120=>[(.int .i64 0),(.bool false)]
 |_=>[]
def Akc:TypeId→Value
 |_=>undef
def Akd:TypeId→List Nat
 |_=>[]
def Ake:Nat→TypeId→List Value
 |1,3=>[(.int .i64 0)]
 |1,9=>[(.string ByteArray.empty)]
 |_,_=>[]
noncomputable def f7:Aao:=by
 refine(fun(_:Cz Akb Akc Akd Ake Go.Proofs.Tryz.prog 0 [0,1,2,4,5,6,7,8,9,10,20,41,63,85,109] 7 ?a)=>?a) ?h
 case h=>
 intro zc zv zk zr hc hv hk hr
 conv=>lhs;cbv;try simp only[hc,hv,hk,hr,Akb,Akc,Akd,Ake]
theorem Bjj:Aap Go.Proofs.Tryz.prog 0 [0,1,2,4,5,6,7,8,9,10,20,41,63,85,109] 7=some f7:=by kernel_rfl
theorem f7_n:Aaf Go.Proofs.Tryz.prog 7 2=true:=by kernel_rfl
noncomputable def f61:Aao:=by
 refine(fun(_:Cz Akb Akc Akd Ake Go.Proofs.Tryz.prog 0 [0,1,2,3,4,5,6,7,8,9,10,11,12,13,14,15,16,42,47,48,49,50,68,69,70,71,98,99,100,101,128,129,130,131] 61 ?a)=>?a) ?h
 case h=>
 intro zc zv zk zr hc hv hk hr
 conv=>lhs;cbv;try simp only[hc,hv,hk,hr,Akb,Akc,Akd,Ake]
theorem Azy:Aap Go.Proofs.Tryz.prog 0 [0,1,2,3,4,5,6,7,8,9,10,11,12,13,14,15,16,42,47,48,49,50,68,69,70,71,98,99,100,101,128,129,130,131] 61=some f61:=by kernel_rfl
theorem A98:Aaf Go.Proofs.Tryz.prog 61 1=true:=by kernel_rfl
noncomputable def f94:Aao:=by
 refine(fun(_:Cz Akb Akc Akd Ake Go.Proofs.Tryz.prog 0 [0,1,2,6,8,18] 94 ?a)=>?a) ?h
 case h=>
 intro zc zv zk zr hc hv hk hr
 conv=>lhs;cbv;try simp only[hc,hv,hk,hr,Akb,Akc,Akd,Ake]
theorem A99:Aap Go.Proofs.Tryz.prog 0 [0,1,2,6,8,18] 94=some f94:=by kernel_rfl
theorem Bjk:Aaf Go.Proofs.Tryz.prog 94 3=true:=by kernel_rfl
noncomputable def f95:Aao:=by
 refine(fun(_:Cz Akb Akc Akd Ake Go.Proofs.Tryz.prog 0 [0,1,4,6,7,8,9,10,19] 95 ?a)=>?a) ?h
 case h=>
 intro zc zv zk zr hc hv hk hr
 conv=>lhs;cbv;try simp only[hc,hv,hk,hr,Akb,Akc,Akd,Ake]
theorem Baa:Aap Go.Proofs.Tryz.prog 0 [0,1,4,6,7,8,9,10,19] 95=some f95:=by kernel_rfl
theorem Bjl:Aaf Go.Proofs.Tryz.prog 95 2=true:=by kernel_rfl
noncomputable def f96:Aao:=by
 refine(fun(_:Cz Akb Akc Akd Ake Go.Proofs.Tryz.prog 0 [0,1,4,5,6,7,8,9,10,23] 96 ?a)=>?a) ?h
 case h=>
 intro zc zv zk zr hc hv hk hr
 conv=>lhs;cbv;try simp only[hc,hv,hk,hr,Akb,Akc,Akd,Ake]
theorem Bab:Aap Go.Proofs.Tryz.prog 0 [0,1,4,5,6,7,8,9,10,23] 96=some f96:=by kernel_rfl
theorem Bjm:Aaf Go.Proofs.Tryz.prog 96 2=true:=by kernel_rfl
noncomputable def f47:Aao:=by
 refine(fun(_:Cz Akb Akc Akd Ake Go.Proofs.Tryz.prog 0 [0,1,2,3,4,5,6,7,8,10,16,35,40,54,59,73,78,131] 47 ?a)=>?a) ?h
 case h=>
 intro zc zv zk zr hc hv hk hr
 conv=>lhs;cbv;try simp only[hc,hv,hk,hr,Akb,Akc,Akd,Ake]
theorem Azz:Aap Go.Proofs.Tryz.prog 0 [0,1,2,3,4,5,6,7,8,10,16,35,40,54,59,73,78,131] 47=some f47:=by kernel_rfl
theorem Bac:Aaf Go.Proofs.Tryz.prog 47 1=true:=by kernel_rfl
noncomputable def f77:Aao:=by
 refine(fun(_:Cz Akb Akc Akd Ake Go.Proofs.Tryz.prog 0 [0,1,2] 77 ?a)=>?a) ?h
 case h=>
 intro zc zv zk zr hc hv hk hr
 conv=>lhs;cbv;try simp only[hc,hv,hk,hr,Akb,Akc,Akd,Ake]
theorem Bad:Aap Go.Proofs.Tryz.prog 0 [0,1,2] 77=some f77:=by kernel_rfl
theorem Bjn:Aaf Go.Proofs.Tryz.prog 77 1=true:=by kernel_rfl
noncomputable def f78:Aao:=by
 refine(fun(_:Cz Akb Akc Akd Ake Go.Proofs.Tryz.prog 0 [0,1,2,3,4,5,6,15,31,47] 78 ?a)=>?a) ?h
 case h=>
 intro zc zv zk zr hc hv hk hr
 conv=>lhs;cbv;try simp only[hc,hv,hk,hr,Akb,Akc,Akd,Ake]
theorem Bae:Aap Go.Proofs.Tryz.prog 0 [0,1,2,3,4,5,6,15,31,47] 78=some f78:=by kernel_rfl
theorem Bjo:Aaf Go.Proofs.Tryz.prog 78 1=true:=by kernel_rfl
noncomputable def f80:Aao:=by
 refine(fun(_:Cz Akb Akc Akd Ake Go.Proofs.Tryz.prog 0 [0,1,4,5,9,17] 80 ?a)=>?a) ?h
 case h=>
 intro zc zv zk zr hc hv hk hr
 conv=>lhs;cbv;try simp only[hc,hv,hk,hr,Akb,Akc,Akd,Ake]
theorem Baf:Aap Go.Proofs.Tryz.prog 0 [0,1,4,5,9,17] 80=some f80:=by kernel_rfl
theorem Bjp:Aaf Go.Proofs.Tryz.prog 80 2=true:=by kernel_rfl
noncomputable def f81:Aao:=by
 refine(fun(_:Cz Akb Akc Akd Ake Go.Proofs.Tryz.prog 0 [0,1,4,5,13,28] 81 ?a)=>?a) ?h
 case h=>
 intro zc zv zk zr hc hv hk hr
 conv=>lhs;cbv;try simp only[hc,hv,hk,hr,Akb,Akc,Akd,Ake]
theorem Bag:Aap Go.Proofs.Tryz.prog 0 [0,1,4,5,13,28] 81=some f81:=by kernel_rfl
theorem Bjq:Aaf Go.Proofs.Tryz.prog 81 2=true:=by kernel_rfl
noncomputable def f82:Aao:=by
 refine(fun(_:Cz Akb Akc Akd Ake Go.Proofs.Tryz.prog 0 [0,2,3,4,12] 82 ?a)=>?a) ?h
 case h=>
 intro zc zv zk zr hc hv hk hr
 conv=>lhs;cbv;try simp only[hc,hv,hk,hr,Akb,Akc,Akd,Ake]
theorem Bah:Aap Go.Proofs.Tryz.prog 0 [0,2,3,4,12] 82=some f82:=by kernel_rfl
theorem Bjr:Aaf Go.Proofs.Tryz.prog 82 1=true:=by kernel_rfl
end Go.AM.F

namespace Go.AM.Fd
open Nat (reduceAdd reduceEqDiff reduceLT reduceLeDiff reduceMul reduceSub)
open Go.Proofs Go.AM.F
def inB(n x:Int):Bool:=decide (0≤x)&&decide (x<n)
theorem Agh{α:Type}{p:α→Bool}{l:List α}{i:Nat}{d:α}(h:i<l.length)(hp:(l.take i).all p=true)(hx:p (l.getD i d)=true):(l.take (i+1)).all p=true:=by
 rw[List.take_add_one,List.all_append,hp,List.getElem?_eq_getElem h]
 simpa[List.getD,List.getElem?_eq_getElem h]using hx
theorem Agx{α:Type}{p:α→Bool}{l:List α}{i:Nat}{d:α}(h:i<l.length)(hx:p (l.getD i d)=false):l.all p=false:=by
 rw[List.all_eq_false]
 exact⟨l[i],List.getElem_mem _,by simpa[List.getD,List.getElem?_eq_getElem h]using hx⟩
theorem t95{H:Aaa}{v:Value}{l:List Int}(n:Int)(h:IL H v l)(hl:l.length≤9223372036854775807):∃w H',Aau Tryz.prog 0 95 [.int .i64 n,v] H w H'∧w=.bool (l.all (inB n))∧H'=H:=by
 refine Aaq Baa Bjl ?_
 intro Q hq1 hq2
 have ia:=Sl.is h
 have la:=h.len
 simp(disch:=first|assumption|omega)only[f95,P3,seval,Aak,Aat,la]
 rw[Aah]
 refine Aan (fun k fr K=>∃i x3 x7 x8,fr=[.int .i64 n,v,.bool false,x3,v,.int .i64 ((l.length:Nat):Int),.int .i64 ((i:Nat):Int),x7,x8]∧K=H∧i≤l.length∧(l.take i).all (inB n)=true∧k=l.length-i) l.length
  ⟨0,_,_,_,rfl,rfl,by omega,by simp,rfl⟩ ?_
 rintro Q' k fr K ⟨i,x3,x7,x8,rfl,rfl,hi,hp,rfl⟩ hn hx hret
 by_cases hlt:i<l.length
 ·obtain⟨na,ra⟩:=h.at_ hlt
  have h0:(0:Int)≤(i:Int):=by omega
  have h1:(i:Int)<((lenS v:Nat):Int):=by omega
  have h3:(i:Int)<((l.length:Nat):Int):=by omega
  have hw:IntKind.i64.wrap ((i:Int)+1)=((i+1:Nat):Int):=by rw[Aae (by omega) (by omega)];simp
  have stop:inB n (l.getD i 0)=false→l.all (inB n)=false:=fun e=>Agx hlt e
  have go:inB n (l.getD i 0)=true→(l.take (i+1)).all (inB n)=true:=fun e=>Agh hlt hp e
  generalize l.getD i 0=x at*
  by_cases hx0:x<0
  ·simp(disch:=first|assumption|omega)only[P4,seval,la,ra,na,Aal]
   refine hret _ _ (hq2 _ _ ⟨_,rfl,?_,rfl⟩)
   rw[stop (by simp[inB];omega)];rfl
  ·by_cases hxn:n≤x
   ·simp(disch:=first|assumption|omega)only[P4,seval,la,ra,na,Aal]
    refine hret _ _ (hq2 _ _ ⟨_,rfl,?_,rfl⟩)
    rw[stop (by simp[inB];omega)];rfl
   ·simp(disch:=first|assumption|omega)only[P4,seval,la,ra,na,Aal,hw]
    exact hn _ _ _ ⟨i+1,_,_,_,rfl,rfl,by omega,go (by simp[inB];omega),rfl⟩ (by omega)
 ·have h3:¬(i:Int)<((l.length:Nat):Int):=by omega
  simp(disch:=first|assumption|omega)only[P4,seval,la]
  refine hx 0 _ _ ?_
  simp(disch:=first|assumption|omega)only[P4,seval]
  refine hq2 _ _ ⟨_,rfl,?_,rfl⟩
  rw[List.take_of_length_le (by omega)]at hp
  rw[hp];rfl
end Go.AM.Fd

namespace Go.AM.Fd
open Nat (reduceAdd reduceEqDiff reduceLT reduceLeDiff reduceMul reduceSub)
open Go.Proofs Go.AM.F
theorem t96{H:Aaa}{v:Value}{l:List (Int×Bool)}(n:Int)(h:NL H v l)(hl:l.length≤9223372036854775807):∃w H',Aau Tryz.prog 0 96 [v,.int .i64 n] H w H'∧w=.bool (decide (l.length≤16)&&l.all (fun x=>inB n x.1))∧H'=H:=by
 refine gcb ?_
 refine Aaq Bab Bjm ?_
 intro Q hq1 hq2
 have ia:=Sl.is h
 have la:=h.len
 simp(disch:=first|assumption|omega)only[f96,P3,seval,Aak,Aat,la]
 rw[Aah]
 refine Aan (fun k fr K=>∃i x3 x4 x8 x9,fr=[v,.int .i64 n,.bool false,x3,x4,v,.int .i64 ((l.length:Nat):Int),.int .i64 ((i:Nat):Int),x8,x9]∧Aac H K∧i≤l.length∧i≤16∧(l.take i).all (fun x=>inB n x.1)=true∧k=l.length-i) l.length
  ⟨0,_,_,_,_,rfl,Aac.refl H,by omega,by omega,by simp,rfl⟩ ?_
 rintro Q' k fr K ⟨i,x3,x4,x8,x9,rfl,hk,hi,hi6,hp,rfl⟩ hn hx hret
 by_cases hlt:i<l.length
 ·obtain⟨na,ra⟩:=(h.keeps hk).at_ hlt
  have hbl:=Sl.bn_le (h.keeps hk) (by intro e;simp at e;subst e;simp at hlt) (by omega)
  have h0:(0:Int)≤(i:Int):=by omega
  have h1:(i:Int)<((lenS v:Nat):Int):=by omega
  have h3:(i:Int)<((l.length:Nat):Int):=by omega
  have hw:IntKind.i64.wrap ((i:Int)+1)=((i+1:Nat):Int):=by rw[Aae (by omega) (by omega)];simp
  have stop:inB n (l.getD i (0,false)).1 =false→l.all (fun x=>inB n x.1)=false:=fun e=>Agx (d:=(0,false)) hlt e
  have go:inB n (l.getD i (0,false)).1 =true→(l.take (i+1)).all (fun x=>inB n x.1)=true:=fun e=>Agh (d:=(0,false)) hlt hp e
  generalize l.getD i (0,false)=x at*
  have o1:one1 (Value.int .i64 x.1)=True:=by simp[one1,Aax]
  by_cases h6:(16:Int)≤(i:Int)
  ·simp(disch:=first|assumption|omega|(simp only[LN]<;>omega)|(simp(disch:=first|assumption|omega|(simp only[LN]<;>omega))only[Aab,Aad];assumption))only[P4,seval,la,ra,na,Aai,h6]
   refine hret _ _ (hq2 _ _ ⟨_,rfl,?_,?_⟩)
   ·have:¬l.length≤16:=by omega
    simp[Afi,this]
   ·exact(hk.alloc _)
  ·simp(disch:=first|assumption|omega|(simp only[LN]<;>omega)|(simp(disch:=first|assumption|omega|(simp only[LN]<;>omega))only[Aab,Aad];assumption))only[P4,seval,la,ra,na,Aai,h6]
   have hk2:=(hk.alloc (.cells true false 2 [.int .i64 x.1,.bool x.2] 120)).alloc (.cells true false 1 [.int .i64 x.1] 3)
   have hil:IL ((K.alloc (.cells true false 2 [.int .i64 x.1,.bool x.2] 120)).alloc (.cells true false 1 [.int .i64 x.1] 3)) (slc (K.n+1) 0 1 1) [x.1]:=
    ⟨⟨_,_,rfl⟩,by simp[Agw],by rw[Ach (by simp[Acd]) rfl];rfl⟩
   refine Aag (t95 n hil (by simp)) ?_
   rintro _ _ ⟨rfl,rfl⟩
   cases hb:inB n x.1 with
   |false=>
    have e:[x.1].all (inB n)=false:=by simp[hb]
    simp(disch:=first|assumption|omega)only[P4,seval,e]
    refine hret _ _ (hq2 _ _ ⟨_,rfl,?_,hk2⟩)
    rw[stop hb];simp[Afi]
   |true=>
    have e:[x.1].all (inB n)=true:=by simp[hb]
    simp(disch:=first|assumption|omega)only[P4,seval,e,hw]
    exact hn _ _ _ ⟨i+1,_,_,_,_,rfl,hk2,by omega,by omega,go hb,rfl⟩ (by omega)
 ·have h3:¬(i:Int)<((l.length:Nat):Int):=by omega
  simp(disch:=first|assumption|omega)only[P4,seval,la]
  refine hx 0 _ _ ?_
  simp(disch:=first|assumption|omega)only[P4,seval]
  refine hq2 _ _ ⟨_,rfl,?_,hk⟩
  rw[List.take_of_length_le (by omega)]at hp
  have:l.length≤16:=by omega
  simp[Afi,hp,this]
def Bdn(l:List UInt8):Value:=.string ⟨l.toArray⟩
theorem Az5:Enc .string Bdn:=A7d
theorem Ah1{k:List UInt8}:∀{M:List (List UInt8×Value)},Ad7 k M=none↔k∉M.map (·.1)
 |[]=>by simp[Ad7]
 |(a,v)::M=>by
  simp only[Ad7,List.map_cons,List.mem_cons,not_or]
  split
  ·rename_i e;simp[e]
  ·rename_i e;rw[Ah1 (M:=M)];simp[e]
theorem t94{H:Aaa}{b mb T:Nat}{own room:Bool}{c:List Value}{M:List (List UInt8×Value)}(hb:H.get b=some (.cells own room 5 c T))(hc:c[4]? =some (.map (some mb)))(hm:MP Bdn H mb M)(n:List UInt8){x:Value}(hx:Are x=true):
 ∃w H',Aau Tryz.prog 0 94 [ptr b 0,.string ⟨n.toArray⟩,x] H w H'∧w=.bool (Ad7 n M).isNone∧Chg [mb] H H'∧MP Bdn H' mb (if(Ad7 n M).isNone then M++[(n,x)]else M):=by
 refine Aaq A99 Bjk ?_
 intro Q hq1 hq2
 have g:=Ayo Az5 hm n .nilIface true
 obtain⟨o,s1,s2⟩:=Ayp Az5 hm n hx
 simp only[Bdn]at g s1
 cases hf:Ad7 n M with
 |some y=>
  rw[hf]at g
  simp only[Bgt,if_true]at g
  simp(disch:=first|assumption|omega)only[f94,P4,seval,hb,hc,Afg,g]
  refine hq2 _ _ ⟨_,rfl,by simp[Afi,hf],Chg.refl _ _,by simpa[hf]using hm⟩
 |none=>
  rw[hf]at g
  simp only[Bgt,if_true]at g
  simp(disch:=first|assumption|omega)only[f94,P4,seval,hb,hc,Afg,Asf,g,s1]
  refine hq2 _ _ ⟨_,rfl,by simp[Afi,hf],Chg.set H hm.lt o,?_⟩
  rw[Al1 hf]at s2
  simpa[hf]using s2
end Go.AM.Fd

namespace Go.AM.Fd
open Nat (reduceAdd reduceEqDiff reduceLT reduceLeDiff reduceMul reduceSub)
open Go.Proofs Go.AM.F
def okN(l:List (List UInt8)):Bool:=l.all Acz&&decide l.Nodup
theorem Ahb(ns:List (List UInt8))(n:List UInt8):okN (ns++[n])=(okN ns&&(Acz n&& !ns.contains n)):=by
 simp only[okN,List.all_append,List.all_cons,List.all_nil,Bool.and_true]
 have:decide (ns++[n]).Nodup=(decide ns.Nodup&& !ns.contains n):=by
  by_cases h1:ns.Nodup
  ·by_cases h2:n∈ns
   ·have:¬(ns++[n]).Nodup:=by
     intro h;rw[List.nodup_append]at h
     exact h.2.2 n h2 n (by simp) rfl
    simp[this,h2]
   ·have:(ns++[n]).Nodup:=by
     rw[List.nodup_append]
     exact⟨h1,by simp,fun a ha b hb=>by simp at hb;subst hb;intro e;subst e;exact h2 ha⟩
    simp[this,h1,h2]
  ·have:¬(ns++[n]).Nodup:=fun h=>h1 (List.nodup_append.1 h).1
   simp[this,h1]
 rw[this]
 cases ns.all Acz<;>cases Acz n<;>simp
def Ah2(n:Nat)(l:List (Int×Bool)):Bool:=decide (l.length≤16)&&l.all (fun x=>inB n x.1)
def roB(L:Ly)(r:Ro):Bool:=inB L.g.length r.g&&(decide (r.path.length≤16)&&decide (r.ov.length≤16)&&r.path.all (inB L.s.length)&&r.ov.all (inB L.s.length))&&(Ah2 L.p.length r.pts&&Ah2 L.p.length r.fl)
def Agy(L:Ly):Bool:=decide (64<L.s.length)||decide (32<L.p.length)||decide (32<L.g.length)||decide (64<L.r.length)
def nm2(L:Ly)(i:Nat):List (List UInt8):=L.s++(L.p.take i).map (·.1)
def nm3(L:Ly)(i:Nat):List (List UInt8):=L.s++L.p.map (·.1)++(L.g.take i).map (·.1)
def nm4(L:Ly)(i:Nat):List (List UInt8):=L.s++L.p.map (·.1)++L.g.map (·.1)++(L.r.take i).map (·.n)
def Acr(L:Ly):List (List UInt8):=L.s++L.p.map (·.1)++L.g.map (·.1)++L.r.map (·.n)
def al2(L:Ly)(i:Nat):Bool:=(L.p.take i).all fun x=>inB L.s.length x.2
def al3(L:Ly)(i:Nat):Bool:=L.p.all (fun x=>inB L.s.length x.2)&&(L.g.take i).all fun x=>inB L.s.length x.2
def al4(L:Ly)(i:Nat):Bool:=L.p.all (fun x=>inB L.s.length x.2)&&L.g.all (fun x=>inB L.s.length x.2)&&(L.r.take i).all (roB L)
def Afc(L:Ly):Bool:= !Agy L&&(okN (Acr L)&&(L.p.all (fun x=>inB L.s.length x.2)&&L.g.all (fun x=>inB L.s.length x.2)&&L.r.all (roB L)))
theorem Adi{α:Type}{l:List α}{i:Nat}(d:α)(h:i<l.length):l.take (i+1)=l.take i++[l.getD i d]:=by
 rw[List.take_add_one,List.getElem?_eq_getElem h];simp[List.getD,List.getElem?_eq_getElem h]
structure Af7 (L:Ly):Prop where
 s:L.s.length≤1000000000∧∀x∈L.s,x.length≤9223372036854775807
 p:L.p.length≤1000000000∧∀x∈L.p,x.1.length≤9223372036854775807
 g:L.g.length≤1000000000∧∀x∈L.g,x.1.length≤9223372036854775807
 r:L.r.length≤1000000000∧∀x∈L.r,x.n.length≤9223372036854775807∧x.path.length≤9223372036854775807∧x.pts.length≤9223372036854775807∧x.ov.length≤9223372036854775807∧x.fl.length≤9223372036854775807
theorem Ad2{α:Type}{l:List α}{i:Nat}{d:α}(h:i<l.length):l.getD i d∈l:=by
 simp[List.getD,List.getElem?_eq_getElem h]
structure MSt (H K:Aaa) (u:V4) (ok:Bool) (ns:List (List UInt8)):Prop where
 k:Aac H K
 l:K.get H.n=some (.cells true false 4 u.l 27)
 b:K.get (H.n+2)=some (.cells true false 5 [.slice none 0 0,.slice none 0 0,.slice none 0 0,.slice none 0 0,.map (some (H.n+1))] 175)
 m:ok=true→∃M,MP Bdn K (H.n+1) M∧M.map (·.1)=ns
theorem MSt.keeps{H K K':Aaa}{u:V4}{ok:Bool}{ns:List (List UInt8)}(h:MSt H K u ok ns)(k:Aac K K'):MSt H K' u ok ns:=
 ⟨h.k.trans k,k.at_ h.l,k.at_ h.b,fun e=>by obtain⟨M,h1,h2⟩:=h.m e;exact⟨M,h1.get (k.get _ h1.lt),h2⟩⟩
theorem MSt.no{H K:Aaa}{u:V4}{ok:Bool}{ns ns':List (List UInt8)}(h:MSt H K u ok ns):MSt H K u false ns':=⟨h.k,h.l,h.b,fun e=>by cases e⟩
theorem MSt.fresh{H K:Aaa}{u:V4}{ns:List (List UInt8)}(h:MSt H K u true ns)(n:List UInt8){x:Value}(hx:Are x=true):
 ∃w K',Aau Tryz.prog 0 94 [ptr (H.n+2) 0,.string ⟨n.toArray⟩,x] K w K'∧w=.bool (!ns.contains n)∧MSt H K' u (!ns.contains n) (ns++[n])∧K.n≤K'.n∧(∀b,H.n+2<b→b<K.n→K'.get b=K.get b):=by
 obtain⟨M,h1,h2⟩:=h.m rfl
 obtain⟨w,K',r,rfl,c,m⟩:=t94 (hc:=rfl) h.b h1 n hx
 have e:(Ad7 n M).isNone= !ns.contains n:=by
  cases hf:Ad7 n M with
  |none=>have:=Ah1.1 hf;rw[h2]at this;simp[this]
  |some y=>
   have:n∈M.map (·.1):=by
    rcases Classical.em (n∈M.map (·.1))with h|h
    ·exact h
    ·rw[Ah1.2 h]at hf;cases hf
   rw[h2]at this;simp[this]
 rw[e]at r m
 refine⟨_,_,r,rfl,⟨h.k.Bqa c (by simp),c.at_ h.l (by simp),c.at_ h.b (by simp),fun hn=>?_⟩,c.n,fun b hb hlt=>c.get b hlt (by simp;omega)⟩
 rw[hn]at m
 exact⟨_,m,by simp[h2]⟩
def mF(A:Value)(h:Nat)(L:Ly)(ok:Bool):List Value:=[A,ptr h 0,.bool false,.int .i64 ((L.s.length:Nat):Int),.int .i64 ((L.p.length:Nat):Int),.int .i64 ((L.g.length:Nat):Int),.int .i64 ((L.r.length:Nat):Int),ptr (h+2) 0,.bool ok]
def M1(A:Value)(H:Aaa)(u:V4)(L:Ly)(fr:List Value)(K:Aaa):Prop:=
 ∃ok x9 x10 x11 x12 x13 x14 x15 x16 x17 x18 x19 x20 x21 x22 x23 x24 x25 x26 x27 x28 x29 x30 x31 x32 x33,fr=mF A H.n L ok++[x9,x10,x11,x12,x13,x14,x15,x16,x17,x18,x19,x20,x21,x22,x23,x24,x25,x26,x27,x28,x29,x30,x31,x32,x33]∧ok=okN L.s∧MSt H K u ok L.s
set_option maxHeartbeats 1000000 in
theorem may1{H:Aaa}{u:V4}{xs:List RV}{L:Ly}{Q:AQ}(h:LyR H u xs L)(hf:Af7 L)(hfu:Agy L=false)
 (hk:∀fr K,M1 (.agg u.l.toArray) H u L fr K→Q .normal fr K):W Tryz.prog 0 (Ae5 6 f61.body) Q (Aak f61.sl [.agg u.l.toArray]) H:=by
 have ls:=h.s.len
 have lp:=h.p.len
 have lg:=h.g.len
 have lr:=h.r.len
 have er:=h.rlen
 have is:=Sl.is h.s
 have ip:=Sl.is h.p
 have ig:=Sl.is h.g
 have ir:=Sl.is h.r
 have os:=Sl.one h.s
 have op:=Sl.one h.p
 have og:=Sl.one h.g
 have or:=Sl.one h.r
 simp only[Agy,Bool.or_eq_false_iff,decide_eq_false_iff_not]at hfu
 obtain⟨⟨⟨f1,f2⟩,f3⟩,f4⟩:=hfu
 have h0:=h
 obtain⟨us,up,ug,ur⟩:=u
 simp only[V4.l]at*
 have c1:¬(64:Int)<((L.s.length:Nat):Int):=by omega
 have c2:¬(32:Int)<((L.p.length:Nat):Int):=by omega
 have c3:¬(32:Int)<((L.g.length:Nat):Int):=by omega
 have c4:¬(64:Int)<((L.r.length:Nat):Int):=by omega
 simp(disch:=first|assumption|omega|(simp only[LN]<;>omega)|(simp(disch:=first|assumption|omega|(simp only[LN]<;>omega))only[Aab,Aad];assumption))only[f61,Ae5,P3,seval,Aak,Aat,ls,lp,lg,lr,er,os,op,og,or,Ape,Asg,Ad9,Ash,Aoe,A8m]
 have k0:=(((Aac.refl H).alloc (.cells true false 4 [us,up,ug,ur] 27)).alloc (.obj true (.map #[] 0))).alloc (.cells true false 5 [.slice none 0 0,.slice none 0 0,.slice none 0 0,.slice none 0 0,.map (some (H.n+1))] 175)
 have st0:MSt H (((H.alloc (.cells true false 4 [us,up,ug,ur] 27)).alloc (.obj true (.map #[] 0))).alloc (.cells true false 5 [.slice none 0 0,.slice none 0 0,.slice none 0 0,.slice none 0 0,.map (some (H.n+1))] 175)) ⟨us,up,ug,ur⟩ true []:=by
  refine⟨k0,?_,Aaa.Bp6 _ _,fun _=>⟨[],MP.get (MP.new (H.alloc (.cells true false 4 [us,up,ug,ur] 27))) (Ath _ (by simp[Acd])),rfl⟩⟩
  rw[Ath _ (by simp[Acd];omega),Ath _ (by simp[Acd])];exact Aaa.Bp6 _ _
 generalize((H.alloc (.cells true false 4 [us,up,ug,ur] 27)).alloc (.obj true (.map #[] 0))).alloc (.cells true false 5 [.slice none 0 0,.slice none 0 0,.slice none 0 0,.slice none 0 0,.map (some (H.n+1))] 175)=K0 at st0 k0 ⊢
 rw[Aah]
 refine Aan (fun k fr K=>∃ok i x9 x10 x21,fr=[.agg #[us,up,ug,ur],ptr H.n 0,.bool false,.int .i64 ((L.s.length:Nat):Int),.int .i64 ((L.p.length:Nat):Int),.int .i64 ((L.g.length:Nat):Int),.int .i64 ((L.r.length:Nat):Int),ptr (H.n+2) 0,.bool ok,x9,x10,undef,undef,undef,undef,undef,undef,.bool false,us,.int .i64 ((L.s.length:Nat):Int),.int .i64 ((i:Nat):Int),x21,undef,undef,undef,undef,undef,undef,undef,undef,undef,undef,undef,undef]∧
  ok=okN (L.s.take i)∧MSt H K ⟨us,up,ug,ur⟩ ok (L.s.take i)∧i≤L.s.length∧k=L.s.length-i) L.s.length
  ⟨true,0,_,_,_,rfl,by simp[okN],st0,by omega,rfl⟩ ?_
 rintro Q' k fr K ⟨ok,i,x9,x10,x21,rfl,hok,hst,hi,rfl⟩ hn hx hret
 by_cases hlt:i<L.s.length
 ·obtain⟨na,ra⟩:=(h0.s.keeps hst.k).at_ hlt
  have h1:(0:Int)≤(i:Int):=by omega
  have h2:(i:Int)<((lenS us:Nat):Int):=by omega
  have h3:(i:Int)<((L.s.length:Nat):Int):=by omega
  have hw:IntKind.i64.wrap ((i:Int)+1)=((i+1:Nat):Int):=by rw[Aae (by omega) (by omega)];simp
  have hlen:=hf.s.2 _ (Ad2 (d:=[]) hlt)
  have ts:=Adi [] hlt
  unfold Akv at ra
  have hs:=Ahb (L.s.take i) (L.s.getD i [])
  rw[←ts]at hs
  cases ok with
  |false=>
   simp(disch:=first|assumption|omega)only[P4,seval,ls,ra,na,Aal,hw]
   refine hn _ _ _ ⟨false,i+1,_,_,_,rfl,?_,hst.no,by omega,rfl⟩ (by omega)
   rw[hs,←hok];rfl
  |true=>
   simp(disch:=first|assumption|omega)only[P4,seval,ls,ra,na,Aal,hw]
   refine Aag (t93 _ _ hlen) ?_
   rintro _ _ ⟨rfl,rfl⟩
   cases hr:Acz (L.s.getD i [])with
   |false=>
    simp(disch:=first|assumption|omega)only[P4,seval,hw]
    refine hn _ _ _ ⟨false,i+1,_,_,_,rfl,?_,hst.no,by omega,rfl⟩ (by omega)
    rw[hs,hr];simp
   |true=>
    simp(disch:=first|assumption|omega)only[P4,seval,hw]
    refine Aag (R:=fun w K'=>w=.bool (!(L.s.take i).contains (L.s.getD i []))∧MSt H K' ⟨us,up,ug,ur⟩ (!(L.s.take i).contains (L.s.getD i [])) (L.s.take i++[L.s.getD i []])) (by obtain⟨w,K',a,b,c,_⟩:=hst.fresh (L.s.getD i []) (x:=.iface 177 (.int .i64 (i:Int))) rfl;exact⟨w,K',a,b,c⟩) ?_
    rintro _ K' ⟨rfl,st'⟩
    rw[←ts]at st'
    cases hc:(L.s.take i).contains (L.s.getD i [])with
    |false=>
     rw[hc]at st'
     simp(disch:=first|assumption|omega)only[P4,seval,hw]
     refine hn _ _ _ ⟨true,i+1,_,_,_,rfl,?_,st',by omega,rfl⟩ (by omega)
     rw[hs,←hok,hr,hc];rfl
    |true=>
     rw[hc]at st'
     simp(disch:=first|assumption|omega)only[P4,seval,hw]
     refine hn _ _ _ ⟨false,i+1,_,_,_,rfl,?_,st',by omega,rfl⟩ (by omega)
     rw[hs,←hok,hr,hc];rfl
 ·have h3:¬(i:Int)<((L.s.length:Nat):Int):=by omega
  simp(disch:=first|assumption|omega)only[P4,seval,ls]
  refine hx 0 _ _ ?_
  have e:L.s.take i=L.s:=List.take_of_length_le (by omega)
  rw[e]at hok hst
  exact hk _ _ ⟨ok,_,_,_,_,_,_,_,_,_,_,_,_,_,_,_,_,_,_,_,_,_,_,_,_,_,rfl,hok,hst⟩
end Go.AM.Fd

namespace Go.AM.Fd
open Nat (reduceAdd reduceEqDiff reduceLT reduceLeDiff reduceMul reduceSub)
open Go.Proofs Go.AM.F
theorem b4(a b c d:Bool):((a&&b)&&(c&&d))=((a&&c)&&(b&&d)):=by cases a<;>cases b<;>cases c<;>cases d<;>rfl
def M2(A:Value)(H:Aaa)(u:V4)(L:Ly)(fr:List Value)(K:Aaa):Prop:=
 ∃ok x9 x10 x11 x12 x13 x14 x15 x16 x17 x18 x19 x20 x21 x22 x23 x24 x25 x26 x27 x28 x29 x30 x31 x32 x33,fr=mF A H.n L ok++[x9,x10,x11,x12,x13,x14,x15,x16,x17,x18,x19,x20,x21,x22,x23,x24,x25,x26,x27,x28,x29,x30,x31,x32,x33]∧ok=(okN (L.s++L.p.map (·.1))&&L.p.all fun x=>inB L.s.length x.2)∧MSt H K u ok (L.s++L.p.map (·.1))
def M3(A:Value)(H:Aaa)(u:V4)(L:Ly)(fr:List Value)(K:Aaa):Prop:=
 ∃ok x9 x10 x11 x12 x13 x14 x15 x16 x17 x18 x19 x20 x21 x22 x23 x24 x25 x26 x27 x28 x29 x30 x31 x32 x33,fr=mF A H.n L ok++[x9,x10,x11,x12,x13,x14,x15,x16,x17,x18,x19,x20,x21,x22,x23,x24,x25,x26,x27,x28,x29,x30,x31,x32,x33]∧ok=(okN (L.s++L.p.map (·.1)++L.g.map (·.1))&&(L.p.all (fun x=>inB L.s.length x.2)&&L.g.all fun x=>inB L.s.length x.2))∧MSt H K u ok (L.s++L.p.map (·.1)++L.g.map (·.1))
set_option maxHeartbeats 2000000 in
theorem may2{H:Aaa}{u:V4}{xs:List RV}{L:Ly}{Q:AQ}{A:Value}{fr:List Value}{K:Aaa}(h:LyR H u xs L)(hf:Af7 L)(hm:M1 A H u L fr K)
 (hk:∀fr K,M2 A H u L fr K→Q .normal fr K):W Tryz.prog 0 (Ae5 1 (Ab5 6 f61.body)) Q fr K:=by
 obtain⟨ok,x9,x10,x11,x12,x13,x14,x15,x16,x17,x18,x19,x20,x21,x22,x23,x24,x25,x26,x27,x28,x29,x30,x31,x32,x33,rfl,hok,hst⟩:=hm
 have lp:=h.p.len
 have ip:=Sl.is h.p
 have gl:=hst.l
 simp only[V4.l]at gl
 simp(disch:=first|assumption|omega)only[f61,Ae5,Ab5,mF,List.cons_append,List.nil_append,P3,seval,Aak,Aat,gl,lp]
 rw[Aah]
 refine Aan (fun k fr K=>∃ok i x11 x12 xc,fr=mF A H.n L ok++[x9,x10,x11,x12,x13,x14,x15,x16,x17,x18,x19,x20,x21,u.p,.int .i64 ((L.p.length:Nat):Int),.int .i64 ((i:Nat):Int),xc,x26,x27,x28,x29,x30,x31,x32,x33]∧
  ok=(okN (nm2 L i)&&al2 L i)∧MSt H K u ok (nm2 L i)∧i≤L.p.length∧k=L.p.length-i) L.p.length
  ⟨ok,0,_,_,_,rfl,by simp[nm2,al2,hok],by simpa[nm2]using hst,by omega,rfl⟩ ?_
 clear hst hok gl
 rintro Q' k fr K ⟨ok,i,x11,x12,xc,rfl,hok,hst,hi,rfl⟩ hn hx hret
 by_cases hlt:i<L.p.length
 ·obtain⟨na,ra⟩:=(h.p.keeps hst.k).at_ hlt
  have hbl:=Sl.bn_le (h.p.keeps hst.k) (by intro e;simp at e;rw[e]at hlt;simp at hlt) (by omega)
  have h1:(0:Int)≤(i:Int):=by omega
  have h2:(i:Int)<((lenS u.p:Nat):Int):=by omega
  have h3:(i:Int)<((L.p.length:Nat):Int):=by omega
  have hw:IntKind.i64.wrap ((i:Int)+1)=((i+1:Nat):Int):=by rw[Aae (by omega) (by have:=hf.p.1;omega)];simp
  have hlen:=hf.p.2 _ (Ad2 (d:=([],0)) hlt)
  have ts:=Adi ([],(0:Int)) hlt
  have hs:okN (nm2 L (i+1))=(okN (nm2 L i)&&(Acz (L.p.getD i ([],0)).1 && !(nm2 L i).contains (L.p.getD i ([],0)).1)):=by
   rw[←Ahb];simp only[nm2,ts,List.map_append,List.map_cons,List.map_nil,List.append_assoc]
  have hn1:nm2 L i++[(L.p.getD i ([],0)).1]=nm2 L (i+1):=by simp only[nm2,ts,List.map_append,List.map_cons,List.map_nil,List.append_assoc]
  have ha:al2 L (i+1)=(al2 L i&&inB L.s.length (L.p.getD i ([],0)).2):=by
   simp only[al2,ts,List.all_append,List.all_cons,List.all_nil,Bool.and_true,Bool.and_assoc]
  generalize L.p.getD i ([],0)=y at*
  have hk1:=hst.k.n
  have o1:one1 (Value.int .i64 y.2)=True:=by simp[one1,Aax]
  have o2:one1 (Value.string ⟨y.1.toArray⟩)=True:=by simp[one1,Abe]
  have st1:=hst.keeps ((Aac.refl K).alloc (.cells true false 2 [.string ⟨y.1.toArray⟩,.int .i64 y.2] 89))
  have gv:=Aaa.Bp6 K (.cells true false 2 [.string ⟨y.1.toArray⟩,.int .i64 y.2] 89)
  cases ok with
  |false=>
   simp(disch:=first|assumption|omega|(simp only[LN]<;>omega)|(simp(disch:=first|assumption|omega|(simp only[LN]<;>omega))only[Aab,Aad];assumption))only[P4,seval,mF,List.cons_append,List.nil_append,lp,ra,na,Aai,hw,o1,o2]
   refine hn _ _ _ ⟨false,i+1,_,_,_,rfl,?_,st1.no,by omega,rfl⟩ (by omega)
   rw[hs,ha,b4,←hok];rfl
  |true=>
   simp(disch:=first|assumption|omega|(simp only[LN]<;>omega)|(simp(disch:=first|assumption|omega|(simp only[LN]<;>omega))only[Aab,Aad];assumption))only[P4,seval,mF,List.cons_append,List.nil_append,lp,ra,na,Aai,hw,o1,o2]
   obtain⟨K1,hK1⟩:∃X,X=K.alloc (.cells true false 2 [.string ⟨y.1.toArray⟩,.int .i64 y.2] 89):=⟨_,rfl⟩
   have n1:K1.n=K.n+1:=by rw[hK1];rfl
   rw[←hK1]at st1 gv ⊢
   refine Aaw (t93 _ _ hlen) ?_
   cases hr:Acz y.1 with
   |false=>
    simp(disch:=first|assumption|omega)only[P4,seval,hw]
    refine hn _ _ _ ⟨false,i+1,_,_,_,rfl,?_,st1.no,by omega,rfl⟩ (by omega)
    rw[hs,ha,hr];simp
   |true=>
    simp(disch:=first|assumption|omega)only[P4,seval,gv,hw]
    refine Aag (R:=fun w K'=>w=.bool (!(nm2 L i).contains y.1)∧MSt H K' u (!(nm2 L i).contains y.1) (nm2 L i++[y.1])∧K1.n≤K'.n∧K'.get K.n=K1.get K.n) (by
     obtain⟨w,K',a,b,c,d,e⟩:=st1.fresh y.1 (x:=.iface 178 (.int .i64 (i:Int))) rfl
     exact⟨w,K',a,b,c,d,e _ (by have:=Aaa.Bp9 hst.b;omega) (by omega)⟩) ?_
    rintro _ K' ⟨rfl,st',n2,g2⟩
    rw[gv]at g2
    rw[hn1]at st'
    cases hc:(nm2 L i).contains y.1 with
    |true=>
     rw[hc]at st'
     simp(disch:=first|assumption|omega)only[P4,seval,hw]
     refine hn _ _ _ ⟨false,i+1,_,_,_,rfl,?_,st',by omega,rfl⟩ (by omega)
     rw[hs,ha,hr,hc];simp
    |false=>
     rw[hc]at st'
     simp(disch:=first|assumption|omega)only[P4,seval,g2,hw]
     have hil:IL (K'.alloc (.cells true false 1 [.int .i64 y.2] 3)) (slc K'.n 0 1 1) [y.2]:=
      ⟨⟨_,_,rfl⟩,by simp[Agw],by rw[Ach rfl rfl];rfl⟩
     refine Aag (t95 _ hil (by simp)) ?_
     rintro _ _ ⟨rfl,rfl⟩
     have st2:=st'.keeps ((Aac.refl K').alloc (.cells true false 1 [.int .i64 y.2] 3))
     cases hb:inB L.s.length y.2 with
     |false=>
      have e:[y.2].all (inB (L.s.length:Nat))=false:=by simp[hb]
      simp(disch:=first|assumption|omega)only[P4,seval,e,hw]
      refine hn _ _ _ ⟨false,i+1,_,_,_,rfl,?_,st2.no,by omega,rfl⟩ (by omega)
      rw[ha,hb];simp
     |true=>
      have e:[y.2].all (inB (L.s.length:Nat))=true:=by simp[hb]
      simp(disch:=first|assumption|omega)only[P4,seval,e,hw]
      refine hn _ _ _ ⟨true,i+1,_,_,_,rfl,?_,st2,by omega,rfl⟩ (by omega)
      rw[hs,ha,b4,←hok,hr,hc,hb];rfl
 ·have h3:¬(i:Int)<((L.p.length:Nat):Int):=by omega
  simp(disch:=first|assumption|omega)only[P4,seval,mF,List.cons_append,List.nil_append,lp]
  refine hx 2 _ _ ?_
  have e:L.p.take i=L.p:=List.take_of_length_le (by omega)
  simp only[nm2,al2,e]at hok hst
  exact hk _ _ ⟨ok,_,_,_,_,_,_,_,_,_,_,_,_,_,_,_,_,_,_,_,_,_,_,_,_,_,rfl,hok,hst⟩
set_option maxHeartbeats 2000000 in
theorem may3{H:Aaa}{u:V4}{xs:List RV}{L:Ly}{Q:AQ}{A:Value}{fr:List Value}{K:Aaa}(h:LyR H u xs L)(hf:Af7 L)(hm:M2 A H u L fr K)
 (hk:∀fr K,M3 A H u L fr K→Q .normal fr K):W Tryz.prog 0 (Ae5 1 (Ab5 7 f61.body)) Q fr K:=by
 obtain⟨ok,x9,x10,x11,x12,x13,x14,x15,x16,x17,x18,x19,x20,x21,x22,x23,x24,x25,x26,x27,x28,x29,x30,x31,x32,x33,rfl,hok,hst⟩:=hm
 have lp:=h.g.len
 have ip:=Sl.is h.g
 have gl:=hst.l
 simp only[V4.l]at gl
 simp(disch:=first|assumption|omega)only[f61,Ae5,Ab5,mF,List.cons_append,List.nil_append,P3,seval,Aak,Aat,gl,lp]
 rw[Aah]
 refine Aan (fun k fr K=>∃ok i x13 x14 xc,fr=mF A H.n L ok++[x9,x10,x11,x12,x13,x14,x15,x16,x17,x18,x19,x20,x21,x22,x23,x24,x25,u.g,.int .i64 ((L.g.length:Nat):Int),.int .i64 ((i:Nat):Int),xc,x30,x31,x32,x33]∧
  ok=(okN (nm3 L i)&&al3 L i)∧MSt H K u ok (nm3 L i)∧i≤L.g.length∧k=L.g.length-i) L.g.length
  ⟨ok,0,_,_,_,rfl,by simp[nm3,al3,hok],by simpa[nm3]using hst,by omega,rfl⟩ ?_
 clear hst hok gl
 rintro Q' k fr K ⟨ok,i,x13,x14,xc,rfl,hok,hst,hi,rfl⟩ hn hx hret
 by_cases hlt:i<L.g.length
 ·obtain⟨na,ra⟩:=(h.g.keeps hst.k).at_ hlt
  have hbl:=Sl.bn_le (h.g.keeps hst.k) (by intro e;simp at e;rw[e]at hlt;simp at hlt) (by omega)
  have h1:(0:Int)≤(i:Int):=by omega
  have h2:(i:Int)<((lenS u.g:Nat):Int):=by omega
  have h3:(i:Int)<((L.g.length:Nat):Int):=by omega
  have hw:IntKind.i64.wrap ((i:Int)+1)=((i+1:Nat):Int):=by rw[Aae (by omega) (by have:=hf.g.1;omega)];simp
  have hlen:=hf.g.2 _ (Ad2 (d:=([],0)) hlt)
  have ts:=Adi ([],(0:Int)) hlt
  have hs:okN (nm3 L (i+1))=(okN (nm3 L i)&&(Acz (L.g.getD i ([],0)).1 && !(nm3 L i).contains (L.g.getD i ([],0)).1)):=by
   rw[←Ahb];simp only[nm3,ts,List.map_append,List.map_cons,List.map_nil,List.append_assoc]
  have hn1:nm3 L i++[(L.g.getD i ([],0)).1]=nm3 L (i+1):=by simp only[nm3,ts,List.map_append,List.map_cons,List.map_nil,List.append_assoc]
  have ha:al3 L (i+1)=(al3 L i&&inB L.s.length (L.g.getD i ([],0)).2):=by
   simp only[al3,ts,List.all_append,List.all_cons,List.all_nil,Bool.and_true,Bool.and_assoc]
  generalize L.g.getD i ([],0)=y at*
  have hk1:=hst.k.n
  have o1:one1 (Value.int .i64 y.2)=True:=by simp[one1,Aax]
  have o2:one1 (Value.string ⟨y.1.toArray⟩)=True:=by simp[one1,Abe]
  have st1:=hst.keeps ((Aac.refl K).alloc (.cells true false 2 [.string ⟨y.1.toArray⟩,.int .i64 y.2] 90))
  have gv:=Aaa.Bp6 K (.cells true false 2 [.string ⟨y.1.toArray⟩,.int .i64 y.2] 90)
  cases ok with
  |false=>
   simp(disch:=first|assumption|omega|(simp only[LN]<;>omega)|(simp(disch:=first|assumption|omega|(simp only[LN]<;>omega))only[Aab,Aad];assumption))only[P4,seval,mF,List.cons_append,List.nil_append,lp,ra,na,Aai,hw,o1,o2]
   refine hn _ _ _ ⟨false,i+1,_,_,_,rfl,?_,st1.no,by omega,rfl⟩ (by omega)
   rw[hs,ha,b4,←hok];rfl
  |true=>
   simp(disch:=first|assumption|omega|(simp only[LN]<;>omega)|(simp(disch:=first|assumption|omega|(simp only[LN]<;>omega))only[Aab,Aad];assumption))only[P4,seval,mF,List.cons_append,List.nil_append,lp,ra,na,Aai,hw,o1,o2]
   obtain⟨K1,hK1⟩:∃X,X=K.alloc (.cells true false 2 [.string ⟨y.1.toArray⟩,.int .i64 y.2] 90):=⟨_,rfl⟩
   have n1:K1.n=K.n+1:=by rw[hK1];rfl
   rw[←hK1]at st1 gv ⊢
   refine Aaw (t93 _ _ hlen) ?_
   cases hr:Acz y.1 with
   |false=>
    simp(disch:=first|assumption|omega)only[P4,seval,hw]
    refine hn _ _ _ ⟨false,i+1,_,_,_,rfl,?_,st1.no,by omega,rfl⟩ (by omega)
    rw[hs,ha,hr];simp
   |true=>
    simp(disch:=first|assumption|omega)only[P4,seval,gv,hw]
    refine Aag (R:=fun w K'=>w=.bool (!(nm3 L i).contains y.1)∧MSt H K' u (!(nm3 L i).contains y.1) (nm3 L i++[y.1])∧K1.n≤K'.n∧K'.get K.n=K1.get K.n) (by
     obtain⟨w,K',a,b,c,d,e⟩:=st1.fresh y.1 (x:=.iface 180 (.int .i64 (i:Int))) rfl
     exact⟨w,K',a,b,c,d,e _ (by have:=Aaa.Bp9 hst.b;omega) (by omega)⟩) ?_
    rintro _ K' ⟨rfl,st',n2,g2⟩
    rw[gv]at g2
    rw[hn1]at st'
    cases hc:(nm3 L i).contains y.1 with
    |true=>
     rw[hc]at st'
     simp(disch:=first|assumption|omega)only[P4,seval,hw]
     refine hn _ _ _ ⟨false,i+1,_,_,_,rfl,?_,st',by omega,rfl⟩ (by omega)
     rw[hs,ha,hr,hc];simp
    |false=>
     rw[hc]at st'
     simp(disch:=first|assumption|omega)only[P4,seval,g2,hw]
     have hil:IL (K'.alloc (.cells true false 1 [.int .i64 y.2] 3)) (slc K'.n 0 1 1) [y.2]:=
      ⟨⟨_,_,rfl⟩,by simp[Agw],by rw[Ach rfl rfl];rfl⟩
     refine Aag (t95 _ hil (by simp)) ?_
     rintro _ _ ⟨rfl,rfl⟩
     have st2:=st'.keeps ((Aac.refl K').alloc (.cells true false 1 [.int .i64 y.2] 3))
     cases hb:inB L.s.length y.2 with
     |false=>
      have e:[y.2].all (inB (L.s.length:Nat))=false:=by simp[hb]
      simp(disch:=first|assumption|omega)only[P4,seval,e,hw]
      refine hn _ _ _ ⟨false,i+1,_,_,_,rfl,?_,st2.no,by omega,rfl⟩ (by omega)
      rw[ha,hb];simp
     |true=>
      have e:[y.2].all (inB (L.s.length:Nat))=true:=by simp[hb]
      simp(disch:=first|assumption|omega)only[P4,seval,e,hw]
      refine hn _ _ _ ⟨true,i+1,_,_,_,rfl,?_,st2,by omega,rfl⟩ (by omega)
      rw[hs,ha,b4,←hok,hr,hc,hb];rfl
 ·have h3:¬(i:Int)<((L.g.length:Nat):Int):=by omega
  simp(disch:=first|assumption|omega)only[P4,seval,mF,List.cons_append,List.nil_append,lp]
  refine hx 4 _ _ ?_
  have e:L.g.take i=L.g:=List.take_of_length_le (by omega)
  simp only[nm3,al3,e]at hok hst
  exact hk _ _ ⟨ok,_,_,_,_,_,_,_,_,_,_,_,_,_,_,_,_,_,_,_,_,_,_,_,_,_,rfl,hok,hst⟩
end Go.AM.Fd

namespace Go.AM.Fd
open Nat (reduceAdd reduceEqDiff reduceLT reduceLeDiff reduceMul reduceSub)
open Go.Proofs Go.AM.F
def M4(A:Value)(H:Aaa)(u:V4)(L:Ly)(fr:List Value)(K:Aaa):Prop:=
 ∃ok x9 x10 x11 x12 x13 x14 x15 x16 x17 x18 x19 x20 x21 x22 x23 x24 x25 x26 x27 x28 x29 x30 x31 x32 x33,fr=mF A H.n L ok++[x9,x10,x11,x12,x13,x14,x15,x16,x17,x18,x19,x20,x21,x22,x23,x24,x25,x26,x27,x28,x29,x30,x31,x32,x33]∧ok=(okN (Acr L)&&(L.p.all (fun x=>inB L.s.length x.2)&&L.g.all (fun x=>inB L.s.length x.2)&&L.r.all (roB L)))∧Aac H K
set_option maxHeartbeats 4000000 in
theorem may4{H:Aaa}{u:V4}{xs:List RV}{L:Ly}{Q:AQ}{A:Value}{fr:List Value}{K:Aaa}(h:LyR H u xs L)(hf:Af7 L)(hm:M3 A H u L fr K)
 (hk:∀fr K,M4 A H u L fr K→Q .normal fr K):W Tryz.prog 0 (Ae5 1 (Ab5 8 f61.body)) Q fr K:=by
 obtain⟨ok,x9,x10,x11,x12,x13,x14,x15,x16,x17,x18,x19,x20,x21,x22,x23,x24,x25,x26,x27,x28,x29,x30,x31,x32,x33,rfl,hok,hst⟩:=hm
 have lp:=h.r.len
 have el:=h.rlen
 rw[el]at lp
 have ip:=Sl.is h.r
 have gl:=hst.l
 simp only[V4.l]at gl
 simp(disch:=first|assumption|omega)only[f61,Ae5,Ab5,mF,List.cons_append,List.nil_append,P3,seval,Aak,Aat,gl,lp]
 rw[Aah]
 refine Aan (fun k fr K=>∃ok i x15 x16 xc,fr=mF A H.n L ok++[x9,x10,x11,x12,x13,x14,x15,x16,x17,x18,x19,x20,x21,x22,x23,x24,x25,x26,x27,x28,x29,u.r,.int .i64 ((L.r.length:Nat):Int),.int .i64 ((i:Nat):Int),xc]∧
  ok=(okN (nm4 L i)&&al4 L i)∧MSt H K u ok (nm4 L i)∧i≤L.r.length∧k=L.r.length-i) L.r.length
  ⟨ok,0,_,_,_,rfl,by simp[nm4,al4,hok],by simpa[nm4]using hst,by omega,rfl⟩ ?_
 clear hst hok gl
 rintro Q' k fr K ⟨ok,i,x15,x16,xc,rfl,hok,hst,hi,rfl⟩ hn hx hret
 by_cases hlt:i<L.r.length
 ·have hlt':i<xs.length:=by omega
  obtain⟨na,ra⟩:=RL.at_ (h.r.keeps hst.k) hlt'
  obtain⟨xok,xr⟩:=h.rat hlt
  have hbl:=Sl.bn_le (h.r.keeps hst.k) (by intro e;simp at e;rw[e]at hlt';simp at hlt') (by omega)
  have h1:(0:Int)≤(i:Int):=by omega
  have h2:(i:Int)<((lenS u.r:Nat):Int):=by omega
  have h3:(i:Int)<((L.r.length:Nat):Int):=by omega
  have hw:IntKind.i64.wrap ((i:Int)+1)=((i+1:Nat):Int):=by rw[Aae (by omega) (by have:=hf.r.1;omega)];simp
  have hlen:=hf.r.2 _ (Ad2 (d:=rv0.r) hlt)
  have ts:=Adi rv0.r hlt
  rw[←xr]at ts hlen
  have hs:okN (nm4 L (i+1))=(okN (nm4 L i)&&(Acz (xs.getD i rv0).r.n&& !(nm4 L i).contains (xs.getD i rv0).r.n)):=by
   rw[←Ahb];simp only[nm4,ts,List.map_append,List.map_cons,List.map_nil,List.append_assoc]
  have hn1:nm4 L i++[(xs.getD i rv0).r.n]=nm4 L (i+1):=by simp only[nm4,ts,List.map_append,List.map_cons,List.map_nil,List.append_assoc]
  have ha:al4 L (i+1)=(al4 L i&&roB L (xs.getD i rv0).r):=by
   simp only[al4,ts,List.all_append,List.all_cons,List.all_nil,Bool.and_true,Bool.and_assoc]
  clear ts xr
  generalize xs.getD i rv0=y at*
  have hk1:=hst.k.n
  simp only[RV.row]at ra
  have iP:=Sl.is xok.p
  have iQ:=Sl.is xok.q
  have iO:=Sl.is xok.o
  have iF:=Sl.is xok.f
  have lP:=xok.p.len
  have lO:=xok.o.len
  have o1:one1 (Value.int .i64 y.r.g)=True:=by simp[one1,Aax]
  have o2:one1 (Value.string ⟨y.r.n.toArray⟩)=True:=by simp[one1,Abe]
  have o3:=Aas iP
  have o4:=Aas iQ
  have o5:=Aas iO
  have o6:=Aas iF
  obtain⟨row,hrow⟩:∃row,row=[.string ⟨y.r.n.toArray⟩,.int .i64 y.r.g,y.vp,y.vq,y.vo,y.vf]:=⟨_,rfl⟩
  have st1:=hst.keeps ((Aac.refl K).alloc (.cells true false 6 row 87))
  have gv:=Aaa.Bp6 K (.cells true false 6 row 87)
  subst hrow
  have fin:∀{X:Aaa} {x15 x16 xc:Value},MSt H X u false (nm4 L (i+1))→(okN (nm4 L (i+1))&&al4 L (i+1))=false→Q' .normal (mF A H.n L false++[x9,x10,x11,x12,x13,x14,x15,x16,x17,x18,x19,x20,x21,x22,x23,x24,x25,x26,x27,x28,x29,u.r,.int .i64 ((L.r.length:Nat):Int),.int .i64 ((i+1:Nat):Int),xc]) X:=
   fun hX he=>hn _ _ _ ⟨false,i+1,_,_,_,rfl,he.symm,hX,by omega,rfl⟩ (by omega)
  simp only[mF,List.cons_append,List.nil_append]at fin
  cases ok with
  |false=>
   simp(disch:=first|assumption|omega|(simp only[LN]<;>omega)|(simp(disch:=first|assumption|omega|(simp only[LN]<;>omega))only[Aab,Aad];assumption))only[P4,seval,mF,List.cons_append,List.nil_append,lp,ra,na,Aai,hw,o1,o2,o3,o4,o5,o6]
   refine fin st1.no ?_
   rw[hs,ha,b4,←hok];rfl
  |true=>
   simp(disch:=first|assumption|omega|(simp only[LN]<;>omega)|(simp(disch:=first|assumption|omega|(simp only[LN]<;>omega))only[Aab,Aad];assumption))only[P4,seval,mF,List.cons_append,List.nil_append,lp,ra,na,Aai,hw,o1,o2,o3,o4,o5,o6]
   obtain⟨K1,hK1⟩:∃X,X=K.alloc (.cells true false 6 [.string ⟨y.r.n.toArray⟩,.int .i64 y.r.g,y.vp,y.vq,y.vo,y.vf] 87):=⟨_,rfl⟩
   have n1:K1.n=K.n+1:=by rw[hK1];rfl
   rw[←hK1]at st1 gv ⊢
   refine Aaw (t93 _ _ hlen.1) ?_
   cases hr:Acz y.r.n with
   |false=>
    simp(disch:=first|assumption|omega)only[P4,seval,hw]
    refine fin st1.no ?_
    rw[hs,ha,hr];simp
   |true=>
   simp(disch:=first|assumption|omega)only[P4,seval,gv,hw]
   refine Aag (R:=fun w K'=>w=.bool (!(nm4 L i).contains y.r.n)∧MSt H K' u (!(nm4 L i).contains y.r.n) (nm4 L i++[y.r.n])∧K1.n≤K'.n∧K'.get K.n=K1.get K.n) (by
    obtain⟨w,K',a,b,c,d,e⟩:=st1.fresh y.r.n (x:=.iface 181 (.int .i64 (i:Int))) rfl
    exact⟨w,K',a,b,c,d,e _ (by have:=Aaa.Bp9 hst.b;omega) (by omega)⟩) ?_
   rintro _ K' ⟨rfl,st',n2,g2⟩
   rw[gv]at g2
   rw[hn1]at st'
   cases hc:(nm4 L i).contains y.r.n with
   |true=>
    rw[hc]at st'
    simp(disch:=first|assumption|omega)only[P4,seval,hw]
    refine fin st' ?_
    rw[hs,ha,hr,hc];simp
   |false=>
   rw[hc]at st'
   simp(disch:=first|assumption|omega)only[P4,seval,g2,hw]
   have hil:IL (K'.alloc (.cells true false 1 [.int .i64 y.r.g] 3)) (slc K'.n 0 1 1) [y.r.g]:=
    ⟨⟨_,_,rfl⟩,by simp[Agw],by rw[Ach rfl rfl];rfl⟩
   refine Aag (t95 _ hil (by simp)) ?_
   have st2:=st'.keeps ((Aac.refl K').alloc (.cells true false 1 [.int .i64 y.r.g] 3))
   have g3:=((Aac.refl K').alloc (.cells true false 1 [.int .i64 y.r.g] 3)).at_ g2
   obtain⟨K2,hK2⟩:∃X,X=K'.alloc (.cells true false 1 [.int .i64 y.r.g] 3):=⟨_,rfl⟩
   rw[←hK2]at st2 g3 ⊢
   rintro _ X ⟨rfl,hX⟩
   rw[hX]
   have xk:=xok.keeps st2.k
   cases hb:inB L.g.length y.r.g with
   |false=>
    have e:[y.r.g].all (inB (L.g.length:Nat))=false:=by simp[hb]
    simp(disch:=first|assumption|omega)only[P4,seval,e,hw]
    refine fin st2.no ?_
    rw[ha];simp[roB,hb]
   |true=>
   have e:[y.r.g].all (inB (L.g.length:Nat))=true:=by simp[hb]
   by_cases hp:y.r.path.length≤16
   rotate_left
   ·have hp':¬((y.r.path.length:Nat):Int)≤(16:Int):=by omega
    simp(disch:=first|assumption|omega)only[P4,seval,e,g3,lP,hw]
    refine fin st2.no ?_
    rw[ha];simp[roB,hp]
   have hp':((y.r.path.length:Nat):Int)≤(16:Int):=by omega
   by_cases ho:y.r.ov.length≤16
   rotate_left
   ·have ho':¬((y.r.ov.length:Nat):Int)≤(16:Int):=by omega
    simp(disch:=first|assumption|omega)only[P4,seval,e,g3,lP,lO,hw]
    refine fin st2.no ?_
    rw[ha];simp[roB,ho]
   have ho':((y.r.ov.length:Nat):Int)≤(16:Int):=by omega
   simp(disch:=first|assumption|omega)only[P4,seval,e,g3,lP,lO,hw]
   refine Aaw (t95 _ xk.p (by omega)) ?_
   cases hbp:y.r.path.all (inB (L.s.length:Nat))with
   |false=>
    simp(disch:=first|assumption|omega)only[P4,seval,hw]
    refine fin st2.no ?_
    rw[ha];simp only[roB,hbp];simp
   |true=>
   simp(disch:=first|assumption|omega)only[P4,seval,g3,hw]
   refine Aaw (t95 _ xk.o (by omega)) ?_
   cases hbo:y.r.ov.all (inB (L.s.length:Nat))with
   |false=>
    simp(disch:=first|assumption|omega)only[P4,seval,hw]
    refine fin st2.no ?_
    rw[ha];simp only[roB,hbo];simp
   |true=>
   simp(disch:=first|assumption|omega)only[P4,seval,g3,hw]
   refine Aaw (t96 _ xk.q hlen.2.2.1) ?_
   cases hbq:(decide (y.r.pts.length≤16)&&y.r.pts.all fun x=>inB (L.p.length:Nat) x.1)with
   |false=>
    simp(disch:=first|assumption|omega)only[P4,seval,hw]
    refine fin st2.no ?_
    rw[ha];simp only[roB,Ah2,hbq];simp
   |true=>
   simp(disch:=first|assumption|omega)only[P4,seval,g3,hw]
   refine Aaw (t96 _ xk.f hlen.2.2.2.2) ?_
   cases hbf:(decide (y.r.fl.length≤16)&&y.r.fl.all fun x=>inB (L.p.length:Nat) x.1)with
   |false=>
    simp(disch:=first|assumption|omega)only[P4,seval,hw]
    refine fin st2.no ?_
    rw[ha];simp only[roB,Ah2,hbf];simp
   |true=>
    simp(disch:=first|assumption|omega)only[P4,seval,hw]
    refine hn _ _ _ ⟨true,i+1,_,_,_,rfl,?_,st2,by omega,rfl⟩ (by omega)
    have er:roB L y.r=true:=by simp only[roB,Ah2,hb,hp,ho,hbp,hbo,hbq,hbf];rfl
    rw[hs,ha,b4,←hok,hr,hc,er];rfl
 ·have h3:¬(i:Int)<((L.r.length:Nat):Int):=by omega
  simp(disch:=first|assumption|omega)only[P4,seval,mF,List.cons_append,List.nil_append,lp]
  refine hx 6 _ _ ?_
  have e:L.r.take i=L.r:=List.take_of_length_le (by omega)
  simp only[nm4,al4,e]at hok hst
  exact hk _ _ ⟨ok,_,_,_,_,_,_,_,_,_,_,_,_,_,_,_,_,_,_,_,_,_,_,_,_,_,rfl,hok,hst.k⟩
set_option maxHeartbeats 1000000 in
theorem t61{H:Aaa}{u:V4}{xs:List RV}{L:Ly}(h:LyR H u xs L)(hf:Af7 L):∃w H',Aau Tryz.prog 0 61 [.agg u.l.toArray] H w H'∧w=.bool (Afc L)∧H'=H:=by
 refine gcb ?_
 refine Aaq Azy A98 ?_
 intro Q hq1 hq2
 cases hfu:Agy L with
 |true=>
  have ls:=h.s.len
  have lp:=h.p.len
  have lg:=h.g.len
  have lr:=h.r.len
  have er:=h.rlen
  have is:=Sl.is h.s
  have ip:=Sl.is h.p
  have ig:=Sl.is h.g
  have ir:=Sl.is h.r
  have os:=Sl.one h.s
  have op:=Sl.one h.p
  have og:=Sl.one h.g
  have or:=Sl.one h.r
  have hm:Afc L=false:=by simp[Afc,hfu]
  rw[hm]at hq2
  simp only[Agy,Bool.or_eq_true,decide_eq_true_eq]at hfu
  obtain⟨us,up,ug,ur⟩:=u
  simp only[V4.l]at*
  have k1:=(Aac.refl H).alloc (.cells true false 4 [us,up,ug,ur] 27)
  by_cases c1:(64:Int)<((L.s.length:Nat):Int)
  ·simp(disch:=first|assumption|omega)only[f61,P4,seval,ls,lp,lg,lr,er,os,op,og,or]
   exact hq2 _ _ ⟨_,rfl,rfl,k1⟩
  by_cases c2:(32:Int)<((L.p.length:Nat):Int)
  ·simp(disch:=first|assumption|omega)only[f61,P4,seval,ls,lp,lg,lr,er,os,op,og,or]
   exact hq2 _ _ ⟨_,rfl,rfl,k1⟩
  by_cases c3:(32:Int)<((L.g.length:Nat):Int)
  ·simp(disch:=first|assumption|omega)only[f61,P4,seval,ls,lp,lg,lr,er,os,op,og,or]
   exact hq2 _ _ ⟨_,rfl,rfl,k1⟩
  have c4:(64:Int)<((L.r.length:Nat):Int):=by omega
  simp(disch:=first|assumption|omega)only[f61,P4,seval,ls,lp,lg,lr,er,os,op,og,or]
  exact hq2 _ _ ⟨_,rfl,rfl,k1⟩
 |false=>
  refine Acv 6 (M1 (.agg u.l.toArray) H u L) (by kernel_rfl) (fun Q' a _ _=>may1 h hf hfu a) (fun fr K m=>?_)
  refine Acv 1 (M2 (.agg u.l.toArray) H u L) (by kernel_rfl) (fun Q' a _ _=>may2 h hf m a) (fun fr K m=>?_)
  refine Acv 1 (M3 (.agg u.l.toArray) H u L) (by kernel_rfl) (fun Q' a _ _=>may3 h hf m a) (fun fr K m=>?_)
  refine Acv 1 (M4 (.agg u.l.toArray) H u L) (by kernel_rfl) (fun Q' a _ _=>may4 h hf m a) (fun fr K m=>?_)
  obtain⟨ok,x9,x10,x11,x12,x13,x14,x15,x16,x17,x18,x19,x20,x21,x22,x23,x24,x25,x26,x27,x28,x29,x30,x31,x32,x33,rfl,hok,hst⟩:=m
  simp(disch:=first|assumption|omega)only[f61,Ab5,mF,List.cons_append,List.nil_append,P4,seval]
  refine hq2 _ _ ⟨_,rfl,?_,hst⟩
  rw[Afc,hfu,←hok];rfl
end Go.AM.Fd

namespace Go.AM
structure OW (e esz:Nat) (H K:Aaa) (v:Value) (rows:List (List Value)):Prop where
 ap:AP K e esz v rows.length rows.flatten
 r:∀r∈rows,r.length=esz
 k:Aac H K
 f:Acy H.n v
section
variable {e esz:Nat} {H K K':Aaa} {v v':Value} {rows rows2:List (List Value)}
theorem OW.sl(h:OW e esz H K v rows):Sl K esz v rows:=h.ap.sl h.r rfl
theorem OW.keeps(h:OW e esz H K v rows)(k:Aac K K'):OW e esz H K' v rows:=⟨h.ap.keeps k,h.r,h.k.trans k,h.f⟩
theorem OW.base{H0:Aaa}(h:OW e esz H K v rows)(k:Aac H0 H):OW e esz H0 K v rows:=⟨h.ap,h.r,k.trans h.k,fun b hb=>Nat.le_trans k.n (h.f b hb)⟩
theorem OW.nil(e esz:Nat)(k:Aac H K):OW e esz H K (.slice none 0 0) []:=⟨.inl ⟨rfl,rfl,rfl⟩,by simp,k,fun b hb=>by cases hb⟩
theorem OW.is(h:OW e esz H K v rows):isS v=true:=by obtain⟨a,rfl⟩:=h.ap.shape;rfl
theorem OW.one(h:OW e esz H K v rows):v.oneCell'=true:=by obtain⟨a,rfl⟩:=h.ap.shape;rfl
theorem OW.len(h:OW e esz H K v rows):lenS v=rows.length:=by obtain⟨a,rfl⟩:=h.ap.shape;rfl
theorem OW.grow(h:OW e esz H K v rows)(a:AP K' e esz v' (rows.length+rows2.length) (rows.flatten++rows2.flatten))(hr:∀r∈rows2,r.length=esz)(c:Chg (Ahm v) K K')(hb:blk v'=blk v∨blk v'=some K.n):OW e esz H K' v' (rows++rows2):=by
 refine⟨by rw[List.length_append,List.flatten_append];exact a,fun r hm=>?_,h.k.Bqa c (fun x hx=>h.f x (Abo.1 hx)),fun b hb'=>?_⟩
 ·rcases List.mem_append.1 hm with hm|hm
  ·exact h.r r hm
  ·exact hr r hm
 ·rcases hb with e1|e1
  ·exact h.f b (by rw[←e1];exact hb')
  ·rw[e1]at hb';cases hb';exact h.k.n
theorem Sl.one1{row:List Value}{b:Nat}{own room:Bool}(hb:b=K.n)(hl:row.length=esz):Sl (K.alloc (.cells own room esz row e)) esz (slc b 0 1 1) [row]:=
 ⟨⟨_,_,rfl⟩,by simp[hl],by rw[Ach hb (by simpa using hl)];simp⟩
theorem OW.pre{i:Nat}{kd:IntKind}(h:OW e esz H K v rows)(hi:i≤rows.length):∃w,Aam (.slsl esz v none (some (.int kd (i:Nat))) none) K=some (w,K)∧Sl K esz w (rows.take i):=by
 have hr:∀r∈rows.take i,r.length=esz:=fun r hm=>h.r r (List.mem_of_mem_take hm)
 rcases h.ap with⟨rfl,h1,h2⟩|⟨b,room,rfl,h1,h2⟩
 ·have:rows=[]:=List.eq_nil_of_length_eq_zero h1
  subst this
  have:i=0:=by simpa using hi
  subst this
  exact⟨_,Ad4 ⟨0,0,0,Abg 0 0,Adf kd 0 0 0 (Nat.le_refl _),Abg 0 0⟩,Sl.nil _ _⟩
 ·refine⟨_,Am6 h2 (Abg _ _) (Adf kd i rows.length rows.length hi) (Abg 0 i),⟨⟨_,_,by rw[List.length_take,Nat.min_eq_left hi,Nat.sub_zero];rfl⟩,hr,?_⟩⟩
  have hf:rows.flatten.length=rows.length*esz:=Aco h.r
  have hle:i*esz≤rows.length*esz:=Nat.mul_le_mul_right _ hi
  simp only[Aa6,slc,h2,Nat.zero_mul,Nat.add_zero,Nat.zero_add,Nat.sub_zero]
  rw[if_pos (by omega),List.drop_zero]
  congr 1
  have e:rows.flatten=(rows.take i).flatten++(rows.drop i).flatten:=by rw[←List.flatten_append,List.take_append_drop]
  have hl:(rows.take i).flatten.length=i*esz:=by rw[Aco hr,List.length_take,Nat.min_eq_left hi]
  rw[e,←hl,List.take_left]
end
section
variable {P:Program} {ng:Nat} {KF:List Value→Aaa→Prop} {fr tm:List Value} {tr:List TE} {e esz b:Nat} {H K:Aaa} {s x:Value} {rows rows2:List (List Value)}
theorem OW.appR{d:D}{r:List Aa5}(h:OW e esz H K s rows)(hx:Sl K esz x rows2)(hs:(rows.length+rows2.length)*b≤140737488355328∧rows.length+rows2.length≤140737488355328)
 (hk:∀v' K',OW e esz H K' v' (rows++rows2)→Chg (Ahm s) K K'→RW P ng r (d.frame v' fr) (d.temps v' tm) K' KF):goR P ng (Aam (.app e esz b s x) K) d r fr tm KF:=
 Bhg h.ap hx.sh hx.el (Aco hx.row) hs (fun v' K' a c hb=>hk v' K' (h.grow a hx.row c hb) c)
theorem OW.appD{d:D}{r:List (Aa5×List Nat)}(h:OW e esz H K s rows)(hx:Sl K esz x rows2)(hs:(rows.length+rows2.length)*b≤140737488355328∧rows.length+rows2.length≤140737488355328)
 (hk:∀v' K',OW e esz H K' v' (rows++rows2)→Chg (Ahm s) K K'→RD P ng r (d.frame v' fr) (d.temps v' tm) K' (tr++[⟨3,[],K,K'⟩]) KF):goD P ng (.app e esz b s x) (Aam (.app e esz b s x) K) d [] r fr tm K tr KF:=
 A1m h.ap hx.sh hx.el (Aco hx.row) hs (fun v' K' a c hb=>hk v' K' (h.grow a hx.row c hb) c)
end
end Go.AM

namespace Go.AM.Fd
open Nat (reduceAdd reduceEqDiff reduceLT reduceLeDiff reduceMul reduceSub)
open Go.Proofs Go.AM.F
theorem t77{H:Aaa}{u:V4}{xs:List RV}{L:Ly}(h:LyR H u xs L):∃w H',Aau Tryz.prog 0 77 [.agg u.l.toArray] H w H'∧w=.bool (Agy L)∧H'=H:=by
 refine gcb ?_
 refine Aaq Bad Bjn ?_
 intro Q hq1 hq2
 have ls:=h.s.len
 have lp:=h.p.len
 have lg:=h.g.len
 have lr:=h.r.len
 have er:=h.rlen
 have is:=Sl.is h.s
 have ip:=Sl.is h.p
 have ig:=Sl.is h.g
 have ir:=Sl.is h.r
 have os:=Sl.one h.s
 have op:=Sl.one h.p
 have og:=Sl.one h.g
 have or:=Sl.one h.r
 obtain⟨us,up,ug,ur⟩:=u
 simp only[V4.l]at*
 have k1:=(Aac.refl H).alloc (.cells true false 4 [us,up,ug,ur] 27)
 have n1:∀a b:Nat,decide ((a:Int)<(b:Int))=decide (a<b):=fun a b=>by rw[decide_eq_decide];omega
 have e1:decide ((64:Int)<((L.s.length:Nat):Int))=decide (64<L.s.length):=n1 64 _
 have e2:decide ((32:Int)<((L.p.length:Nat):Int))=decide (32<L.p.length):=n1 32 _
 have e3:decide ((32:Int)<((L.g.length:Nat):Int))=decide (32<L.g.length):=n1 32 _
 have e4:decide ((64:Int)<((L.r.length:Nat):Int))=decide (64<L.r.length):=n1 64 _
 unfold Agy at hq2
 cases c1:decide (64<L.s.length)with
 |true=>
  simp only[c1]at e1 hq2
  have c1':(64:Int)<((L.s.length:Nat):Int):=of_decide_eq_true e1
  simp(disch:=first|assumption|omega)only[f77,P4,seval,ls,lp,lg,lr,er,os,op,og,or]
  exact hq2 _ _ ⟨_,rfl,rfl,k1⟩
 |false=>
 simp only[c1]at e1 hq2
 have c1':¬(64:Int)<((L.s.length:Nat):Int):=of_decide_eq_false e1
 cases c2:decide (32<L.p.length)with
 |true=>
  simp only[c2]at e2 hq2
  have c2':(32:Int)<((L.p.length:Nat):Int):=of_decide_eq_true e2
  simp(disch:=first|assumption|omega)only[f77,P4,seval,ls,lp,lg,lr,er,os,op,og,or]
  exact hq2 _ _ ⟨_,rfl,rfl,k1⟩
 |false=>
 simp only[c2]at e2 hq2
 have c2':¬(32:Int)<((L.p.length:Nat):Int):=of_decide_eq_false e2
 cases c3:decide (32<L.g.length)with
 |true=>
  simp only[c3]at e3 hq2
  have c3':(32:Int)<((L.g.length:Nat):Int):=of_decide_eq_true e3
  simp(disch:=first|assumption|omega)only[f77,P4,seval,ls,lp,lg,lr,er,os,op,og,or]
  exact hq2 _ _ ⟨_,rfl,rfl,k1⟩
 |false=>
 simp only[c3]at e3 hq2
 have c3':¬(32:Int)<((L.g.length:Nat):Int):=of_decide_eq_false e3
 cases c4:decide (64<L.r.length)with
 |true=>
  simp only[c4]at e4 hq2
  have c4':(64:Int)<((L.r.length:Nat):Int):=of_decide_eq_true e4
  simp(disch:=first|assumption|omega)only[f77,P4,seval,ls,lp,lg,lr,er,os,op,og,or]
  exact hq2 _ _ ⟨_,rfl,rfl,k1⟩
 |false=>
  simp only[c4]at e4 hq2
  have c4':¬(64:Int)<((L.r.length:Nat):Int):=of_decide_eq_false e4
  simp(disch:=first|assumption|omega)only[f77,P4,seval,ls,lp,lg,lr,er,os,op,og,or]
  exact hq2 _ _ ⟨_,rfl,rfl,k1⟩
def ixT(n:List UInt8):List (List UInt8)→Option Nat
 |[]=>none
 |x::l=>if x=n then some 0 else(ixT n l).map (· +1)
def ixV(n:List UInt8)(l:List (List UInt8)):Int:=match ixT n l with
 |some i=>(i:Int)
 |none=> -1
theorem Az6{n:List UInt8}:∀{l:List (List UInt8)} {i:Nat},i<l.length→l.getD i []=n→(∀j,j<i→l.getD j []≠n)→ixT n l=some i
 |x::l,0,_,h,_=>by simp at h;simp[ixT,h]
 |x::l,i+1,hi,h,hn=>by
  have h0:¬x=n:=by simpa using hn 0 (by omega)
  have:=Az6 (l:=l) (i:=i) (by simpa using hi) (by simpa using h) (fun j hj=>by simpa using hn (j+1) (by omega))
  simp[ixT,h0,this]
theorem Az7{n:List UInt8}:∀{l:List (List UInt8)},(∀j,j<l.length→l.getD j []≠n)→ixT n l=none
 |[],_=>rfl
 |x::l,hn=>by
  have h0:¬x=n:=by simpa using hn 0 (by simp)
  have:=Az7 (l:=l) (fun j hj=>by simpa using hn (j+1) (by simpa using hj))
  simp[ixT,h0,this]
theorem Aoq{n:List UInt8}:∀{l:List (List UInt8)},(ixT n l).isSome=l.contains n
 |[]=>rfl
 |x::l=>by
  simp only[ixT,List.contains_cons]
  by_cases h:x=n
  ·simp[h]
  ·have:¬n=x:=fun e=>h e.symm
   simp[h,this,Aoq (l:=l)]
theorem t80{H:Aaa}{v:Value}{l:List (List UInt8)}(h:TL H v l)(hl:l.length≤1000000000)(n:List UInt8):∃w H',Aau Tryz.prog 0 80 [v,.string ⟨n.toArray⟩] H w H'∧w=.int .i64 (ixV n l)∧H'=H:=by
 refine Aaq Baf Bjp ?_
 intro Q hq1 hq2
 have ia:=Sl.is h
 have la:=h.len
 simp(disch:=first|assumption|omega)only[f80,P3,seval,Aak,Aat]
 rw[Aah]
 refine Aan (fun k fr K=>∃i x4 x5,fr=[v,.string ⟨n.toArray⟩,.int .i64 0,.int .i64 ((i:Nat):Int),x4,x5]∧K=H∧i≤l.length∧(∀j,j<i→l.getD j []≠n)∧k=l.length-i) l.length
  ⟨0,_,_,rfl,rfl,by omega,by intro j hj;omega,rfl⟩ ?_
 rintro Q' k fr K ⟨i,x4,x5,rfl,rfl,hi,hp,rfl⟩ hn hx hret
 by_cases hlt:i<l.length
 ·obtain⟨na,ra⟩:=h.at_ hlt
  have h0:(0:Int)≤(i:Int):=by omega
  have h1:(i:Int)<((lenS v:Nat):Int):=by omega
  have h3:(i:Int)<((l.length:Nat):Int):=by omega
  have hw:IntKind.i64.wrap ((i:Int)+1)=((i+1:Nat):Int):=by rw[Aae (by omega) (by omega)];simp
  unfold Akv at ra
  by_cases he:l.getD i []=n
  ·have e2:decide (l.getD i []=n)=true:=by simpa using he
   simp(disch:=first|assumption|omega)only[P4,seval,la,ra,na,Aal,Apq,e2]
   refine hret _ _ (hq2 _ _ ⟨_,rfl,?_,rfl⟩)
   simp[Afi,ixV,Az6 hlt he hp]
  ·have e2:decide (l.getD i []=n)=false:=by simpa using he
   simp(disch:=first|assumption|omega)only[P4,seval,la,ra,na,Aal,Apq,e2,hw]
   refine hn _ _ _ ⟨i+1,_,_,rfl,rfl,by omega,fun j hj=>?_,rfl⟩ (by omega)
   by_cases hji:j=i
   ·subst hji;exact he
   ·exact hp j (by omega)
 ·have h3:¬(i:Int)<((l.length:Nat):Int):=by omega
  simp(disch:=first|assumption|omega)only[P4,seval,la]
  refine hx 0 _ _ ?_
  simp(disch:=first|assumption|omega)only[P4,seval]
  refine hq2 _ _ ⟨_,rfl,?_,rfl⟩
  simp[Afi,ixV,Az7 (fun j hj=>hp j (by omega))]
theorem t81{H:Aaa}{v:Value}{l:List Int}(n:Int)(h:IL H v l)(hl:l.length≤9223372036854775807):∃w H',Aau Tryz.prog 0 81 [v,.int .i64 n] H w H'∧w=.bool (decide (l.length≤16)&&l.all (inB n))∧H'=H:=by
 refine Aaq Bag Bjq ?_
 intro Q hq1 hq2
 have ia:=Sl.is h
 have la:=h.len
 simp(disch:=first|assumption|omega)only[f81,P3,seval,Aak,Aat]
 rw[Aah]
 refine Aan (fun k fr K=>∃i x4 x5,fr=[v,.int .i64 n,.bool false,.int .i64 ((i:Nat):Int),x4,x5]∧K=H∧i≤l.length∧(l.take i).all (inB n)=true∧k=l.length-i) l.length
  ⟨0,_,_,rfl,rfl,by omega,by simp,rfl⟩ ?_
 rintro Q' k fr K ⟨i,x4,x5,rfl,rfl,hi,hp,rfl⟩ hn hx hret
 have stop:∀K',(decide (l.length≤16)&&l.all (inB n))=K'→Q .ret [v,.int .i64 n,.bool K',.int .i64 ((i:Nat):Int),.bool false,x5] K:=fun K' e=>hq2 _ _ ⟨_,rfl,by simp[Afi,e],rfl⟩
 by_cases hlt:i<l.length
 ·have h3:(i:Int)<((l.length:Nat):Int):=by omega
  by_cases h17:i<17
  ·obtain⟨na,ra⟩:=h.at_ hlt
   have h0:(0:Int)≤(i:Int):=by omega
   have h1:(i:Int)<((lenS v:Nat):Int):=by omega
   have h4:(i:Int)<(17:Int):=by omega
   have hw:IntKind.i64.wrap ((i:Int)+1)=((i+1:Nat):Int):=by rw[Aae (by omega) (by omega)];simp
   have no:inB n (l.getD i 0)=false→l.all (inB n)=false:=fun e=>Agx hlt e
   have go:inB n (l.getD i 0)=true→(l.take (i+1)).all (inB n)=true:=fun e=>Agh hlt hp e
   generalize l.getD i 0=x at*
   by_cases hx0:x<0
   ·simp(disch:=first|assumption|omega)only[P4,seval,la,ra,na,Aal]
    refine hret _ _ (hq2 _ _ ⟨_,rfl,?_,rfl⟩)
    rw[no (by simp[inB];omega)];simp[Afi]
   ·by_cases hxn:n≤x
    ·simp(disch:=first|assumption|omega)only[P4,seval,la,ra,na,Aal]
     refine hret _ _ (hq2 _ _ ⟨_,rfl,?_,rfl⟩)
     rw[no (by simp[inB];omega)];simp[Afi]
    ·simp(disch:=first|assumption|omega)only[P4,seval,la,ra,na,Aal,hw]
     exact hn _ _ _ ⟨i+1,_,_,rfl,rfl,by omega,go (by simp[inB];omega),rfl⟩ (by omega)
  ·have h4:¬(i:Int)<(17:Int):=by omega
   have h5:¬((l.length:Nat):Int)≤(16:Int):=by omega
   simp(disch:=first|assumption|omega)only[P4,seval,la]
   refine hx 0 _ _ ?_
   simp(disch:=first|assumption|omega)only[P4,seval,la]
   refine hq2 _ _ ⟨_,rfl,?_,rfl⟩
   have:¬l.length≤16:=by omega
   simp[Afi,this]
 ·have h3:¬(i:Int)<((l.length:Nat):Int):=by omega
  rw[List.take_of_length_le (by omega)]at hp
  by_cases h6:l.length≤16
  ·have h5:((l.length:Nat):Int)≤(16:Int):=by omega
   simp(disch:=first|assumption|omega)only[P4,seval,la]
   refine hx 0 _ _ ?_
   simp(disch:=first|assumption|omega)only[P4,seval,la]
   refine hq2 _ _ ⟨_,rfl,?_,rfl⟩
   simp[Afi,h6,hp]
  ·have h5:¬((l.length:Nat):Int)≤(16:Int):=by omega
   simp(disch:=first|assumption|omega)only[P4,seval,la]
   refine hx 0 _ _ ?_
   simp(disch:=first|assumption|omega)only[P4,seval,la]
   refine hq2 _ _ ⟨_,rfl,?_,rfl⟩
   simp[Afi,h6]
theorem t82{H:Aaa}{v:Value}{l:List (Int×Bool)}(h:NL H v l)(hl:l.length≤9223372036854775807):∃w H',Aau Tryz.prog 0 82 [v] H w H'∧IL H' w ((l.take 17).map (·.1))∧Aac H H':=by
 refine Aaq Bah Bjr ?_
 intro Q hq1 hq2
 have ia:=Sl.is h
 have la:=h.len
 simp(disch:=first|assumption|omega)only[f82,P3,seval,Aak,Aat]
 rw[Aah]
 refine Aan (fun k fr K=>∃i s x4,fr=[v,.slice none 0 0,s,.int .i64 ((i:Nat):Int),x4]∧OW 3 1 H K s (((l.take i).map (·.1)).map Agw)∧i≤l.length∧i≤17∧k=l.length-i) l.length
  ⟨0,_,_,rfl,OW.nil _ _ (Aac.refl H),by omega,by omega,rfl⟩ ?_
 rintro Q' k fr K ⟨i,s,x4,rfl,ho,hi,hi7,rfl⟩ hn hx hret
 by_cases hlt:i<l.length∧i<17
 ·obtain⟨na,ra⟩:=(h.keeps ho.k).at_ hlt.1
  have h0:(0:Int)≤(i:Int):=by omega
  have h1:(i:Int)<((lenS v:Nat):Int):=by omega
  have h3:(i:Int)<((l.length:Nat):Int):=by omega
  have h4:(i:Int)<(17:Int):=by omega
  have hw:IntKind.i64.wrap ((i:Int)+1)=((i+1:Nat):Int):=by rw[Aae (by omega) (by omega)];simp
  have ts:=Adi (0,false) hlt.1
  simp(disch:=first|assumption|omega)only[P4,seval,la,ra,na,Aal]
  have ho2:=ho.keeps ((Aac.refl K).alloc (.cells true false 1 [.int .i64 (l.getD i (0,false)).1] 3))
  refine ho2.appR (Sl.one1 rfl rfl) (by simp only[List.length_map,List.length_take,List.length_cons,List.length_nil];omega) ?_
  intro v' K' ho3 _
  simp(disch:=first|assumption|omega)only[P4,seval,hw]
  refine hn _ _ _ ⟨i+1,_,_,rfl,?_,by omega,by omega,rfl⟩ (by omega)
  rw[ts];simpa[Agw]using ho3
 ·have fin:(l.take i).map (·.1)=(l.take 17).map (·.1):=by
   by_cases e:i=17
   ·rw[e]
   ·rw[List.take_of_length_le (show l.length≤i by omega),List.take_of_length_le (show l.length≤17 by omega)]
  rw[fin]at ho
  by_cases h3:(i:Int)<((l.length:Nat):Int)
  ·have h4:¬(i:Int)<(17:Int):=by omega
   simp(disch:=first|assumption|omega)only[P4,seval,la]
   refine hx 0 _ _ ?_
   simp(disch:=first|assumption|omega)only[P4,seval]
   exact hq2 _ _ ⟨_,rfl,ho.sl,ho.k⟩
  ·simp(disch:=first|assumption|omega)only[P4,seval,la]
   refine hx 0 _ _ ?_
   simp(disch:=first|assumption|omega)only[P4,seval]
   exact hq2 _ _ ⟨_,rfl,ho.sl,ho.k⟩
theorem Apx(n:Nat)(l:List (Int×Bool)):(decide (((l.take 17).map (·.1)).length≤16)&&((l.take 17).map (·.1)).all (inB n))=Ah2 n l:=by
 unfold Ah2
 by_cases h:l.length≤16
 ·rw[List.take_of_length_le (by omega)];simp[h,List.all_map,Function.comp_def]
 ·have:¬((l.take 17).map (·.1)).length≤16:=by simp;omega
  simp only[this,h,decide_false,Bool.false_and]
end Go.AM.Fd

namespace Go.AM.Fd
open Nat (reduceAdd reduceEqDiff reduceLT reduceLeDiff reduceMul reduceSub)
open Go.Proofs Go.AM.F
theorem Aug(x:ByteArray):Aa4 [.string ByteArray.empty] [(0,1,.string x)]=some [.string x]:=rfl
def vB(H:Aaa)(u:V4):Aaa:=H.alloc (.cells true false 4 u.l 27)
theorem Akj(H:Aaa)(u:V4):Aac H (vB H u):=(Aac.refl H).alloc _
theorem Auh(H:Aaa)(u:V4):(vB H u).get H.n=some (.cells true false 4 u.l 27):=Aaa.Bp6 H _
theorem Aju(a:List (List UInt8))(t:List UInt8):a.map Akv++[[.string ⟨t.toArray⟩]]=(a++[t]).map Akv:=by simp[Akv]
def NS(A:Value)(H:Aaa)(u:V4)(ns:List (List UInt8))(fr:List Value)(K:Aaa):Prop:=
 ∃s x4 x5 x6 x7 x8 x9,fr=[A,ptr H.n 0,.slice none 0 0,s,x4,x5,x6,x7,x8,x9]∧OW 9 1 (vB H u) K s (ns.map Akv)
set_option maxHeartbeats 1000000 in
theorem Bdo{H:Aaa}{u:V4}{xs:List RV}{L:Ly}{Q:AQ}{A:Value}{fr:List Value}{K:Aaa}(h:LyR H u xs L)(hf:Af7 L)(hm:NS A H u (nm2 L 0) fr K)
 (hk:∀fr K,NS A H u (nm2 L L.p.length) fr K→Q .normal fr K):W Tryz.prog 0 (Ae5 1 (Ab5 3 f78.body)) Q fr K:=by
 obtain⟨s,x4,x5,x6,x7,x8,x9,rfl,ho⟩:=hm
 have lp:=h.p.len
 have ip:=Sl.is h.p
 simp(disch:=first|assumption|omega)only[f78,Ae5,Ab5,P3,seval,Aak,Aat]
 rw[Aah]
 refine Aan (fun k fr K=>∃i s xc,fr=[A,ptr H.n 0,.slice none 0 0,s,.int .i64 ((i:Nat):Int),x5,x6,xc,x8,x9]∧OW 9 1 (vB H u) K s ((nm2 L i).map Akv)∧i≤L.p.length∧k=L.p.length-i) L.p.length
  ⟨0,_,_,rfl,ho,by omega,rfl⟩ ?_
 clear ho
 rintro Q' k fr K ⟨i,s,xc,rfl,ho,hi,rfl⟩ hn hx hret
 have gl:=ho.k.at_ (Auh H u)
 simp only[V4.l]at gl
 by_cases hlt:i<L.p.length
 ·obtain⟨na,ra⟩:=(h.p.keeps ((Akj H u).trans ho.k)).at_ hlt
  have h1:(0:Int)≤(i:Int):=by omega
  have h2:(i:Int)<((lenS u.p:Nat):Int):=by omega
  have h3:(i:Int)<((L.p.length:Nat):Int):=by omega
  have hw:IntKind.i64.wrap ((i:Int)+1)=((i+1:Nat):Int):=by rw[Aae (by omega) (by have:=hf.p.1;omega)];simp
  have ts:=Adi ([],(0:Int)) hlt
  have l1:=hf.s.1
  have l2:=hf.p.1
  have l3:=hf.g.1
  have l4:=hf.r.1
  have hnl:(nm2 L i).length≤4000000000:=by simp only[nm2,List.length_append,List.length_map,List.length_take];omega
  simp(disch:=first|assumption|omega)only[P4,seval,gl,lp,ra,na,Aal,Aug]
  have ho2:=ho.keeps ((Aac.refl K).alloc (.cells true false 1 [.string ⟨(L.p.getD i ([],0)).1.toArray⟩] 9))
  refine ho2.appR (b:=16) (Sl.one1 rfl rfl) (by simp only[List.length_map,List.length_cons,List.length_nil];omega) ?_
  intro v' K' ho3 _
  simp(disch:=first|assumption|omega)only[P4,seval,hw]
  refine hn _ _ _ ⟨i+1,_,_,rfl,?_,by omega,rfl⟩ (by omega)
  rw[Aju]at ho3
  have e:nm2 L i++[(L.p.getD i ([],0)).1]=nm2 L (i+1):=by simp only[nm2,ts,List.map_append,List.map_cons,List.map_nil,List.append_assoc]
  rw[e]at ho3
  exact ho3
 ·have h3:¬(i:Int)<((L.p.length:Nat):Int):=by omega
  simp(disch:=first|assumption|omega)only[P4,seval,gl,lp]
  refine hx 0 _ _ ?_
  have e:i=L.p.length:=by omega
  subst e
  exact hk _ _ ⟨_,_,_,_,_,_,_,rfl,ho⟩
set_option maxHeartbeats 1000000 in
theorem Bdp{H:Aaa}{u:V4}{xs:List RV}{L:Ly}{Q:AQ}{A:Value}{fr:List Value}{K:Aaa}(h:LyR H u xs L)(hf:Af7 L)(hm:NS A H u (nm3 L 0) fr K)
 (hk:∀fr K,NS A H u (nm3 L L.g.length) fr K→Q .normal fr K):W Tryz.prog 0 (Ae5 1 (Ab5 4 f78.body)) Q fr K:=by
 obtain⟨s,x4,x5,x6,x7,x8,x9,rfl,ho⟩:=hm
 have lp:=h.g.len
 have ip:=Sl.is h.g
 simp(disch:=first|assumption|omega)only[f78,Ae5,Ab5,P3,seval,Aak,Aat]
 rw[Aah]
 refine Aan (fun k fr K=>∃i s xc,fr=[A,ptr H.n 0,.slice none 0 0,s,x4,.int .i64 ((i:Nat):Int),x6,x7,xc,x9]∧OW 9 1 (vB H u) K s ((nm3 L i).map Akv)∧i≤L.g.length∧k=L.g.length-i) L.g.length
  ⟨0,_,_,rfl,ho,by omega,rfl⟩ ?_
 clear ho
 rintro Q' k fr K ⟨i,s,xc,rfl,ho,hi,rfl⟩ hn hx hret
 have gl:=ho.k.at_ (Auh H u)
 simp only[V4.l]at gl
 by_cases hlt:i<L.g.length
 ·obtain⟨na,ra⟩:=(h.g.keeps ((Akj H u).trans ho.k)).at_ hlt
  have h1:(0:Int)≤(i:Int):=by omega
  have h2:(i:Int)<((lenS u.g:Nat):Int):=by omega
  have h3:(i:Int)<((L.g.length:Nat):Int):=by omega
  have hw:IntKind.i64.wrap ((i:Int)+1)=((i+1:Nat):Int):=by rw[Aae (by omega) (by have:=hf.g.1;omega)];simp
  have ts:=Adi ([],(0:Int)) hlt
  have l1:=hf.s.1
  have l2:=hf.p.1
  have l3:=hf.g.1
  have l4:=hf.r.1
  have hnl:(nm3 L i).length≤4000000000:=by simp only[nm3,List.length_append,List.length_map,List.length_take];omega
  simp(disch:=first|assumption|omega)only[P4,seval,gl,lp,ra,na,Aal,Aug]
  have ho2:=ho.keeps ((Aac.refl K).alloc (.cells true false 1 [.string ⟨(L.g.getD i ([],0)).1.toArray⟩] 9))
  refine ho2.appR (b:=16) (Sl.one1 rfl rfl) (by simp only[List.length_map,List.length_cons,List.length_nil];omega) ?_
  intro v' K' ho3 _
  simp(disch:=first|assumption|omega)only[P4,seval,hw]
  refine hn _ _ _ ⟨i+1,_,_,rfl,?_,by omega,rfl⟩ (by omega)
  rw[Aju]at ho3
  have e:nm3 L i++[(L.g.getD i ([],0)).1]=nm3 L (i+1):=by simp only[nm3,ts,List.map_append,List.map_cons,List.map_nil,List.append_assoc]
  rw[e]at ho3
  exact ho3
 ·have h3:¬(i:Int)<((L.g.length:Nat):Int):=by omega
  simp(disch:=first|assumption|omega)only[P4,seval,gl,lp]
  refine hx 2 _ _ ?_
  have e:i=L.g.length:=by omega
  subst e
  exact hk _ _ ⟨_,_,_,_,_,_,_,rfl,ho⟩
set_option maxHeartbeats 1000000 in
theorem Bdq{H:Aaa}{u:V4}{xs:List RV}{L:Ly}{Q:AQ}{A:Value}{fr:List Value}{K:Aaa}(h:LyR H u xs L)(hf:Af7 L)(hm:NS A H u (nm4 L 0) fr K)
 (hk:∀fr K,NS A H u (nm4 L L.r.length) fr K→Q .normal fr K):W Tryz.prog 0 (Ae5 1 (Ab5 5 f78.body)) Q fr K:=by
 obtain⟨s,x4,x5,x6,x7,x8,x9,rfl,ho⟩:=hm
 have lp:=h.r.len
 rw[h.rlen]at lp
 have ip:=Sl.is h.r
 simp(disch:=first|assumption|omega)only[f78,Ae5,Ab5,P3,seval,Aak,Aat]
 rw[Aah]
 refine Aan (fun k fr K=>∃i s xc,fr=[A,ptr H.n 0,.slice none 0 0,s,x4,x5,.int .i64 ((i:Nat):Int),x7,x8,xc]∧OW 9 1 (vB H u) K s ((nm4 L i).map Akv)∧i≤L.r.length∧k=L.r.length-i) L.r.length
  ⟨0,_,_,rfl,ho,by omega,rfl⟩ ?_
 clear ho
 rintro Q' k fr K ⟨i,s,xc,rfl,ho,hi,rfl⟩ hn hx hret
 have gl:=ho.k.at_ (Auh H u)
 simp only[V4.l]at gl
 by_cases hlt:i<L.r.length
 ·obtain⟨na,ra⟩:=RL.at_ (h.r.keeps ((Akj H u).trans ho.k)) (show i<xs.length by rw[h.rlen];exact hlt)
  have h1:(0:Int)≤(i:Int):=by omega
  have h2:(i:Int)<((lenS u.r:Nat):Int):=by omega
  have h3:(i:Int)<((L.r.length:Nat):Int):=by omega
  have hw:IntKind.i64.wrap ((i:Int)+1)=((i+1:Nat):Int):=by rw[Aae (by omega) (by have:=hf.r.1;omega)];simp
  have ts:=Adi rv0.r hlt
  have l1:=hf.s.1
  have l2:=hf.p.1
  have l3:=hf.g.1
  have l4:=hf.r.1
  have hnl:(nm4 L i).length≤4000000000:=by simp only[nm4,List.length_append,List.length_map,List.length_take];omega
  obtain⟨_,xr⟩:=h.rat hlt
  rw[←xr]at ts
  simp only[RV.row]at ra
  simp(disch:=first|assumption|omega)only[P4,seval,gl,lp,ra,na,Aal,Aug]
  have ho2:=ho.keeps ((Aac.refl K).alloc (.cells true false 1 [.string ⟨((xs.getD i rv0).r).n.toArray⟩] 9))
  refine ho2.appR (b:=16) (Sl.one1 rfl rfl) (by simp only[List.length_map,List.length_cons,List.length_nil];omega) ?_
  intro v' K' ho3 _
  simp(disch:=first|assumption|omega)only[P4,seval,hw]
  refine hn _ _ _ ⟨i+1,_,_,rfl,?_,by omega,rfl⟩ (by omega)
  rw[Aju]at ho3
  have e:nm4 L i++[((xs.getD i rv0).r).n]=nm4 L (i+1):=by simp only[nm4,ts,List.map_append,List.map_cons,List.map_nil,List.append_assoc]
  rw[e]at ho3
  exact ho3
 ·have h3:¬(i:Int)<((L.r.length:Nat):Int):=by omega
  simp(disch:=first|assumption|omega)only[P4,seval,gl,lp]
  refine hx 4 _ _ ?_
  have e:i=L.r.length:=by omega
  subst e
  exact hk _ _ ⟨_,_,_,_,_,_,_,rfl,ho⟩
theorem Aui(L:Ly):nm3 L 0=nm2 L L.p.length∧nm4 L 0=nm3 L L.g.length∧Acr L=nm4 L L.r.length:=by
 simp[nm2,nm3,nm4,Acr]
set_option maxHeartbeats 1000000 in
theorem t78{H:Aaa}{u:V4}{xs:List RV}{L:Ly}(h:LyR H u xs L)(hf:Af7 L):∃w H',Aau Tryz.prog 0 78 [.agg u.l.toArray] H w H'∧OW 9 1 H H' w ((Acr L).map Akv):=by
 refine Aaq Bae Bjo ?_
 intro Q hq1 hq2
 refine Acv 3 (NS (.agg u.l.toArray) H u (nm2 L 0)) (by kernel_rfl) ?_ (fun fr K m=>?_)
 ·intro Q' a _ _
  have ls:=h.s.len
  have is:=Sl.is h.s
  have os:=Sl.one h.s
  have op:=Sl.one h.p
  have og:=Sl.one h.g
  have or:=Sl.one h.r
  have hs:=h.s.keeps (Akj H u)
  have l1:=hf.s.1
  have ho:OW 9 1 (vB H u) (vB H u) (.slice none 0 0) []:=OW.nil _ _ (Aac.refl _)
  unfold NS vB at*
  obtain⟨us,up,ug,ur⟩:=u
  simp only[V4.l]at*
  simp(disch:=first|assumption|omega)only[f78,Ae5,P4,seval,os,op,og,or]
  refine ho.appR (rows2:=L.s.map Akv) hs (by simp only[List.length_map,List.length_nil];omega) ?_
  intro v' K' ho3 _
  simp(disch:=first|assumption|omega)only[P4,seval]
  refine a _ _ ⟨_,_,_,_,_,_,_,rfl,?_⟩
  simpa[nm2]using ho3
 refine Acv 1 (NS (.agg u.l.toArray) H u (nm3 L 0)) (by kernel_rfl) (fun Q' a _ _=>Bdo h hf m (by rw[(Aui L).1]at a;exact a)) (fun fr K m=>?_)
 refine Acv 1 (NS (.agg u.l.toArray) H u (nm4 L 0)) (by kernel_rfl) (fun Q' a _ _=>Bdp h hf m (by rw[(Aui L).2.1]at a;exact a)) (fun fr K m=>?_)
 refine Acv 1 (NS (.agg u.l.toArray) H u (Acr L)) (by kernel_rfl) (fun Q' a _ _=>Bdq h hf m (by rw[(Aui L).2.2]at a;exact a)) (fun fr K m=>?_)
 obtain⟨s,x4,x5,x6,x7,x8,x9,rfl,ho⟩:=m
 simp(disch:=first|assumption|omega)only[f78,Ab5,P4,seval]
 exact hq2 _ _ ⟨_,rfl,ho.base (Akj H u)⟩
end Go.AM.Fd

namespace Go.AM.Fd
open Nat (reduceAdd reduceEqDiff reduceLT reduceLeDiff reduceMul reduceSub)
open Go.Proofs Go.AM.F
theorem Ax1{l:List (List UInt8)}{i:Nat}(h:i<l.length)(hr:Acz (l.getD i [])=false):okN l=false:=by
 simp only[okN,Agx h hr,Bool.false_and]
theorem Ah3{α:Type}[BEq α][LawfulBEq α]{l:List α}{i:Nat}{d:α}(h:i<l.length)(hc:(l.take i).contains (l.getD i d)=true):¬l.Nodup:=by
 intro hn
 have e:l=l.take i++l.drop i:=(List.take_append_drop i l).symm
 rw[e]at hn
 have h2:=(List.nodup_append.1 hn).2.2
 have h3:l.getD i d∈l.drop i:=by
  rw[List.mem_iff_getElem?]
  exact⟨0,by simp[List.getD,List.getElem?_eq_getElem h]⟩
 exact h2 _ (by simpa using hc) _ h3 rfl
theorem Ax2{l:List (List UInt8)}{i:Nat}(h:i<l.length)(hc:(l.take i).contains (l.getD i [])=true):okN l=false:=by
 have:=Ah3 h hc
 simp[okN,this]
theorem Bdr{n:List UInt8}{l:List (List UInt8)}(h:l.contains n=false):ixV n l= -1:=by
 have:=Aoq (n:=n) (l:=l)
 rw[h]at this
 unfold ixV
 cases he:ixT n l with
 |none=>rfl
 |some i=>rw[he]at this;cases this
theorem A5n{n:List UInt8}{l:List (List UInt8)}(h:l.contains n=true):0≤ixV n l:=by
 have:=Aoq (n:=n) (l:=l)
 rw[h]at this
 unfold ixV
 cases he:ixT n l with
 |none=>rw[he]at this;cases this
 |some i=>simp
def RF(A:Value)(H:Aaa)(fr:List Value)(K:Aaa):Prop:=∃x3 x4 x5 x6 x7 x8 x9 x10 x11 x12 x13 x14 x15 x16 x17,fr=[A,ptr H.n 0,.bool false,x3,x4,x5,x6,x7,x8,x9,x10,x11,x12,x13,x14,x15,x16,x17]∧Aac H K
def RM(A:Value)(H:Aaa)(u:V4)(L:Ly)(ok:Prop)(fr:List Value)(K:Aaa):Prop:=
 ∃vn x4 x5 x6 x7 x8 x9 x10 x11 x12 x13 x14 x15 x16 x17,fr=[A,ptr H.n 0,.bool false,vn,x4,x5,x6,x7,x8,x9,x10,x11,x12,x13,x14,x15,x16,x17]∧Aac (vB H u) K∧OW 9 1 H K vn ((Acr L).map Akv)∧ok
theorem Aq7{L:Ly}(hf:Af7 L):∀x∈Acr L,x.length≤9223372036854775807:=by
 intro x hx
 simp only[Acr,List.mem_append,List.mem_map]at hx
 rcases hx with((hx|⟨y,hy,rfl⟩)|⟨y,hy,rfl⟩)|⟨y,hy,rfl⟩
 ·exact hf.s.2 x hx
 ·exact hf.p.2 y hy
 ·exact hf.g.2 y hy
 ·exact(hf.r.2 y hy).1
set_option maxHeartbeats 1000000 in
theorem Bk1{H:Aaa}{u:V4}{L:Ly}{Q:AQ}{A:Value}{fr:List Value}{K:Aaa}(hf:Af7 L)(hs:(Acr L).length≤1000000000)(hm:RM A H u L True fr K)
 (hk:∀fr K,RM A H u L (okN (Acr L)=true) fr K→Q .normal fr K) (hr:Afc L=false→∀fr K,RF A H fr K→Q .ret fr K):W Tryz.prog 0 (Ae5 1 (Ab5 3 f47.body)) Q fr K:=by
 obtain⟨vn,x4,x5,x6,x7,x8,x9,x10,x11,x12,x13,x14,x15,x16,x17,rfl,hkK,ho,_⟩:=hm
 have ia:=ho.is
 have la:=ho.len
 rw[List.length_map]at la
 have hfit:=Aq7 hf
 have bad:okN (Acr L)=false→Afc L=false:=fun e=>by simp[Afc,e]
 have ht:TL K vn (Acr L):=ho.sl
 obtain⟨ns,hns⟩:∃ns,ns=Acr L:=⟨_,rfl⟩
 rw[←hns]at hs la hfit bad ht
 have ho':=ho
 rw[←hns]at ho'
 simp(disch:=first|assumption|omega)only[f47,Ae5,Ab5,P3,seval,Aak,Aat]
 rw[Aah]
 refine Aan (fun k fr K'=>∃i x10 x11,fr=[A,ptr H.n 0,.bool false,vn,.int .i64 ((i:Nat):Int),x5,x6,x7,x8,x9,x10,x11,x12,x13,x14,x15,x16,x17]∧K'=K∧i≤ns.length∧okN (ns.take i)=true∧k=ns.length-i) ns.length
  ⟨0,_,_,rfl,rfl,by omega,by simp[okN],rfl⟩ ?_
 rintro Q' k fr _ ⟨i,x10,x11,rfl,rfl,hi,hp,rfl⟩ hn hx hret
 by_cases hlt:i<ns.length
 ·obtain⟨na,ra⟩:=ht.at_ hlt
  have h0:(0:Int)≤(i:Int):=by omega
  have h1:(i:Int)<((lenS vn:Nat):Int):=by omega
  have h3:(i:Int)<((ns.length:Nat):Int):=by omega
  have hw:IntKind.i64.wrap ((i:Int)+1)=((i+1:Nat):Int):=by rw[Aae (by omega) (by omega)];simp
  have hlen:=hfit _ (Ad2 (d:=[]) hlt)
  obtain⟨w,s1,s2⟩:=ho'.pre (kd:=.i64) (i:=i) (by rw[List.length_map];omega)
  rw[←List.map_take]at s2
  have hs1:=Ahb (ns.take i) (ns.getD i [])
  rw[←Adi [] hlt,hp]at hs1
  have b1:=fun e=>Ax1 (l:=ns) hlt e
  have b2:=fun e=>Ax2 (l:=ns) hlt e
  unfold Akv at ra
  generalize ns.getD i []=n at*
  simp(disch:=first|assumption|omega)only[P4,seval,la,ra,na,Aal]
  refine Aag (t79 _ n hlen) ?_
  rintro _ _ ⟨rfl,rfl⟩
  cases hrn:Acz n with
  |false=>
   simp(disch:=first|assumption|omega)only[P4,seval]
   exact hret _ _ (hr (bad (b1 hrn)) _ _ ⟨_,_,_,_,_,_,_,_,_,_,_,_,_,_,_,rfl,(Akj H u).trans hkK⟩)
  |true=>
  simp(disch:=first|assumption|omega)only[P4,seval,s1,la,ra,na,Aal]
  refine Aag (t80 s2 (by rw[List.length_take];omega) n) ?_
  rintro _ _ ⟨rfl,rfl⟩
  cases hc:(ns.take i).contains n with
  |true=>
   have c0:=A5n hc
   simp(disch:=first|assumption|omega)only[P4,seval]
   exact hret _ _ (hr (bad (b2 hc)) _ _ ⟨_,_,_,_,_,_,_,_,_,_,_,_,_,_,_,rfl,(Akj H u).trans hkK⟩)
  |false=>
   have c0:=Bdr hc
   rw[c0]
   have c1:¬(0:Int)≤ -1:=by omega
   simp(disch:=first|assumption|omega)only[P4,seval,hw]
   exact hn _ _ _ ⟨i+1,_,_,rfl,rfl,by omega,by rw[hs1,hrn,hc];rfl,rfl⟩ (by omega)
 ·have h3:¬(i:Int)<((ns.length:Nat):Int):=by omega
  simp(disch:=first|assumption|omega)only[P4,seval,la]
  refine hx 0 _ _ ?_
  rw[List.take_of_length_le (by omega),hns]at hp
  exact hk _ _ ⟨_,_,_,_,_,_,_,_,_,_,_,_,_,_,_,rfl,hkK,ho,hp⟩
end Go.AM.Fd

namespace Go.AM.Fd
open Nat (reduceAdd reduceEqDiff reduceLT reduceLeDiff reduceMul reduceSub)
open Go.Proofs Go.AM.F
def C2(L:Ly):Prop:=okN (Acr L)=true∧L.p.all (fun x=>inB L.s.length x.2)=true
def C3(L:Ly):Prop:=C2 L∧L.g.all (fun x=>inB L.s.length x.2)=true
set_option maxHeartbeats 1000000 in
theorem Bk2{H:Aaa}{u:V4}{xs:List RV}{L:Ly}{Q:AQ}{A:Value}{fr:List Value}{K:Aaa}(h:LyR H u xs L)(hf:Af7 L)(hm:RM A H u L (okN (Acr L)=true) fr K)
 (hk:∀fr K,RM A H u L (C2 L) fr K→Q .normal fr K) (hr:Afc L=false→∀fr K,RF A H fr K→Q .ret fr K):W Tryz.prog 0 (Ae5 1 (Ab5 4 f47.body)) Q fr K:=by
 obtain⟨vn,x4,x5,x6,x7,x8,x9,x10,x11,x12,x13,x14,x15,x16,x17,rfl,hkK,ho,hpre⟩:=hm
 have lp:=h.p.len
 have ls:=h.s.len
 have ip:=Sl.is h.p
 have is:=Sl.is h.s
 have bad:L.p.all (fun x=>inB L.s.length x.2)=false→Afc L=false:=fun e=>by simp only[Afc,e];simp
 simp(disch:=first|assumption|omega)only[f47,Ae5,Ab5,P3,seval,Aak,Aat]
 rw[Aah]
 refine Aan (fun k fr K=>∃i xc xd,fr=[A,ptr H.n 0,.bool false,vn,x4,.int .i64 ((i:Nat):Int),x6,x7,x8,x9,x10,x11,xc,xd,x14,x15,x16,x17]∧Aac (vB H u) K∧OW 9 1 H K vn ((Acr L).map Akv)∧i≤L.p.length∧(L.p.take i).all (fun x=>inB L.s.length x.2)=true∧k=L.p.length-i) L.p.length
  ⟨0,_,_,rfl,hkK,ho,by omega,by simp,rfl⟩ ?_
 clear hkK ho
 rintro Q' k fr K ⟨i,xc,xd,rfl,hkK,ho,hi,hp,rfl⟩ hn hx hret
 have gl:=hkK.at_ (Auh H u)
 simp only[V4.l]at gl
 by_cases hlt:i<L.p.length
 ·obtain⟨na,ra⟩:=(h.p.keeps ((Akj H u).trans hkK)).at_ hlt
  have h1:(0:Int)≤(i:Int):=by omega
  have h2:(i:Int)<((lenS u.p:Nat):Int):=by omega
  have h3:(i:Int)<((L.p.length:Nat):Int):=by omega
  have hw:IntKind.i64.wrap ((i:Int)+1)=((i+1:Nat):Int):=by rw[Aae (by omega) (by have:=hf.p.1;omega)];simp
  have stop:=fun e=>Agx (p:=fun x:List UInt8×Int=>inB L.s.length x.2) (d:=([],0)) hlt e
  have go:=fun e=>Agh (p:=fun x:List UInt8×Int=>inB L.s.length x.2) (d:=([],0)) hlt hp e
  generalize L.p.getD i ([],0)=y at*
  have o1:one1 (Value.int .i64 y.2)=True:=by simp[one1,Aax]
  have gl2:=((Aac.refl K).alloc (.cells true false 1 [.int .i64 y.2] 3)).at_ gl
  have hk2:=hkK.trans ((Aac.refl K).alloc (.cells true false 1 [.int .i64 y.2] 3))
  have ho2:=ho.keeps ((Aac.refl K).alloc (.cells true false 1 [.int .i64 y.2] 3))
  have hln:=Aaa.Bp9 gl
  have hil:IL (K.alloc (.cells true false 1 [.int .i64 y.2] 3)) (slc K.n 0 1 1) [y.2]:=
   ⟨⟨_,_,rfl⟩,by simp[Agw],by rw[Ach rfl rfl];rfl⟩
  simp(disch:=first|assumption|omega)only[P4,seval,gl,gl2,lp,ls,ra,na,Aal,o1]
  refine Aaw (t81 _ hil (by simp)) ?_
  have e:(decide ([y.2].length≤16)&&[y.2].all (inB (L.s.length:Nat)))=inB L.s.length y.2:=by simp
  rw[e]
  cases hb:inB L.s.length y.2 with
  |false=>
   simp(disch:=first|assumption|omega)only[P4,seval]
   exact hret _ _ (hr (bad (stop hb)) _ _ ⟨_,_,_,_,_,_,_,_,_,_,_,_,_,_,_,rfl,(Akj H u).trans hk2⟩)
  |true=>
   simp(disch:=first|assumption|omega)only[P4,seval,hw]
   exact hn _ _ _ ⟨i+1,_,_,rfl,hk2,ho2,by omega,go hb,rfl⟩ (by omega)
 ·have h3:¬(i:Int)<((L.p.length:Nat):Int):=by omega
  simp(disch:=first|assumption|omega)only[P4,seval,gl,lp]
  refine hx 2 _ _ ?_
  rw[List.take_of_length_le (by omega)]at hp
  exact hk _ _ ⟨_,_,_,_,_,_,_,_,_,_,_,_,_,_,_,rfl,hkK,ho,hpre,hp⟩
set_option maxHeartbeats 1000000 in
theorem Bk3{H:Aaa}{u:V4}{xs:List RV}{L:Ly}{Q:AQ}{A:Value}{fr:List Value}{K:Aaa}(h:LyR H u xs L)(hf:Af7 L)(hm:RM A H u L (C2 L) fr K)
 (hk:∀fr K,RM A H u L (C3 L) fr K→Q .normal fr K) (hr:Afc L=false→∀fr K,RF A H fr K→Q .ret fr K):W Tryz.prog 0 (Ae5 1 (Ab5 5 f47.body)) Q fr K:=by
 obtain⟨vn,x4,x5,x6,x7,x8,x9,x10,x11,x12,x13,x14,x15,x16,x17,rfl,hkK,ho,hpre⟩:=hm
 have lp:=h.g.len
 have ls:=h.s.len
 have ip:=Sl.is h.g
 have is:=Sl.is h.s
 have bad:L.g.all (fun x=>inB L.s.length x.2)=false→Afc L=false:=fun e=>by simp only[Afc,e];simp
 simp(disch:=first|assumption|omega)only[f47,Ae5,Ab5,P3,seval,Aak,Aat]
 rw[Aah]
 refine Aan (fun k fr K=>∃i xc xd,fr=[A,ptr H.n 0,.bool false,vn,x4,x5,.int .i64 ((i:Nat):Int),x7,x8,x9,x10,x11,x12,x13,xc,xd,x16,x17]∧Aac (vB H u) K∧OW 9 1 H K vn ((Acr L).map Akv)∧i≤L.g.length∧(L.g.take i).all (fun x=>inB L.s.length x.2)=true∧k=L.g.length-i) L.g.length
  ⟨0,_,_,rfl,hkK,ho,by omega,by simp,rfl⟩ ?_
 clear hkK ho
 rintro Q' k fr K ⟨i,xc,xd,rfl,hkK,ho,hi,hp,rfl⟩ hn hx hret
 have gl:=hkK.at_ (Auh H u)
 simp only[V4.l]at gl
 by_cases hlt:i<L.g.length
 ·obtain⟨na,ra⟩:=(h.g.keeps ((Akj H u).trans hkK)).at_ hlt
  have h1:(0:Int)≤(i:Int):=by omega
  have h2:(i:Int)<((lenS u.g:Nat):Int):=by omega
  have h3:(i:Int)<((L.g.length:Nat):Int):=by omega
  have hw:IntKind.i64.wrap ((i:Int)+1)=((i+1:Nat):Int):=by rw[Aae (by omega) (by have:=hf.g.1;omega)];simp
  have stop:=fun e=>Agx (p:=fun x:List UInt8×Int=>inB L.s.length x.2) (d:=([],0)) hlt e
  have go:=fun e=>Agh (p:=fun x:List UInt8×Int=>inB L.s.length x.2) (d:=([],0)) hlt hp e
  generalize L.g.getD i ([],0)=y at*
  have o1:one1 (Value.int .i64 y.2)=True:=by simp[one1,Aax]
  have gl2:=((Aac.refl K).alloc (.cells true false 1 [.int .i64 y.2] 3)).at_ gl
  have hk2:=hkK.trans ((Aac.refl K).alloc (.cells true false 1 [.int .i64 y.2] 3))
  have ho2:=ho.keeps ((Aac.refl K).alloc (.cells true false 1 [.int .i64 y.2] 3))
  have hln:=Aaa.Bp9 gl
  have hil:IL (K.alloc (.cells true false 1 [.int .i64 y.2] 3)) (slc K.n 0 1 1) [y.2]:=
   ⟨⟨_,_,rfl⟩,by simp[Agw],by rw[Ach rfl rfl];rfl⟩
  simp(disch:=first|assumption|omega)only[P4,seval,gl,gl2,lp,ls,ra,na,Aal,o1]
  refine Aaw (t81 _ hil (by simp)) ?_
  have e:(decide ([y.2].length≤16)&&[y.2].all (inB (L.s.length:Nat)))=inB L.s.length y.2:=by simp
  rw[e]
  cases hb:inB L.s.length y.2 with
  |false=>
   simp(disch:=first|assumption|omega)only[P4,seval]
   exact hret _ _ (hr (bad (stop hb)) _ _ ⟨_,_,_,_,_,_,_,_,_,_,_,_,_,_,_,rfl,(Akj H u).trans hk2⟩)
  |true=>
   simp(disch:=first|assumption|omega)only[P4,seval,hw]
   exact hn _ _ _ ⟨i+1,_,_,rfl,hk2,ho2,by omega,go hb,rfl⟩ (by omega)
 ·have h3:¬(i:Int)<((L.g.length:Nat):Int):=by omega
  simp(disch:=first|assumption|omega)only[P4,seval,gl,lp]
  refine hx 4 _ _ ?_
  rw[List.take_of_length_le (by omega)]at hp
  exact hk _ _ ⟨_,_,_,_,_,_,_,_,_,_,_,_,_,_,_,rfl,hkK,ho,hpre,hp⟩
end Go.AM.Fd

namespace Go.AM.Fd
open Nat (reduceAdd reduceEqDiff reduceLT reduceLeDiff reduceMul reduceSub)
open Go.Proofs Go.AM.F
theorem Bds{L:Ly}{i:Nat}(hi:i<L.r.length)(h:roB L (L.r.getD i rv0.r)=false):Afc L=false:=by
 have:=Agx (p:=roB L) (d:=rv0.r) hi h
 simp only[Afc,this];simp
set_option maxHeartbeats 4000000 in
theorem Bk4{H:Aaa}{u:V4}{xs:List RV}{L:Ly}{Q:AQ}{A:Value}{fr:List Value}{K:Aaa}(h:LyR H u xs L)(hf:Af7 L)(hm:RM A H u L (C3 L) fr K)
 (hk:∀fr K,RM A H u L (C3 L∧L.r.all (roB L)=true) fr K→Q .normal fr K) (hr:Afc L=false→∀fr K,RF A H fr K→Q .ret fr K):W Tryz.prog 0 (Ae5 1 (Ab5 6 f47.body)) Q fr K:=by
 obtain⟨vn,x4,x5,x6,x7,x8,x9,x10,x11,x12,x13,x14,x15,x16,x17,rfl,hkK,ho,hpre⟩:=hm
 have lp:=h.p.len
 have ls:=h.s.len
 have lg:=h.g.len
 have lr:=h.r.len
 rw[h.rlen]at lr
 have ip:=Sl.is h.p
 have is:=Sl.is h.s
 have ig:=Sl.is h.g
 have ir:=Sl.is h.r
 simp(disch:=first|assumption|omega)only[f47,Ae5,Ab5,P3,seval,Aak,Aat]
 rw[Aah]
 refine Aan (fun k fr K=>∃i x8 xc xd,fr=[A,ptr H.n 0,.bool false,vn,x4,x5,x6,.int .i64 ((i:Nat):Int),x8,x9,x10,x11,x12,x13,x14,x15,xc,xd]∧Aac (vB H u) K∧OW 9 1 H K vn ((Acr L).map Akv)∧i≤L.r.length∧(L.r.take i).all (roB L)=true∧k=L.r.length-i) L.r.length
  ⟨0,_,_,_,rfl,hkK,ho,by omega,by simp,rfl⟩ ?_
 clear hkK ho
 rintro Q' k fr K ⟨i,x8,xc,xd,rfl,hkK,ho,hi,hp,rfl⟩ hn hx hret
 have gl:=hkK.at_ (Auh H u)
 simp only[V4.l]at gl
 by_cases hlt:i<L.r.length
 ·have hlt':i<xs.length:=by rw[h.rlen];exact hlt
  obtain⟨na,ra⟩:=RL.at_ (h.r.keeps ((Akj H u).trans hkK)) hlt'
  obtain⟨xok,xr⟩:=h.rat hlt
  have hbl:=Sl.bn_le (h.r.keeps ((Akj H u).trans hkK)) (by intro e;simp at e;rw[e]at hlt';simp at hlt') (by omega)
  have h1:(0:Int)≤(i:Int):=by omega
  have h2:(i:Int)<((lenS u.r:Nat):Int):=by omega
  have h3:(i:Int)<((L.r.length:Nat):Int):=by omega
  have hw:IntKind.i64.wrap ((i:Int)+1)=((i+1:Nat):Int):=by rw[Aae (by omega) (by have:=hf.r.1;omega)];simp
  have hlen:=hf.r.2 _ (Ad2 (d:=rv0.r) hlt)
  have stop:=Bds hlt
  have go:=fun e=>Agh (p:=roB L) (d:=rv0.r) hlt hp e
  rw[←xr]at stop go hlen
  clear xr
  generalize xs.getD i rv0=y at*
  simp only[RV.row]at ra
  have iP:=Sl.is xok.p
  have iQ:=Sl.is xok.q
  have iO:=Sl.is xok.o
  have iF:=Sl.is xok.f
  have o1:one1 (Value.int .i64 y.r.g)=True:=by simp[one1,Aax]
  have o2:one1 (Value.string ⟨y.r.n.toArray⟩)=True:=by simp[one1,Abe]
  have o3:=Aas iP
  have o4:=Aas iQ
  have o5:=Aas iO
  have o6:=Aas iF
  obtain⟨row,hrow⟩:∃row,row=[.string ⟨y.r.n.toArray⟩,.int .i64 y.r.g,y.vp,y.vq,y.vo,y.vf]:=⟨_,rfl⟩
  have k1:=(Aac.refl K).alloc (.cells true false 6 row 87)
  have gv1:=Aaa.Bp6 K (.cells true false 6 row 87)
  obtain⟨K1,hK1⟩:∃X,X=K.alloc (.cells true false 6 row 87):=⟨_,rfl⟩
  have n1:K1.n=K.n+1:=by rw[hK1];rfl
  have k2:=(Aac.refl K1).alloc (.cells true false 1 [.int .i64 y.r.g] 3)
  obtain⟨K2,hK2⟩:∃X,X=K1.alloc (.cells true false 1 [.int .i64 y.r.g] 3):=⟨_,rfl⟩
  have n2:K2.n=K1.n+1:=by rw[hK2];rfl
  have hil:IL K2 (slc K1.n 0 1 1) [y.r.g]:=by
   rw[hK2];exact⟨⟨_,_,rfl⟩,by simp[Agw],by rw[Ach rfl rfl];rfl⟩
  rw[←hK1]at k1 gv1
  rw[←hK2]at k2
  have gv2:=k2.at_ gv1
  have gl2:=(k1.trans k2).at_ gl
  have hk2:=hkK.trans (k1.trans k2)
  have ho2:=ho.keeps (k1.trans k2)
  have xk:=xok.keeps ((Akj H u).trans hk2)
  have fin:∀{X:Aaa} {x8 xc xd:Value},Aac (vB H u) X→roB L y.r=false→Q' .ret [A,ptr H.n 0,.bool false,vn,x4,x5,x6,.int .i64 ((i:Nat):Int),x8,x9,x10,x11,x12,x13,x14,x15,xc,xd] X:=
   fun hX e=>hret _ _ (hr (stop e) _ _ ⟨_,_,_,_,_,_,_,_,_,_,_,_,_,_,_,rfl,(Akj H u).trans hX⟩)
  have hln:=Aaa.Bp9 gl
  subst hrow
  simp(disch:=first|assumption|omega|(simp only[LN]<;>omega)|(simp(disch:=first|assumption|omega|(simp only[LN]<;>omega))only[Aab,Aad];assumption))only[P4,seval,gl,lr,lg,ra,na,Aai,o1,o2,o3,o4,o5,o6]
  rw[←hK1,←hK2,←n1]
  refine Aaw (t81 _ hil (by simp)) ?_
  have e:(decide ([y.r.g].length≤16)&&[y.r.g].all (inB (L.g.length:Nat)))=inB L.g.length y.r.g:=by simp
  rw[e]
  have lP:=hlen.2.1
  have lQ:=hlen.2.2.1
  have lO:=hlen.2.2.2.1
  have lF:=hlen.2.2.2.2
  have e1:roB L y.r=(inB L.g.length y.r.g&&((decide (y.r.path.length≤16)&&y.r.path.all (inB L.s.length))&&((decide (y.r.ov.length≤16)&&y.r.ov.all (inB L.s.length))&&(Ah2 L.p.length y.r.pts&&Ah2 L.p.length y.r.fl)))):=by
   simp only[roB]
   cases inB L.g.length y.r.g<;>cases decide (y.r.path.length≤16)<;>cases decide (y.r.ov.length≤16)<;>cases y.r.path.all (inB L.s.length)<;>cases y.r.ov.all (inB L.s.length)<;>rfl
  cases hb:inB L.g.length y.r.g with
  |false=>
   simp(disch:=first|assumption|omega)only[P4,seval]
   exact fin hk2 (by rw[e1,hb];rfl)
  |true=>
  simp(disch:=first|assumption|omega)only[P4,seval,gv2,gl2,ls]
  refine Aaw (t81 _ xk.p lP) ?_
  cases hbp:(decide (y.r.path.length≤16)&&y.r.path.all (inB (L.s.length:Nat)))with
  |false=>
   simp(disch:=first|assumption|omega)only[P4,seval]
   exact fin hk2 (by rw[e1,hbp];simp)
  |true=>
  simp(disch:=first|assumption|omega)only[P4,seval,gv2,gl2,ls]
  refine Aaw (t81 _ xk.o lO) ?_
  cases hbo:(decide (y.r.ov.length≤16)&&y.r.ov.all (inB (L.s.length:Nat)))with
  |false=>
   simp(disch:=first|assumption|omega)only[P4,seval]
   exact fin hk2 (by rw[e1,hbo];simp)
  |true=>
  simp(disch:=first|assumption|omega)only[P4,seval,gv2,gl2,ls]
  refine Aag (t82 xk.q lQ) ?_
  rintro wq K3 ⟨hq,k3⟩
  have gl3:=k3.at_ gl2
  have gv3:=k3.at_ gv2
  have hln2:=Aaa.Bp9 gl2
  have xk3:=xk.keeps k3
  simp(disch:=first|assumption|omega)only[P4,seval,gl2,gl3,gv3,lp]
  refine Aag (t81 _ hq (by rw[List.length_map,List.length_take];omega)) ?_
  rintro _ X ⟨rfl,hX⟩
  rw[hX,Apx]
  cases hbq:Ah2 L.p.length y.r.pts with
  |false=>
   simp(disch:=first|assumption|omega)only[P4,seval]
   exact fin (hk2.trans k3) (by rw[e1,hbq];simp)
  |true=>
  simp(disch:=first|assumption|omega)only[P4,seval,gl3,gv3,lp]
  refine Aag (t82 xk3.f lF) ?_
  rintro wf K4 ⟨hfl,k4⟩
  have gl4:=k4.at_ gl3
  have hln3:=Aaa.Bp9 gl3
  simp(disch:=first|assumption|omega)only[P4,seval,gl3,gl4,lp]
  refine Aag (t81 _ hfl (by rw[List.length_map,List.length_take];omega)) ?_
  rintro _ X ⟨rfl,hX⟩
  rw[hX,Apx]
  have hk4:=(hk2.trans k3).trans k4
  cases hbf:Ah2 L.p.length y.r.fl with
  |false=>
   simp(disch:=first|assumption|omega)only[P4,seval]
   exact fin hk4 (by rw[e1,hbf];simp)
  |true=>
   simp(disch:=first|assumption|omega)only[P4,seval,hw]
   exact hn _ _ _ ⟨i+1,_,_,_,rfl,hk4,(ho2.keeps k3).keeps k4,by omega,go (by rw[e1,hb,hbp,hbo,hbq,hbf];rfl),rfl⟩ (by omega)
 ·have h3:¬(i:Int)<((L.r.length:Nat):Int):=by omega
  simp(disch:=first|assumption|omega)only[P4,seval,gl,lr]
  refine hx 6 _ _ ?_
  rw[List.take_of_length_le (by omega)]at hp
  exact hk _ _ ⟨_,_,_,_,_,_,_,_,_,_,_,_,_,_,_,rfl,hkK,ho,hpre,hp⟩
set_option maxHeartbeats 1000000 in
theorem t47{H:Aaa}{u:V4}{xs:List RV}{L:Ly}(h:LyR H u xs L)(hf:Af7 L):∃w H',Aau Tryz.prog 0 47 [.agg u.l.toArray] H w H'∧w=.bool (Afc L)∧H'=H:=by
 refine gcb ?_
 refine Aaq Azz Bac ?_
 intro Q hq1 hq2
 have os:=Sl.one h.s
 have op:=Sl.one h.p
 have og:=Sl.one h.g
 have or:=Sl.one h.r
 have kv:=Akj H u
 have hv:=h.keeps kv
 have gv:=Auh H u
 cases hfu:Agy L with
 |true=>
  have hm:Afc L=false:=by simp[Afc,hfu]
  rw[hm]at hq2
  unfold vB at*
  obtain⟨us,up,ug,ur⟩:=u
  simp only[V4.l]at*
  simp(disch:=first|assumption|omega|(simp only[LN]<;>omega)|(simp(disch:=first|assumption|omega|(simp only[LN]<;>omega))only[Aab,Aad];assumption))only[f47,P4,seval,os,op,og,or]
  refine Aag (t77 hv) ?_
  rintro _ X ⟨rfl,rfl⟩
  rw[hfu]
  simp(disch:=first|assumption|omega)only[P4,seval]
  exact hq2 _ _ ⟨_,rfl,rfl,kv⟩
 |false=>
  have hle:(Acr L).length≤1000000000:=by
   simp only[Agy,Bool.or_eq_false_iff,decide_eq_false_iff_not]at hfu
   simp only[Acr,List.length_append,List.length_map];omega
  have ret:Afc L=false→∀fr K,RF (.agg u.l.toArray) H fr K→Q .ret fr K:=by
   rintro e fr K ⟨x3,x4,x5,x6,x7,x8,x9,x10,x11,x12,x13,x14,x15,x16,x17,rfl,k⟩
   exact hq2 _ _ ⟨_,rfl,by rw[e];rfl,k⟩
  refine Acv 3 (RM (.agg u.l.toArray) H u L True) (by kernel_rfl) ?_ (fun fr K m=>?_)
  ·intro Q' a _ _
   unfold RM vB at*
   obtain⟨us,up,ug,ur⟩:=u
   simp only[V4.l]at*
   simp(disch:=first|assumption|omega|(simp only[LN]<;>omega)|(simp(disch:=first|assumption|omega|(simp only[LN]<;>omega))only[Aab,Aad];assumption))only[f47,Ae5,P4,seval,os,op,og,or]
   refine Aag (t77 hv) ?_
   rintro _ X ⟨rfl,hX⟩
   rw[hX,hfu]
   simp(disch:=first|assumption|omega|(simp only[LN]<;>omega)|(simp(disch:=first|assumption|omega|(simp only[LN]<;>omega))only[Aab,Aad];assumption))only[P4,seval]
   refine Aag (t78 hv hf) ?_
   rintro wn K ho
   simp(disch:=first|assumption|omega)only[P4,seval]
   exact a _ _ ⟨_,_,_,_,_,_,_,_,_,_,_,_,_,_,_,rfl,ho.k,ho.base kv,trivial⟩
  refine Acv 1 (RM (.agg u.l.toArray) H u L (okN (Acr L)=true)) (by kernel_rfl) (fun Q' a _ b=>Bk1 hf hle m a (fun e fr K k=>b _ _ (ret e fr K k))) (fun fr K m=>?_)
  refine Acv 1 (RM (.agg u.l.toArray) H u L (C2 L)) (by kernel_rfl) (fun Q' a _ b=>Bk2 h hf m a (fun e fr K k=>b _ _ (ret e fr K k))) (fun fr K m=>?_)
  refine Acv 1 (RM (.agg u.l.toArray) H u L (C3 L)) (by kernel_rfl) (fun Q' a _ b=>Bk3 h hf m a (fun e fr K k=>b _ _ (ret e fr K k))) (fun fr K m=>?_)
  refine Acv 1 (RM (.agg u.l.toArray) H u L (C3 L∧L.r.all (roB L)=true)) (by kernel_rfl) (fun Q' a _ b=>Bk4 h hf m a (fun e fr K k=>b _ _ (ret e fr K k))) (fun fr K m=>?_)
  obtain⟨vn,x4,x5,x6,x7,x8,x9,x10,x11,x12,x13,x14,x15,x16,x17,rfl,hkK,ho,⟨⟨c1,c2⟩,c3⟩,c4⟩:=m
  simp(disch:=first|assumption|omega)only[f47,Ab5,P4,seval]
  refine hq2 _ _ ⟨_,rfl,?_,kv.trans hkK⟩
  rw[Afc,hfu,c1,c2,c3,c4];rfl
end Go.AM.Fd

namespace Go.AM.Fd
open Nat (reduceAdd reduceEqDiff reduceLT reduceLeDiff reduceMul reduceSub)
open Go.Proofs Go.AM.F
structure Aih (T:Nat) (L:Ly):Prop where
 s:L.s.length≤T∧∀x∈L.s,x.length≤T
 p:L.p.length≤T∧∀x∈L.p,x.1.length≤T
 g:L.g.length≤T∧∀x∈L.g,x.1.length≤T
 r:L.r.length≤T∧∀x∈L.r,x.n.length≤T∧x.path.length≤T∧x.pts.length≤T∧x.ov.length≤T∧x.fl.length≤T
def WG(A:Value)(H:Aaa)(u:V4)(top:Nat)(fr:List Value)(K:Aaa):Prop:=
 ∃(n:Int) (x5 x6 x7 x8 x9 x10 x11 x12 x13 x14:Value),fr=[A,.int .i64 ((top:Nat):Int),ptr H.n 0,.int .i64 0,.int .i64 n,x5,x6,x7,x8,x9,x10,x11,x12,x13,x14]∧Aac (vB H u) K
set_option maxHeartbeats 1000000 in
theorem wgt1{H:Aaa}{u:V4}{xs:List RV}{L:Ly}{Q:AQ}{A:Value}{fr:List Value}{K:Aaa}{top:Nat}(ht:top≤1000000)(h:LyR H u xs L)(hf:Aih 9223372036854775807 L)(hm:WG A H u top fr K)
 (hk:∀fr K,WG A H u top fr K→Q .normal fr K):W Tryz.prog 0 (Ae5 1 (Ab5 2 f7.body)) Q fr K:=by
 obtain⟨n0,x5,x6,x7,x8,x9,x10,x11,x12,x13,x14,rfl,hkK⟩:=hm
 have lp:=h.s.len
 have ip:=Sl.is h.s
 simp(disch:=first|assumption|omega)only[f7,Ae5,Ab5,P3,seval,Aak,Aat]
 rw[Aah]
 refine Aan (fun k fr K=>∃i n xc,fr=[A,.int .i64 ((top:Nat):Int),ptr H.n 0,.int .i64 0,.int .i64 n,.int .i64 ((i:Nat):Int),x6,x7,x8,x9,xc,x11,x12,x13,x14]∧Aac (vB H u) K∧i≤L.s.length∧k=L.s.length-i) L.s.length
  ⟨0,n0,_,rfl,hkK,by omega,rfl⟩ ?_
 clear hkK
 rintro Q' k fr K ⟨i,n,xc,rfl,hkK,hi,rfl⟩ hn hx hret
 have gl:=hkK.at_ (Auh H u)
 simp only[V4.l]at gl
 by_cases hlt:i<L.s.length
 ·have h3:(i:Int)<((L.s.length:Nat):Int):=by omega
  by_cases htn:n≤((top:Nat):Int)
  ·obtain⟨na,ra⟩:=(h.s.keeps ((Akj H u).trans hkK)).at_ hlt
   have h1:(0:Int)≤(i:Int):=by omega
   have h2:(i:Int)<((lenS u.s:Nat):Int):=by omega
   have h4:=htn
   have hlf:=hf.s.1
   have hw:IntKind.i64.wrap ((i:Int)+1)=((i+1:Nat):Int):=by rw[Aae (by omega) (by omega)];simp
   unfold Akv at ra
   simp(disch:=first|assumption|omega)only[P4,seval,gl,lp,ra,na,Aal,Ak7,hw]
   refine hn _ _ _ ⟨i+1,_,_,rfl,hkK,by omega,rfl⟩ (by omega)
  ·have h4:=htn
   simp(disch:=first|assumption|omega)only[P4,seval,gl,lp]
   refine hx 0 _ _ ?_
   exact hk _ _ ⟨n,_,_,_,_,_,_,_,_,_,_,rfl,hkK⟩
 ·have h3:¬(i:Int)<((L.s.length:Nat):Int):=by omega
  simp(disch:=first|assumption|omega)only[P4,seval,gl,lp]
  refine hx 0 _ _ ?_
  exact hk _ _ ⟨n,_,_,_,_,_,_,_,_,_,_,rfl,hkK⟩
set_option maxHeartbeats 1000000 in
theorem wgt2{H:Aaa}{u:V4}{xs:List RV}{L:Ly}{Q:AQ}{A:Value}{fr:List Value}{K:Aaa}{top:Nat}(ht:top≤1000000)(h:LyR H u xs L)(hf:Aih 9223372036854775807 L)(hm:WG A H u top fr K)
 (hk:∀fr K,WG A H u top fr K→Q .normal fr K):W Tryz.prog 0 (Ae5 1 (Ab5 3 f7.body)) Q fr K:=by
 obtain⟨n0,x5,x6,x7,x8,x9,x10,x11,x12,x13,x14,rfl,hkK⟩:=hm
 have lp:=h.p.len
 have ip:=Sl.is h.p
 simp(disch:=first|assumption|omega)only[f7,Ae5,Ab5,P3,seval,Aak,Aat]
 rw[Aah]
 refine Aan (fun k fr K=>∃i n xc,fr=[A,.int .i64 ((top:Nat):Int),ptr H.n 0,.int .i64 0,.int .i64 n,x5,.int .i64 ((i:Nat):Int),x7,x8,x9,x10,xc,x12,x13,x14]∧Aac (vB H u) K∧i≤L.p.length∧k=L.p.length-i) L.p.length
  ⟨0,n0,_,rfl,hkK,by omega,rfl⟩ ?_
 clear hkK
 rintro Q' k fr K ⟨i,n,xc,rfl,hkK,hi,rfl⟩ hn hx hret
 have gl:=hkK.at_ (Auh H u)
 simp only[V4.l]at gl
 by_cases hlt:i<L.p.length
 ·have h3:(i:Int)<((L.p.length:Nat):Int):=by omega
  by_cases htn:n≤((top:Nat):Int)
  ·obtain⟨na,ra⟩:=(h.p.keeps ((Akj H u).trans hkK)).at_ hlt
   have h1:(0:Int)≤(i:Int):=by omega
   have h2:(i:Int)<((lenS u.p:Nat):Int):=by omega
   have h4:=htn
   have hlf:=hf.p.1
   have hw:IntKind.i64.wrap ((i:Int)+1)=((i+1:Nat):Int):=by rw[Aae (by omega) (by omega)];simp
   simp(disch:=first|assumption|omega)only[P4,seval,gl,lp,ra,na,Aal,Ak7,hw]
   refine hn _ _ _ ⟨i+1,_,_,rfl,hkK,by omega,rfl⟩ (by omega)
  ·have h4:=htn
   simp(disch:=first|assumption|omega)only[P4,seval,gl,lp]
   refine hx 2 _ _ ?_
   exact hk _ _ ⟨n,_,_,_,_,_,_,_,_,_,_,rfl,hkK⟩
 ·have h3:¬(i:Int)<((L.p.length:Nat):Int):=by omega
  simp(disch:=first|assumption|omega)only[P4,seval,gl,lp]
  refine hx 2 _ _ ?_
  exact hk _ _ ⟨n,_,_,_,_,_,_,_,_,_,_,rfl,hkK⟩
set_option maxHeartbeats 1000000 in
theorem wgt3{H:Aaa}{u:V4}{xs:List RV}{L:Ly}{Q:AQ}{A:Value}{fr:List Value}{K:Aaa}{top:Nat}(ht:top≤1000000)(h:LyR H u xs L)(hf:Aih 9223372036854775807 L)(hm:WG A H u top fr K)
 (hk:∀fr K,WG A H u top fr K→Q .normal fr K):W Tryz.prog 0 (Ae5 1 (Ab5 4 f7.body)) Q fr K:=by
 obtain⟨n0,x5,x6,x7,x8,x9,x10,x11,x12,x13,x14,rfl,hkK⟩:=hm
 have lp:=h.g.len
 have ip:=Sl.is h.g
 simp(disch:=first|assumption|omega)only[f7,Ae5,Ab5,P3,seval,Aak,Aat]
 rw[Aah]
 refine Aan (fun k fr K=>∃i n xc,fr=[A,.int .i64 ((top:Nat):Int),ptr H.n 0,.int .i64 0,.int .i64 n,x5,x6,.int .i64 ((i:Nat):Int),x8,x9,x10,x11,xc,x13,x14]∧Aac (vB H u) K∧i≤L.g.length∧k=L.g.length-i) L.g.length
  ⟨0,n0,_,rfl,hkK,by omega,rfl⟩ ?_
 clear hkK
 rintro Q' k fr K ⟨i,n,xc,rfl,hkK,hi,rfl⟩ hn hx hret
 have gl:=hkK.at_ (Auh H u)
 simp only[V4.l]at gl
 by_cases hlt:i<L.g.length
 ·have h3:(i:Int)<((L.g.length:Nat):Int):=by omega
  by_cases htn:n≤((top:Nat):Int)
  ·obtain⟨na,ra⟩:=(h.g.keeps ((Akj H u).trans hkK)).at_ hlt
   have h1:(0:Int)≤(i:Int):=by omega
   have h2:(i:Int)<((lenS u.g:Nat):Int):=by omega
   have h4:=htn
   have hlf:=hf.g.1
   have hw:IntKind.i64.wrap ((i:Int)+1)=((i+1:Nat):Int):=by rw[Aae (by omega) (by omega)];simp
   simp(disch:=first|assumption|omega)only[P4,seval,gl,lp,ra,na,Aal,Ak7,hw]
   refine hn _ _ _ ⟨i+1,_,_,rfl,hkK,by omega,rfl⟩ (by omega)
  ·have h4:=htn
   simp(disch:=first|assumption|omega)only[P4,seval,gl,lp]
   refine hx 4 _ _ ?_
   exact hk _ _ ⟨n,_,_,_,_,_,_,_,_,_,_,rfl,hkK⟩
 ·have h3:¬(i:Int)<((L.g.length:Nat):Int):=by omega
  simp(disch:=first|assumption|omega)only[P4,seval,gl,lp]
  refine hx 4 _ _ ?_
  exact hk _ _ ⟨n,_,_,_,_,_,_,_,_,_,_,rfl,hkK⟩
set_option maxHeartbeats 2000000 in
theorem wgt4{H:Aaa}{u:V4}{xs:List RV}{L:Ly}{Q:AQ}{A:Value}{fr:List Value}{K:Aaa}{top:Nat}(ht:top≤1000000)(h:LyR H u xs L)(hf:Aih 9223372036854775807 L)(hm:WG A H u top fr K)
 (hk:∀fr K,WG A H u top fr K→Q .normal fr K):W Tryz.prog 0 (Ae5 1 (Ab5 5 f7.body)) Q fr K:=by
 obtain⟨n0,x5,x6,x7,x8,x9,x10,x11,x12,x13,x14,rfl,hkK⟩:=hm
 have lp:=h.r.len
 rw[h.rlen]at lp
 have ip:=Sl.is h.r
 simp(disch:=first|assumption|omega)only[f7,Ae5,Ab5,P3,seval,Aak,Aat]
 rw[Aah]
 refine Aan (fun k fr K=>∃i n x9 xc xd,fr=[A,.int .i64 ((top:Nat):Int),ptr H.n 0,.int .i64 0,.int .i64 n,x5,x6,x7,.int .i64 ((i:Nat):Int),x9,x10,x11,x12,xc,xd]∧Aac (vB H u) K∧i≤L.r.length∧k=L.r.length-i) L.r.length
  ⟨0,n0,_,_,_,rfl,hkK,by omega,rfl⟩ ?_
 clear hkK
 rintro Q' k fr K ⟨i,n,x9,xc,xd,rfl,hkK,hi,rfl⟩ hn hx hret
 have gl:=hkK.at_ (Auh H u)
 simp only[V4.l]at gl
 by_cases hlt:i<L.r.length
 ·have h3:(i:Int)<((L.r.length:Nat):Int):=by omega
  by_cases htn:n≤((top:Nat):Int)
  ·have hlt':i<xs.length:=by rw[h.rlen];exact hlt
   obtain⟨na,ra⟩:=RL.at_ (h.r.keeps ((Akj H u).trans hkK)) hlt'
   obtain⟨xok,xr⟩:=h.rat hlt
   have hbl:=Sl.bn_le (h.r.keeps ((Akj H u).trans hkK)) (by intro e;simp at e;rw[e]at hlt';simp at hlt') (by omega)
   have h1:(0:Int)≤(i:Int):=by omega
   have h2:(i:Int)<((lenS u.r:Nat):Int):=by omega
   have h4:=htn
   have hl:=hf.r.2 _ (Ad2 (d:=rv0.r) hlt)
   have hlf:=hf.r.1
   have hw:IntKind.i64.wrap ((i:Int)+1)=((i+1:Nat):Int):=by rw[Aae (by omega) (by omega)];simp
   generalize xs.getD i rv0=y at*
   simp only[RV.row]at ra
   have iP:=Sl.is xok.p
   have iQ:=Sl.is xok.q
   have iO:=Sl.is xok.o
   have iF:=Sl.is xok.f
   have lP:=xok.p.len
   have lQ:=xok.q.len
   have lO:=xok.o.len
   have lF:=xok.f.len
   have o3:=Aas iP
   have o4:=Aas iQ
   have o5:=Aas iO
   have o6:=Aas iF
   obtain⟨m,hm⟩:∃m:Int,m=IntKind.i64.wrap (IntKind.i64.wrap (IntKind.i64.wrap (IntKind.i64.wrap (n+1)+((y.r.n.length:Nat):Int))+((y.r.path.length:Nat):Int))+((y.r.pts.length:Nat):Int)):=⟨_,rfl⟩
   have k1:=hkK.trans ((Aac.refl K).alloc (.cells true false 6 [.string ⟨y.r.n.toArray⟩,.int .i64 y.r.g,y.vp,y.vq,y.vo,y.vf] 87))
   by_cases hmt:m≤((top:Nat):Int)
   ·have h5:=hmt
    simp(disch:=first|assumption|omega|(simp only[LN]<;>omega)|(simp(disch:=first|assumption|omega|(simp only[LN]<;>omega))only[Aab,Aad];assumption))only[P4,seval,gl,lp,ra,na,Aai,Ak7,lP,lQ,lO,lF,o3,o4,o5,o6,hw,←hm]
    refine hn _ _ _ ⟨i+1,_,_,_,_,rfl,k1,by omega,rfl⟩ (by omega)
   ·have h5:=hmt
    simp(disch:=first|assumption|omega|(simp only[LN]<;>omega)|(simp(disch:=first|assumption|omega|(simp only[LN]<;>omega))only[Aab,Aad];assumption))only[P4,seval,gl,lp,ra,na,Aai,Ak7,lP,lQ,lO,lF,o3,o4,o5,o6,hw,←hm]
    refine hn _ _ _ ⟨i+1,m,_,_,_,rfl,k1,by omega,rfl⟩ (by omega)
  ·have h4:=htn
   simp(disch:=first|assumption|omega)only[P4,seval,gl,lp]
   refine hx 6 _ _ ?_
   exact hk _ _ ⟨n,_,_,_,_,_,_,_,_,_,_,rfl,hkK⟩
 ·have h3:¬(i:Int)<((L.r.length:Nat):Int):=by omega
  simp(disch:=first|assumption|omega)only[P4,seval,gl,lp]
  refine hx 6 _ _ ?_
  exact hk _ _ ⟨n,_,_,_,_,_,_,_,_,_,_,rfl,hkK⟩
theorem t7{H:Aaa}{u:V4}{xs:List RV}{L:Ly}{top:Nat}(ht:top≤1000000)(h:LyR H u xs L)(hf:Aih 9223372036854775807 L):∃w H',Aau Tryz.prog 0 7 [.agg u.l.toArray,.int .i64 ((top:Nat):Int)] H w H'∧(∃n:Int,w=.int .i64 n)∧H'=H:=by
 suffices h':∃w H',Aau Tryz.prog 0 7 [.agg u.l.toArray,.int .i64 ((top:Nat):Int)] H w H'∧(∃n:Int,w=.int .i64 n)∧Aac H H' by
  obtain⟨_,_,a,⟨n,rfl⟩,k⟩:=h'
  exact⟨_,_,a.gc0 k (.inr (.int _ _)),⟨n,rfl⟩,rfl⟩
 refine Aaq Bjj f7_n ?_
 intro Q hq1 hq2
 refine Acv 2 (WG (.agg u.l.toArray) H u top) (by kernel_rfl) ?_ (fun fr K m=>?_)
 ·intro Q' a _ _
  have os:=Sl.one h.s
  have op:=Sl.one h.p
  have og:=Sl.one h.g
  have or:=Sl.one h.r
  unfold WG vB at*
  obtain⟨us,up,ug,ur⟩:=u
  simp only[V4.l]at*
  simp(disch:=first|assumption|omega)only[f7,Ae5,P4,seval,os,op,og,or]
  exact a _ _ ⟨0,_,_,_,_,_,_,_,_,_,_,rfl,Aac.refl _⟩
 refine Acv 1 (WG (.agg u.l.toArray) H u top) (by kernel_rfl) (fun Q' a _ _=>wgt1 ht h hf m a) (fun fr K m=>?_)
 refine Acv 1 (WG (.agg u.l.toArray) H u top) (by kernel_rfl) (fun Q' a _ _=>wgt2 ht h hf m a) (fun fr K m=>?_)
 refine Acv 1 (WG (.agg u.l.toArray) H u top) (by kernel_rfl) (fun Q' a _ _=>wgt3 ht h hf m a) (fun fr K m=>?_)
 refine Acv 1 (WG (.agg u.l.toArray) H u top) (by kernel_rfl) (fun Q' a _ _=>wgt4 ht h hf m a) (fun fr K m=>?_)
 obtain⟨n,x5,x6,x7,x8,x9,x10,x11,x12,x13,x14,rfl,hkK⟩:=m
 simp(disch:=first|assumption|omega)only[f7,Ab5,P4,seval]
 exact hq2 _ _ ⟨_,rfl,⟨n,rfl⟩,(Akj H u).trans hkK⟩
end Go.AM.Fd
