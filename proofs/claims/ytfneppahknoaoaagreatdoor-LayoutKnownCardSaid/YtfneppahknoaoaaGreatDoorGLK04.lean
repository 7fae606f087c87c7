/- Part of the proof. -/
import Derived.Test.YtfneppahknoaoaaGreatDoorGLK03
import Derived.Shelf.Bytes.WriteStringAt
import Derived.Lib.Join
import Derived.Shelf.RegionOpenPlain
import Derived.Lib.Walk
import Derived.Lib.Hide
import Derived.RegionTactic
import Derived.Deep.RegionWith
import Derived.Deep.Draws
import Derived.BigCall
import Derived.BigGuard
import Derived.LoopTactic
import Derived.Shelf.Bytes.StringAt
import Derived.Shelf.Strings.OnBuilder
set_option linter.unusedSimpArgs false
set_option linter.unusedVariables false
namespace Go.AM.Fd
open Nat (reduceAdd reduceEqDiff reduceLT reduceLeDiff reduceMul reduceSub)
open Go.Proofs Go.AM.F
abbrev Row:=Value×List (List UInt8)
def thG(w:Row):Th:=thA 9 1 w.1 w.2.length (txs w.2)
def outC(ws:List Row):List Value:=(ws.map (·.1)).reverse
def GS(N:Nat)(H:AHeap)(v:Value)(ws:List Row)(rs:List Row):Prop:=
 Sep H (thA 23 1 v ws.length (outC ws)::rs.map thG)∧Fresh N v∧∀w∈rs,Fresh N w.1
def grp(acc:List (List (List UInt8)))(t:List UInt8):List (List (List UInt8)):=if t=[58]then[]::acc else match acc with
 |g::r=>(g++[t])::r
 |[]=>[[t]]
def groupsB(ts:List (List UInt8)):List (List (List UInt8)):=(ts.foldl grp [[]]).reverse
theorem grp_take{ts:List (List UInt8)}{i:Nat}(h:i<ts.length)(a:List (List (List UInt8))):(ts.take (i+1)).foldl grp a=grp ((ts.take i).foldl grp a) (ts.getD i []):=by
 rw[List.take_add_one,List.getElem?_eq_getElem h,List.foldl_append]
 simp[List.getD,List.getElem?_eq_getElem h]
theorem GS.addNil{N:Nat}{H:AHeap}{v:Value}{ws rs:List Row}(h:GS N H v ws rs):GS N H v ws ((.slice none 0 0,[])::rs):=by
 obtain⟨h1,h2,h3⟩:=h
 refine⟨⟨?_,?_⟩,h2,?_⟩
 ·intro t ht
  simp only[List.map_cons,List.mem_cons]at ht
  rcases ht with rfl|rfl|ht
  ·exact h1.all _ (by simp)
  ·exact .inl ⟨rfl,rfl,rfl⟩
  ·exact h1.all t (by simp[ht])
 ·have hp:=List.pairwise_cons.1 h1.ap
  refine List.pairwise_cons.2 ⟨?_,List.pairwise_cons.2 ⟨fun a ha b hb=>by simp[thG,thA,blkL,blk]at hb,hp.2⟩⟩
  intro a ha
  simp only[List.map_cons,List.mem_cons]at ha
  rcases ha with rfl|ha
  ·intro b hb hb2;simp[thG,thA,blkL,blk]at hb2
  ·exact hp.1 a ha
 ·intro w hw
  rcases List.mem_cons.1 hw with rfl|hw
  ·intro b hb;cases hb
  ·exact h3 w hw
theorem GS.outer{N:Nat}{H K:AHeap}{v v':Value}{ws ws' rs:List Row}(h:GS N H v ws rs)(hN:N≤H.n)(c:Chg (blkL v) H K)(ha:AP K 23 1 v' ws'.length (outC ws'))(hb:blk v'=blk v∨(∃b,blk v'=some b∧H.n≤b)):GS N K v' ws' rs:=by
 have hf:∀y∈blkL v',y∈blkL v∨H.n≤y:=fun y hy=>by
  have hy:=mem_blkL.1 hy
  rcases hb with e|⟨b,e,hb⟩
  ·exact .inl (mem_blkL.2 (by rw[←e];exact hy))
  ·rw[e]at hy;cases hy;exact .inr hb
 refine⟨Sep.upd (l:=[]) h.1 c ha hf,?_,h.2.2⟩
 intro y hy
 rcases hf y (mem_blkL.2 hy)with e|e
 ·exact h.2.1 y (mem_blkL.1 e)
 ·omega
theorem GS.row{N:Nat}{H K:AHeap}{v u':Value}{g':List (List UInt8)}{w:Row}{ws rs:List Row}(h:GS N H v ws (w::rs))(hN:N≤H.n)(c:Chg (blkL w.1) H K)(ha:AP K 9 1 u' g'.length (txs g'))(hb:blk u'=blk w.1∨(∃b,blk u'=some b∧H.n≤b)):GS N K v ws ((u',g')::rs):=by
 have hf:∀y∈blkL u',y∈blkL w.1∨H.n≤y:=fun y hy=>by
  have hy:=mem_blkL.1 hy
  rcases hb with e|⟨b,e,hb⟩
  ·exact .inl (mem_blkL.2 (by rw[←e];exact hy))
  ·rw[e]at hy;cases hy;exact .inr hb
 refine⟨Sep.upd (l:=[_]) (t:=thG w) (t':=thG (u',g')) (r:=rs.map thG) h.1 c ha hf,h.2.1,?_⟩
 intro x hx
 rcases List.mem_cons.1 hx with rfl|hx
 ·intro y hy
  rcases hf y (mem_blkL.2 hy)with e|e
  ·exact h.2.2 w (by simp) y (mem_blkL.1 e)
  ·omega
 ·exact h.2.2 x (by simp[hx])
theorem GS.out{N:Nat}{H:AHeap}{v:Value}{ws rs:List Row}(h:GS N H v ws rs):AP H 23 1 v ws.length (outC ws):=h.1.all (thA 23 1 v ws.length (outC ws)) (by simp)
theorem GS.top{N:Nat}{H:AHeap}{v:Value}{w:Row}{ws rs:List Row}(h:GS N H v ws (w::rs)):AP H 9 1 w.1 w.2.length (txs w.2):=h.1.all (thG w) (by simp)
theorem GS.apart{N:Nat}{H:AHeap}{v:Value}{w:Row}{ws rs:List Row}(h:GS N H v ws (w::rs)){b:Nat}(hb:blk v=some b):blk w.1≠some b:=fun e=>
 (List.pairwise_cons.1 h.1.ap).1 (thG w) (by simp) b (mem_blkL.2 hb) (mem_blkL.2 e)
theorem sl_fresh{v v':Value}{H:AHeap}{n:Nat}{o:AO}(h:blk v'=blk v∨blk v'=some (H.alloc o).n)(hn:n=H.n):blk v'=blk v∨(∃b,blk v'=some b∧n≤b):=by
 rcases h with h|h
 ·exact .inl h
 ·exact .inr ⟨_,h,by simp[AHeap.alloc];omega⟩
theorem outC_len(ws:List Row):(outC ws).length=ws.length:=by simp[outC]
theorem outC_cons(w:Row)(ws:List Row):outC (w::ws)=outC ws++[w.1]:=by simp[outC]
theorem outC_top(w:Row)(ws:List Row):(outC (w::ws))[ws.length]? =some w.1:=by
 rw[outC_cons,List.getElem?_append_right (by rw[outC_len];omega),outC_len];simp
theorem outC_set(w:Row)(u:Value)(g:List (List UInt8))(ws:List Row):(outC (w::ws)).set ws.length u=outC ((u,g)::ws):=by
 rw[outC_cons,outC_cons,List.set_append_right _ _ (by rw[outC_len];omega),outC_len];simp
theorem t67{H:AHeap}{vl:Value}{ts:List (List UInt8)}(ht:TL H vl ts)(hl:ts.length≤1000000):∃w K,ARun Tryz.prog 4 67 [vl] H w K∧Keeps H K∧∃ws,GS H.n K w ws ws∧(ws.map (·.2)).reverse=groupsB ts:=by
 refine walk2 f67_ok f67_n ?_
 intro Q hq1 hq2
 have hfl0:fillA [.slice none 0 0] [(0,1,.slice none 0 0)]=some [.slice none 0 0]:=rfl
 have ll:=ht.len
 have il:=Sl.is ht
 simp(disch:=first|assumption|omega)only[f67,P3,seval,initFr,clsA,hfl0,ll]
 rw[W_block]
 have hG0:GS H.n (H.alloc (.cells true false 1 [.slice none 0 0] 23)) (slc H.n 0 1 1) [(.slice none 0 0,[])] [(.slice none 0 0,[])]:=by
  refine GS.addNil ⟨⟨fun t ht=>?_,by simp⟩,fun b hb=>by cases hb;exact Nat.le_refl _,by simp⟩
  simp only[List.map_nil,List.mem_singleton]at ht
  subst ht
  exact .inr ⟨H.n,false,rfl,rfl,AHeap.get_alloc_new _ _⟩
 refine W_loop2 (fun k fr K=>∃i v ws x3 x4 x8 x9,fr=[vl,.slice none 0 0,v,x3,x4,vl,.int .i64 ((ts.length:Nat):Int),.int .i64 ((i:Nat):Int),x8,x9]∧Keeps H K∧GS H.n K v ws ws∧ws.map (·.2)=(ts.take i).foldl grp [[]]∧
  1≤ws.length∧ws.length≤i+1∧(∀w∈ws,w.2.length≤i)∧i≤ts.length∧k=ts.length-i) ts.length
  ⟨0,_,[(.slice none 0 0,[])],_,_,_,_,rfl,(Keeps.refl H).alloc _,hG0,rfl,by simp,by simp,by simp,by omega,rfl⟩ ?_
 rintro Q' k fr K ⟨i,v,ws,x3,x4,x8,x9,rfl,hk,hG,hws,h1,h2,h3,hi,rfl⟩ hn hx hret
 have hkn:=hk.n
 by_cases hlt:i<ts.length
 ·have ht2:=ht.keeps hk
  obtain⟨na,ra⟩:=ht2.at_ hlt
  unfold tRow at ra
  have c1:(i:Int)<((ts.length:Nat):Int):=by omega
  have c2:(i:Int)<((lenS vl:Nat):Int):=by omega
  have c0:(0:Int)≤(i:Int):=by omega
  have hw:IntKind.i64.wrap ((i:Int)+1)=((i+1:Nat):Int):=by rw[wrap_i64 (by omega) (by omega)];simp
  have hgr:=grp_take hlt [[]]
  rw[←hws]at hgr
  obtain⟨t,htt⟩:∃t,ts.getD i []=t:=⟨_,rfl⟩
  rw[htt]at ra hgr
  by_cases hc:t=[58]
  ·have e:decide (t=[58])=true:=by simpa using hc
   have k4:=(Keeps.refl K).alloc (.cells true false 1 [.slice none 0 0] 23)
   simp(disch:=first|assumption|omega)only[W_block,P3,seval,initFr,clsA,ra,na,a_load1v,bytes_eq,e,hfl0]
   refine appG (hG.out.keeps k4) ⟨_,_,rfl⟩ (elems_new rfl rfl) rfl (by omega) ?_
   intro v' K2 a2 ch b2
   simp(disch:=first|assumption|omega)only[W_block,P3,seval,initFr,clsA,hw]
   have c24:Chg (blkL v) K K2:=(k4.chg _).trans ch (fun y hy=>.inl hy)
   have hG2:=(hG.outer (ws':=(.slice none 0 0,[])::ws) hkn c24 (by rw[outC_cons];simpa using a2) (sl_fresh b2 rfl)).addNil
   refine hn _ _ _ ⟨i+1,v',(.slice none 0 0,[])::ws,_,_,_,_,rfl,hk.chg_trans c24 hG.2.1.L,hG2,?_,by simp,by simp;omega,?_,by omega,rfl⟩ (by omega)
   ·rw[hgr];simp[grp,hc]
   ·intro w hw;rcases List.mem_cons.1 hw with rfl|hw
    ·simp
    ·have:=h3 w hw;omega
  ·have e:decide (t=[58])=false:=by simpa using hc
   obtain⟨w,rs,rfl⟩:∃w rs,ws=w::rs:=by
    cases ws with
    |nil=>simp at h1
    |cons w rs=>exact⟨w,rs,rfl⟩
   rcases hG.out with⟨_,hz,_⟩|⟨b,room,rfl,hlen,hget⟩
   ·simp at hz
   ·have hwl:=h3 w (by simp)
    have hrl:rs.length≤i:=by simpa using h2
    have hs1:IntKind.i64.wrap (((rs.length+1:Nat):Int)-1)=((rs.length:Nat):Int):=by rw[wrap_i64 (by omega) (by omega)];simp
    have d0:(0:Int)≤((rs.length:Nat):Int):=by omega
    have d1:((rs.length:Nat):Int)<((rs.length+1:Nat):Int):=by omega
    have hcell:cellO (K.get b) rs.length=some w.1:=by rw[hget,cellO_c];exact outC_top w rs
    have hfl:fillA [.string ByteArray.empty] [(0,1,.string ⟨t.toArray⟩)]=some [.string ⟨t.toArray⟩]:=rfl
    have k4:=(Keeps.refl K).alloc (.cells true false 1 [.string ⟨t.toArray⟩] 9)
    simp(disch:=first|assumption|omega)only[W_block,P3,seval,initFr,clsA,ra,na,a_load1v,bytes_eq,e,hs1,hfl,Int.toNat_natCast,Nat.mul_one,Nat.zero_add,hcell]
    refine appG (hG.top.keeps k4) ⟨_,_,rfl⟩ (elems_new rfl rfl) rfl (by omega) ?_
    intro u' K2 a2 ch b2
    have c24:Chg (blkL w.1) K K2:=(k4.chg _).trans ch (fun y hy=>.inl hy)
    have hget2:K2.get b=some (.cells true room 1 (outC (w::rs)) 23):=c24.at_ hget (fun hm=>hG.apart rfl (mem_blkL.1 hm))
    have hr:=hG.row (g':=w.2++[t]) hkn c24 (by simpa[txs_app]using a2) (sl_fresh b2 rfl)
    have ou:u'.oneCell'=true:=by
     obtain⟨a,ha⟩:=a2.shape
     rw[ha];rfl
    have hlt2:rs.length<(outC (w::rs)).length:=by rw[outC_len];simp
    have hb2:=AHeap.get_lt hget2
    simp(disch:=first|assumption|omega)only[W_block,P3,seval,initFr,clsA,hget2,ou,hw]
    have hk2:Keeps H K2:=hk.chg_trans c24 (fun y hy=>hG.2.2 w (by simp) y (mem_blkL.1 hy))
    have hbn:H.n≤b:=hG.2.1 b rfl
    have hr2:=hr.outer (ws':=(u',w.2++[t])::rs) (v':=slc b 0 (rs.length+1) (rs.length+1)) hk2.n (Chg.set K2 hb2 (.cells true room 1 ((outC (w::rs)).set rs.length u') 23) |>.mono (by intro y hy;simp at hy;subst hy;exact mem_blkL.2 rfl))
     (.inr ⟨b,room,rfl,by rw[outC_len];simp,by rw[AHeap.get_set_same hget2];rw[outC_set w u' (w.2++[t]) rs]⟩) (.inl rfl)
    refine hn _ _ _ ⟨i+1,_,(u',w.2++[t])::rs,_,_,_,_,rfl,hk2.set hbn hb2 _,hr2,?_,by simp,by simp;omega,?_,by omega,rfl⟩ (by omega)
    ·rw[hgr];simp[grp,hc]
    ·intro x hx;rcases List.mem_cons.1 hx with rfl|hx
     ·simp;omega
     ·have:=h3 x (by simp[hx]);omega
 ·have c1:¬(i:Int)<((ts.length:Nat):Int):=by omega
  simp(disch:=first|assumption|omega)only[W_block,P3,seval,initFr,clsA]
  refine hx 0 _ _ ?_
  simp(disch:=first|assumption|omega)only[W_block,P3,seval,initFr,clsA]
  refine hq2 _ _ ⟨_,rfl,hk,ws,hG,?_⟩
  rw[hws,List.take_of_length_le (by omega)]
  rfl
end Go.AM.Fd

namespace Go.AM.Fd
open Nat (reduceAdd reduceEqDiff reduceLT reduceLeDiff reduceMul reduceSub)
open Go.Proofs Go.AM.F
theorem AP.fill{H:AHeap}{e esz:Nat}{v:Value}{n:Nat}{c:List Value}(h:AP H e esz v n c):fillA [.slice none 0 0] [(0,1,v)]=some [v]∧v.oneCell'=true:=by
 obtain⟨a,rfl⟩:=h.shape
 exact⟨rfl,rfl⟩
theorem t71{H:AHeap}{vl:Value}{ts:List (List UInt8)}(ht:TL H vl ts)(hl:ts.length≤1000000):∃w K,ARun Tryz.prog 4 71 [vl] H w K∧Keeps H K∧∃ws,GS H.n K w ws ws∧(ws.map (·.2)).reverse=groupsB ts:=by
 refine walk2 f71_ok f71_n ?_
 intro Q hq1 hq2
 have ll:=ht.len
 have il:=Sl.is ht
 simp(disch:=first|assumption|omega)only[f71,P3,seval,initFr,clsA]
 rw[W_block]
 have hG0:GS H.n H (.slice none 0 0) [] [(.slice none 0 0,[])]:=by
  refine GS.addNil ⟨⟨fun t ht=>?_,by simp⟩,(fun b hb=>by cases hb),by simp⟩
  simp only[List.map_nil,List.mem_singleton]at ht
  subst ht
  exact .inl ⟨rfl,rfl,rfl⟩
 refine W_loop2 (fun k fr K=>∃i v gv g rs x5 x6,fr=[vl,.slice none 0 0,v,gv,.int .i64 ((i:Nat):Int),x5,x6]∧Keeps H K∧GS H.n K v rs ((gv,g)::rs)∧g::rs.map (·.2)=(ts.take i).foldl grp [[]]∧
  rs.length≤i∧g.length≤i∧i≤ts.length∧k=ts.length-i) ts.length
  ⟨0,_,_,[],[],_,_,rfl,Keeps.refl H,hG0,rfl,by simp,by simp,by omega,rfl⟩ ?_
 rintro Q' k fr K ⟨i,v,gv,g,rs,x5,x6,rfl,hk,hG,hws,h2,h3,hi,rfl⟩ hn hx hret
 have hkn:=hk.n
 obtain⟨hfg,og⟩:=AP.fill hG.top
 by_cases hlt:i<ts.length
 ·have ht2:=ht.keeps hk
  obtain⟨na,ra⟩:=ht2.at_ hlt
  unfold tRow at ra
  have c1:(i:Int)<((ts.length:Nat):Int):=by omega
  have c2:(i:Int)<((lenS vl:Nat):Int):=by omega
  have c0:(0:Int)≤(i:Int):=by omega
  have hw:IntKind.i64.wrap ((i:Int)+1)=((i+1:Nat):Int):=by rw[wrap_i64 (by omega) (by omega)];simp
  have hgr:=grp_take hlt [[]]
  rw[←hws]at hgr
  obtain⟨t,htt⟩:∃t,ts.getD i []=t:=⟨_,rfl⟩
  rw[htt]at ra hgr
  by_cases hc:t=[58]
  ·have e:decide (t=[58])=true:=by simpa using hc
   have k4:=(Keeps.refl K).alloc (.cells true false 1 [gv] 23)
   simp(disch:=first|assumption|omega)only[W_block,P3,seval,initFr,clsA,ll,ra,na,a_load1v,bytes_eq,e,hfg,og]
   refine appG (hG.out.keeps k4) ⟨_,_,rfl⟩ (elems_new rfl rfl) rfl (by omega) ?_
   intro v' K2 a2 ch b2
   simp(disch:=first|assumption|omega)only[W_block,P3,seval,initFr,clsA,hw]
   have c24:Chg (blkL v) K K2:=(k4.chg _).trans ch (fun y hy=>.inl hy)
   have hG2:=(hG.outer (ws':=(gv,g)::rs) hkn c24 (by rw[outC_cons];simpa using a2) (sl_fresh b2 rfl)).addNil
   refine hn _ _ _ ⟨i+1,v',_,[],(gv,g)::rs,_,_,rfl,hk.chg_trans c24 hG.2.1.L,hG2,?_,by simp;omega,by simp,by omega,rfl⟩ (by omega)
   rw[hgr];simp[grp,hc]
  ·have e:decide (t=[58])=false:=by simpa using hc
   have hfl:fillA [.string ByteArray.empty] [(0,1,.string ⟨t.toArray⟩)]=some [.string ⟨t.toArray⟩]:=rfl
   have k4:=(Keeps.refl K).alloc (.cells true false 1 [.string ⟨t.toArray⟩] 9)
   simp(disch:=first|assumption|omega)only[W_block,P3,seval,initFr,clsA,ll,ra,na,a_load1v,bytes_eq,e,hfl]
   refine appG (hG.top.keeps k4) ⟨_,_,rfl⟩ (elems_new rfl rfl) rfl (by dsimp only;omega) ?_
   intro u' K2 a2 ch b2
   have c24:Chg (blkL gv) K K2:=(k4.chg _).trans ch (fun y hy=>.inl hy)
   have hr:=hG.row (g':=g++[t]) hkn c24 (by simpa[txs_app]using a2) (sl_fresh b2 rfl)
   simp(disch:=first|assumption|omega)only[W_block,P3,seval,initFr,clsA,hw]
   refine hn _ _ _ ⟨i+1,v,u',g++[t],rs,_,_,rfl,hk.chg_trans c24 (fun y hy=>hG.2.2 (gv,g) (by simp) y (mem_blkL.1 hy)),hr,?_,by omega,by simp;omega,by omega,rfl⟩ (by omega)
   rw[hgr];simp[grp,hc]
 ·have c1:¬(i:Int)<((ts.length:Nat):Int):=by omega
  have k4:=(Keeps.refl K).alloc (.cells true false 1 [gv] 23)
  simp(disch:=first|assumption|omega)only[W_block,P3,seval,initFr,clsA,ll]
  refine hx 0 _ _ ?_
  simp(disch:=first|assumption|omega)only[W_block,P3,seval,initFr,clsA,hfg,og]
  refine appG (hG.out.keeps k4) ⟨_,_,rfl⟩ (elems_new rfl rfl) rfl (by omega) ?_
  intro v' K2 a2 ch b2
  simp(disch:=first|assumption|omega)only[W_block,P3,seval,initFr,clsA]
  have c24:Chg (blkL v) K K2:=(k4.chg _).trans ch (fun y hy=>.inl hy)
  have hG2:=hG.outer (ws':=(gv,g)::rs) hkn c24 (by rw[outC_cons];simpa using a2) (sl_fresh b2 rfl)
  refine hq2 _ _ ⟨_,rfl,hk.chg_trans c24 hG.2.1.L,(gv,g)::rs,hG2,?_⟩
  rw[List.map_cons,hws,List.take_of_length_le (by omega)]
  rfl
end Go.AM.Fd

namespace Go.AM.Fd
open Go.Proofs Go.AM.F
theorem GS.rd{N:Nat}{K:AHeap}{v:Value}{ws:List Row}(h:GS N K v ws ws):Sl K 1 v (ws.reverse.map fun x=>[x.1])∧∀x∈ws.reverse,TL K x.1 x.2:=by
 refine⟨?_,fun x hx=>?_⟩
 ·have ho:=h.out
  have e:(ws.reverse.map fun x=>[x.1]).flatten=outC ws:=by
   unfold outC
   rw[←List.map_reverse]
   induction ws.reverse with
   |nil=>rfl
   |cons a l ih=>simp[ih]
  rw[←e]at ho
  exact ho.sl (by intro r hr;obtain⟨x,_,rfl⟩:=List.mem_map.1 hr;rfl) (by simp)
 ·have hx':x∈ws:=List.mem_reverse.1 hx
  have ha:AP K 9 1 x.1 x.2.length (txs x.2):=h.1.all (thG x) (List.mem_cons_of_mem _ (List.mem_map_of_mem hx'))
  have e:txs x.2=(x.2.map tRow).flatten:=by
   unfold txs
   induction x.2 with
   |nil=>rfl
   |cons a l ih=>simp[ih,tRow]
  rw[e]at ha
  exact ha.sl (by intro r hr;obtain⟨x,_,rfl⟩:=List.mem_map.1 hr;rfl) (by simp)
theorem grp_mem:∀(ts:List (List UInt8)) (acc:List (List (List UInt8))) (k:Nat) (A:List (List UInt8)),(∀g∈acc,g.length≤k∧∀x∈g,x∈A)→(∀x∈ts,x∈A)→∀g∈ts.foldl grp acc,g.length≤k+ts.length∧∀x∈g,x∈A
 |[],acc,k,A,h,_,g,hg=>⟨by have:=(h g hg).1;simpa using this,(h g hg).2⟩
 |t::ts,acc,k,A,h,ha,g,hg=>by
  have:=grp_mem ts (grp acc t) (k+1) A (fun g hg=>by
   unfold grp at hg
   split at hg
   ·rcases List.mem_cons.1 hg with rfl|hg
    ·simp
    ·have:=h g hg;exact⟨by omega,this.2⟩
   ·split at hg
    ·rcases List.mem_cons.1 hg with rfl|hg
     ·have:=h _ (List.mem_cons_self ..)
      refine⟨by simp;omega,fun x hx=>?_⟩
      rcases List.mem_append.1 hx with hx|hx
      ·exact this.2 x hx
      ·simp at hx;subst hx;exact ha x (by simp)
     ·have:=h g (by simp[hg]);exact⟨by omega,this.2⟩
    ·simp at hg;subst hg
     exact⟨by simp,fun x hx=>by simp at hx;subst hx;exact ha x (by simp)⟩) (fun x hx=>ha x (by simp[hx])) g hg
  exact⟨by simp;omega,this.2⟩
theorem groups_mem{ts:List (List UInt8)}{g:List (List UInt8)}(h:g∈groupsB ts):g.length≤ts.length∧∀x∈g,x∈ts:=by
 have:=grp_mem ts [[]] 0 ts (fun g hg=>by simp at hg;subst hg;simp) (fun x hx=>hx) g (List.mem_reverse.1 h)
 exact⟨by omega,this.2⟩
theorem _root_.Go.AM.SepH.merges{H K:AHeap}{t:Th}{us r:List Th}(h:SepH H K (us++r))(hp:t.P K)(hf:∀y∈t.F,∃a∈us,y∈a.F):SepH H K (t::r):=by
 have h1:=List.pairwise_append.1 h.sep.ap
 refine⟨⟨fun x hx=>?_,List.pairwise_cons.2 ⟨fun x hx y hy hyx=>?_,h1.2.1⟩⟩,h.k,fun x hx y hy=>?_⟩
 ·rcases List.mem_cons.1 hx with rfl|hx
  ·exact hp
  ·exact h.sep.all x (by simp[hx])
 ·obtain⟨a,ha,hya⟩:=hf y hy
  exact h1.2.2 a ha x hx y hya hyx
 ·rcases List.mem_cons.1 hx with rfl|hx
  ·obtain⟨a,ha,hya⟩:=hf y hy
   exact h.ge a (by simp[ha]) y hya
  ·exact h.ge x (by simp[hx]) y hy
theorem _root_.Go.AM.SepH.join{B H K:AHeap}{ts us:List Th}(h:SepH B H ts)(s:SepH H K us):SepH B K (us++ts):=by
 refine⟨⟨fun x hx=>?_,List.pairwise_append.2 ⟨s.sep.ap,h.sep.ap,fun x hx y hy b hb hb2=>?_⟩⟩,h.k.trans s.k,fun x hx y hy=>?_⟩
 ·rcases List.mem_append.1 hx with hx|hx
  ·exact s.sep.all x hx
  ·exact(h.sep.keeps s.k).all x hx
 ·have:=s.ge x hx b hb
  have:=y.lt H (h.sep.all y hy) b hb2
  omega
 ·rcases List.mem_append.1 hx with hx|hx
  ·have:=s.ge x hx y hy;have:=h.k.n;omega
  ·exact h.ge x hx y hy
theorem tb_blk{v:Value}{e esz n:Nat}{K:AHeap}{c:List Value}(h:AP K e esz v n c):∀y∈tb v,y∈blkL v:=by
 intro y hy
 rcases h with⟨rfl,_,_⟩|⟨b,room,rfl,_,_⟩
 ·simp[tb]at hy
 ·simpa[tb,slc,blkL,blk]using hy
end Go.AM.Fd

namespace Go.AM.Fd
open Nat (reduceAdd reduceEqDiff reduceLT reduceLeDiff reduceMul reduceSub)
open Go.Proofs Go.AM.F
def ne2(L:Ly)(w:List UInt8):Option (Int×Bool):=(kN 81 L (w.take (w.length-1))).map fun i=>(i,sufB [45] w)
def routeQ(L:Ly)(ws g0 g1 g2 g3 g4:List (List UInt8)):Int×Ly:=
 if g0.length≠3∨rightB (ws.getD 1 [])=false∨g2.all shpB=false∨g4.all shpB=false then(40,L)
 else if(nameOf L (ws.getD 1 [])).isSome then(41,L)
 else match kN 83 L (ws.getD 2 []),oAll (kN 80 L) g1,oAll (ne2 L) g2,oAll (kN 80 L) g3,oAll (ne2 L) g4 with
  |some s,some p,some q,some o,some f=>if 16<p.length∨16<q.length∨16<o.length∨16<f.length∨L.r.length=64 then(3,L)else(0,{L with r:=L.r++[⟨ws.getD 1 [],s,p,q,o,f⟩]})
  |_,_,_,_,_=>(42,L)
def routeP(L:Ly)(ws:List (List UInt8)):Int×Ly:=match groupsB ws with
 |[g0,g1,g2,g3,g4]=>routeQ L ws g0 g1 g2 g3 g4
 |_=>(40,L)
theorem routeQ_t{L:Ly}{ws g0 g1 g2 g3 g4:List (List UInt8)}(h1:g0.length=3)(h2:rightB (ws.getD 1 [])=true)(h3:g2.all shpB=true)(h4:g4.all shpB=true):
 routeQ L ws g0 g1 g2 g3 g4=if(nameOf L (ws.getD 1 [])).isSome then((41:Int),L)
 else match kN 83 L (ws.getD 2 []),oAll (kN 80 L) g1,oAll (ne2 L) g2,oAll (kN 80 L) g3,oAll (ne2 L) g4 with
  |some s,some p,some q,some o,some f=>if 16<p.length∨16<q.length∨16<o.length∨16<f.length∨L.r.length=64 then(3,L)else(0,{L with r:=L.r++[⟨ws.getD 1 [],s,p,q,o,f⟩]})
  |_,_,_,_,_=>(42,L):=by
 unfold routeQ
 rw[if_neg]
 rintro(e|e|e|e)
 ·exact e h1
 ·rw[h2]at e;cases e
 ·rw[h3]at e;cases e
 ·rw[h4]at e;cases e
theorem oAll_congr{α:Type}{f g:List UInt8→Option α}:∀{l:List (List UInt8)},(∀x∈l,f x=g x)→oAll f l=oAll g l
 |[],_=>rfl
 |x::l,h=>by simp only[oAll,h x (by simp),oAll_congr (l:=l) (fun y hy=>h y (by simp[hy]))]
theorem BkR.kA{B K:AHeap}{b mb:Nat}{u:V4}{xs:List RV}{L:Ly}{M:MB}{ex:List Th}(h:BkR B K b mb u xs L M ex)(t:Nat)(l:List (List UInt8)):kAll t M l=oAll (Fd.kN t L) l:=by
 rw[kAll_o];exact oAll_congr fun x _=>h.kN t x
theorem BkR.nA{B K:AHeap}{b mb:Nat}{u:V4}{xs:List RV}{L:Ly}{M:MB}{ex:List Th}(h:BkR B K b mb u xs L M ex)(l:List (List UInt8)):nAll 81 M l=oAll (ne2 L) l:=by
 rw[nAll_o];exact oAll_congr fun x _=>by unfold nOf ne2;rw[h.kN]
theorem all_shp{ws:List (List UInt8)}(h:ws.all shpB=true)(hw:∀w∈ws,w.length≤1000000000):∀w∈ws,1≤w.length∧w.length≤1000000000:=fun w hm=>by
 have:=List.all_eq_true.1 h w hm
 simp only[shpB,Bool.and_eq_true,decide_eq_true_eq]at this
 exact⟨by omega,hw w hm⟩
theorem _root_.Go.AM.OW.th{e esz:Nat}{H K:AHeap}{v:Value}{rows:List (List Value)}(h:OW e esz H K v rows):(thA e esz v rows.length rows.flatten).P K:=h.ap
theorem _root_.Go.AM.OW.thf{e esz:Nat}{H K:AHeap}{v:Value}{rows:List (List Value)}(h:OW e esz H K v rows):∀y∈(thA e esz v rows.length rows.flatten).F,H.n≤y:=fun y hy=>h.f y (mem_blkL.1 hy)
def rO(c:List Value):AO:=.cells true false 6 c 44
def kO(a b c d:Bool):AO:=.cells true false 4 [.bool a,.bool b,.bool c,.bool d] 117
theorem _root_.Go.AM.SepH.box{H K:AHeap}{ts:List Th}(h:SepH H K ts)(o:AO):SepH H (K.alloc o) (thB K.n o::ts):=
 h.add ((Keeps.refl K).alloc o) (AHeap.get_alloc_new K o) (by simp[thB])
theorem perm_bca{α:Type}(a b c:α)(l:List α):(a::b::c::l).Perm (b::c::a::l):=(List.Perm.swap b a _).trans ((List.Perm.swap c a _).cons b)
theorem _root_.Go.AM.SepH.note{H K:AHeap}{t:Th}{ts:List Th}{ob rb:Nat}{o r:AO}(S:SepH H K (t::thB ob o::thB rb r::ts))(r' o':AO):SepH H ((K.set rb r').set ob o') (thB ob o'::thB rb r'::t::ts):=by
 have g1:K.get rb=some r:=S.at_ 2 rfl
 have S1:=S.u2 (t':=thB rb r') (Chg.set K (AHeap.get_lt g1) r') (AHeap.get_set_same g1 _) (fun y hy=>.inl hy)
 have g2:(K.set rb r').get ob=some o:=S1.at_ 1 rfl
 have S2:=S1.u1 (t':=thB ob o') (Chg.set _ (AHeap.get_lt g2) o') (AHeap.get_set_same g2 _) (fun y hy=>.inl hy)
 exact S2.perm (perm_bca _ _ _ _)
theorem list5{α:Type}{l:List α}(h:l.length=5):∃a b c d e,l=[a,b,c,d,e]:=by
 rcases l with _|⟨a,_|⟨b,_|⟨c,_|⟨d,_|⟨e,_|⟨f,l⟩⟩⟩⟩⟩⟩<;>simp at h
 exact⟨a,b,c,d,e,rfl⟩
theorem fresh_sep{B K:AHeap}{b mb:Nat}{u:V4}{L:Ly}{M:MB}{l r:List Th}(J:SepH B K (l++thB b (bkO u mb)::thM mb M::r))(hb:∀n,bfind n M=nameOf L n)(n:List UInt8)(x:Nat×Int):
 ∃w K',ARun Tryz.prog 4 38 [ptr b 0,.string ⟨n.toArray⟩,mval x] K w K'∧w=.bool (!(nameOf L n).isSome)∧Chg [mb] K K'∧(nameOf L n=none→SepH B K' (l++thB b (bkO u mb)::thM mb (M++[(n,x)])::r)):=by
 have gb:K.get b=some (bkO u mb):=J.sep.all (thB b (bkO u mb)) (by simp)
 have gm:MP sEnc K mb (mbs M):=J.sep.all (thM mb M) (by simp)
 obtain⟨w,K',r1,rfl,c,m⟩:=t38 (hc:=rfl) gb gm n (x:=mval x) rfl
 have e:(mfind n (mbs M)).isNone= !(nameOf L n).isSome:=by
  rw[mfind_mbs,hb];cases nameOf L n<;>rfl
 rw[e]at r1 m
 refine⟨_,_,r1,rfl,c,fun hn=>?_⟩
 rw[hn]at m
 simp only[Option.isSome_none,Bool.not_false,if_true]at m
 have J2:SepH B K ((l++[thB b (bkO u mb)])++thM mb M::r):=by simpa using J
 have:=J2.upd (t':=thM mb (M++[(n,x)])) c (by
  show MP sEnc K' mb (mbs (M++[(n,x)]))
  simpa[mbs]using m) (fun y hy=>.inl hy)
 simpa using this
theorem _root_.Go.AM.SepH.tail{H K:AHeap}{t:Th}{ts:List Th}(h:SepH H K (t::ts)):SepH H K ts:=⟨h.sep.tail,h.k,fun x hx=>h.ge x (by simp[hx])⟩
theorem nameOf_r{L:Ly}(x:Ro)(h:nameOf L x.n=none)(m:List UInt8):(match nameOf L m with
 |some y=>some y
 |none=>if m=x.n then some (84,((L.r.length:Nat):Int))else none)=nameOf {L with r:=L.r++[x]} m:=by
 have e0:(L.r++[x]).map (·.n)=L.r.map (·.n)++[x.n]:=by simp
 have el:(L.r.map (·.n)).length=L.r.length:=by simp
 unfold nameOf at h ⊢
 simp only[e0,ixT_app,el]
 cases hs:ixT m L.s with
 |some j=>rfl
 |none=>
  cases hp:ixT m (L.p.map (·.1))with
  |some j=>rfl
  |none=>
   cases hg:ixT m (L.g.map (·.1))with
   |some j=>rfl
   |none=>
    cases hr:ixT m (L.r.map (·.n))with
    |some j=>rfl
    |none=>
     by_cases e:m=x.n
     ·subst e;simp
     ·have e':¬x.n=m:=fun y=>e y.symm
      simp[e,e']
theorem mmI_max(a b:Int):mmI true a b=max a b:=by unfold mmI;simp only[if_true];split<;>omega
set_option maxHeartbeats 8000000 in
theorem t52{B K:AHeap}{b mb:Nat}{u:V4}{xs:List RV}{L:Ly}{M:MB}{ex:List Th}{v:Value}{ws:List (List UInt8)}(h:BkR B K b mb u xs L M ex)(hv:TL K v ws)(ha:Aw v (bkT b mb u xs L M ex))(hl:ws.length≤1000000)(hw:∀w∈ws,w.length≤1000000000)(hrl:L.r.length≤64):
 ∃w K',ARun Tryz.prog 4 52 [ptr b 0,v] K w K'∧Keeps B K'∧w=.int .i64 (routeP L ws).1 ∧((routeP L ws).1 =0→∃u' xs' M',BkR B K' b mb u' xs' (routeP L ws).2 M' ex):=by
 refine walk2 f52_ok f52_n ?_
 intro Q hq1 hq2
 have ia:=Sl.is hv
 have la:=hv.len
 simp(disch:=first|assumption|omega)only[f52,W_block,P3,seval,initFr,clsA]
 refine callK (t67 hv hl) ?_
 rintro w K1 ⟨k1,ws',gs,eg⟩
 obtain⟨sg,tg⟩:=gs.rd
 rw[←List.map_reverse]at eg
 have h1:=h.keeps k1
 have hv1:TL K1 v ws:=Sl.keeps hv k1
 generalize ws'.reverse=R at*
 have lw:lenS w=R.length:=by have:=Sl.len sg;simpa using this
 have iw:=Sl.is sg
 have c0:(0:Int)≤0:=by omega
 have c1:(0:Int)≤1:=by omega
 have c2:(0:Int)≤2:=by omega
 have c3:(0:Int)≤3:=by omega
 have c4:(0:Int)≤4:=by omega
 have t0:Int.toNat 0=0:=rfl
 have t1:Int.toNat 1=1:=rfl
 have t2:Int.toNat 2=2:=rfl
 have t3:Int.toNat 3=3:=rfl
 have t4:Int.toNat 4=4:=rfl
 by_cases h5:R.length=5
 rotate_left
 ·have e2:(((R.length:Nat):Int) != 5)=true:=by simp;omega
  have ep:routeP L ws=(40,L):=by
   unfold routeP
   rw[←eg]
   split
   ·rename_i e
    have:=congrArg List.length e
    simp at this;omega
   ·rfl
  simp(disch:=first|assumption|omega)only[W_block,P3,seval,initFr,clsA,lw,e2]
  refine hq2 _ _ ⟨_,rfl,h1.sep.k,by rw[ep];rfl,by rw[ep];intro e;cases e⟩
 have e2:(((R.length:Nat):Int) != 5)=false:=by simp;omega
 obtain⟨⟨v0,g0⟩,⟨v1,g1⟩,⟨v2,g2⟩,⟨v3,g3⟩,⟨v4,g4⟩,rfl⟩:=list5 h5
 simp only[List.map_cons,List.map_nil]at sg eg
 have ep0:routeP L ws=routeQ L ws g0 g1 g2 g3 g4:=by unfold routeP;rw[←eg]
 have m0:g0∈groupsB ws:=by rw[←eg];simp
 have m1:g1∈groupsB ws:=by rw[←eg];simp
 have m2:g2∈groupsB ws:=by rw[←eg];simp
 have m3:g3∈groupsB ws:=by rw[←eg];simp
 have m4:g4∈groupsB ws:=by rw[←eg];simp
 obtain⟨nw,r0⟩:=Sl.at_ sg (by omega) (i:=0) (by simp)
 obtain⟨_,r1⟩:=Sl.at_ sg (by omega) (i:=1) (by simp)
 obtain⟨_,r2⟩:=Sl.at_ sg (by omega) (i:=2) (by simp)
 obtain⟨_,r3⟩:=Sl.at_ sg (by omega) (i:=3) (by simp)
 obtain⟨_,r4⟩:=Sl.at_ sg (by omega) (i:=4) (by simp)
 simp only[List.getElem_cons_zero,List.getElem_cons_succ]at r0 r1 r2 r3 r4
 have T0:TL K1 v0 g0:=tg (v0,g0) (by simp)
 have T1:TL K1 v1 g1:=tg (v1,g1) (by simp)
 have T2:TL K1 v2 g2:=tg (v2,g2) (by simp)
 have T3:TL K1 v3 g3:=tg (v3,g3) (by simp)
 have T4:TL K1 v4 g4:=tg (v4,g4) (by simp)
 have i0:=Sl.is T0
 have l0:=T0.len
 have d0:(0:Int)<((lenS w:Nat):Int):=by rw[lw];simp
 have d1:(1:Int)<((lenS w:Nat):Int):=by rw[lw];simp
 have d2:(2:Int)<((lenS w:Nat):Int):=by rw[lw];simp
 have d3:(3:Int)<((lenS w:Nat):Int):=by rw[lw];simp
 have d4:(4:Int)<((lenS w:Nat):Int):=by rw[lw];simp
 by_cases h3:g0.length=3
 rotate_left
 ·have e3:(((g0.length:Nat):Int) != 3)=true:=by simp;omega
  have ep:routeP L ws=(40,L):=by rw[ep0];unfold routeQ;rw[if_pos (.inl h3)]
  simp(disch:=first|assumption|omega)only[W_block,P3,seval,initFr,clsA,lw,e2,r0,nw,a_load1v,t0,l0,e3]
  refine hq2 _ _ ⟨_,rfl,h1.sep.k,by rw[ep];rfl,by rw[ep];intro e;cases e⟩
 have e3:(((g0.length:Nat):Int) != 3)=false:=by simp;omega
 have hwl:3≤ws.length:=by have:=(groups_mem m0).1;omega
 obtain⟨na,ra⟩:=hv1.at_ (i:=1) (by omega)
 obtain⟨_,rb⟩:=hv1.at_ (i:=2) (by omega)
 have hlen:=hw _ (getD_mem (d:=[]) (show 1<ws.length by omega))
 have q1:(1:Int)<((lenS v:Nat):Int):=by omega
 have q2:(2:Int)<((lenS v:Nat):Int):=by omega
 unfold tRow at ra rb
 have hg:∀{g:List (List UInt8)},g∈groupsB ws→g.length≤1000000000∧∀x∈g,x.length≤1000000000:=fun hm=>⟨by have:=(groups_mem hm).1;omega,fun x hx=>hw x ((groups_mem hm).2 x hx)⟩
 simp(disch:=first|assumption|omega)only[W_block,P3,seval,initFr,clsA,lw,e2,r0,nw,a_load1v,t0,l0,e3,ra,na,t1]
 refine callQ (t37 _ _ (Nat.le_trans hlen (by decide))) ?_
 cases hr:rightB (ws.getD 1 [])with
 |false=>
  have ep:routeP L ws=(40,L):=by rw[ep0];unfold routeQ;rw[if_pos (.inr (.inl hr))]
  simp(disch:=first|assumption|omega)only[W_block,P3,seval,initFr,clsA]
  refine hq2 _ _ ⟨_,rfl,h1.sep.k,by rw[ep];rfl,by rw[ep];intro e;cases e⟩
 |true=>
 simp(disch:=first|assumption|omega)only[W_block,P3,seval,initFr,clsA,r2,nw,a_load1v,t2]
 refine callQ (t68 T2 (hg m2).1 (hg m2).2) ?_
 cases hs2:g2.all shpB with
 |false=>
  have ep:routeP L ws=(40,L):=by rw[ep0];unfold routeQ;rw[if_pos (.inr (.inr (.inl hs2)))]
  simp(disch:=first|assumption|omega)only[W_block,P3,seval,initFr,clsA]
  refine hq2 _ _ ⟨_,rfl,h1.sep.k,by rw[ep];rfl,by rw[ep];intro e;cases e⟩
 |true=>
 simp(disch:=first|assumption|omega)only[W_block,P3,seval,initFr,clsA,r4,nw,a_load1v,t4]
 refine callQ (t68 T4 (hg m4).1 (hg m4).2) ?_
 cases hs4:g4.all shpB with
 |false=>
  have ep:routeP L ws=(40,L):=by rw[ep0];unfold routeQ;rw[if_pos (.inr (.inr (.inr hs4)))]
  simp(disch:=first|assumption|omega)only[W_block,P3,seval,initFr,clsA]
  refine hq2 _ _ ⟨_,rfl,h1.sep.k,by rw[ep];rfl,by rw[ep];intro e;cases e⟩
 |true=>
 rw[routeQ_t h3 hr hs2 hs4]at ep0
 have gb:=h1.gb
 simp only[bkO]at gb
 have gm:=a_mgetT h1.gm (ws.getD 1 [])
 have gn:=a_mgetN h1.gm (ws.getD 2 [])
 have ga:=a_assertN (K:=K1) 83 (ws.getD 2 []) M
 rw[h1.n]at gm
 rw[h1.kN]at ga
 cases hn:nameOf L (ws.getD 1 [])with
 |some y=>
  have ep:routeP L ws=(41,L):=by rw[ep0,hn];rfl
  rw[hn]at gm
  simp only[Option.isSome_some]at gm
  simp(disch:=first|assumption|omega)only[W_block,P3,seval,initFr,clsA,la,ra,na,a_load1v,t1,gb,sd_mget,gm]
  refine hq2 _ _ ⟨_,rfl,h1.sep.k,by rw[ep];rfl,by rw[ep];intro e;cases e⟩
 |none=>
 rw[hn]at gm
 simp only[hn,Option.isSome_none,Bool.false_eq_true,if_false]at ep0 gm
 have hf:∀i:Int,fillA [.string ByteArray.empty,.int .i64 0,.slice none 0 0,.slice none 0 0,.slice none 0 0,.slice none 0 0] [(0,1,.string ⟨(ws.getD 1 []).toArray⟩),(1,1,.int .i64 i)]=some [.string ⟨(ws.getD 1 []).toArray⟩,.int .i64 i,.slice none 0 0,.slice none 0 0,.slice none 0 0,.slice none 0 0]:=fun i=>rfl
 have bw:bn w≤K1.n:=Sl.bn_le sg (by simp) (by omega)
 simp(disch:=first|assumption|omega|(simp only[LN]<;>omega)|(simp(disch:=first|assumption|omega|(simp only[LN]<;>omega))only[row_alloc,row_set];assumption))only[W_block,P3,seval,initFr,clsA,la,ra,rb,na,a_load1v,t1,t2,gb,sd_mget,gm,gn,ga,hf,r1,nw]
 generalize hsg:kN 83 L (ws.getD 2 [])=sg' at*
 generalize hnm:Value.string ⟨(ws.getD 1 []).toArray⟩=nm at*
 have S0:SepH K1 _ [thB (K1.n+1) (kO false false false false),thB K1.n (rO [nm,.int .i64 (sg'.getD 0),.slice none 0 0,.slice none 0 0,.slice none 0 0,.slice none 0 0])]:=((SepH.nil K1).box _).box _
 have B0:=h1.keeps S0.k
 have S0':=S0
 refine callK (t69 B0.gb rfl B0.gm (Sl.keeps T1 S0'.k) (hg m1).1) ?_
 rintro _ K2 ⟨k2,x1,rfl,o1⟩
 have S1:=S0'.add k2 o1.th o1.thf
 rw[h1.kA]at o1 S1 ⊢
 generalize hPa:oAll (kN 80 L) g1=Pa at*
 have gr1:=S1.at_ 2 rfl
 have go1:=S1.at_ 1 rfl
 have gl1:=S1.lt 1 rfl (y:=K1.n+1) (by simp[thB])
 have v1':x1.oneCell'=true:=o1.one
 have w1':one1 x1=True:=by simp[one1,v1']
 simp only[thB,rO,kO]at gr1 go1
 have S1':=S1.note (rO [nm,.int .i64 (sg'.getD 0),x1,.slice none 0 0,.slice none 0 0,.slice none 0 0]) (kO Pa.isSome false false false)
 have r2':=(Keeps.row S1.k bw (v:=w) (j:=2) (esz:=1)).trans r2
 simp(disch:=first|assumption|omega|(simp only[LN]<;>omega)|(simp(disch:=first|assumption|omega|(simp only[LN]<;>omega))only[row_alloc,row_set];assumption))only[W_block,P3,seval,initFr,clsA,gr1,go1,v1',w1',r2',nw,t2]
 have B1:=h1.keeps S1'.k
 refine callK (t70 B1.gb rfl B1.gm (Sl.keeps T2 S1'.k) (hg m2).1 (all_shp hs2 (hg m2).2)) ?_
 rintro _ K3 ⟨k3,x2,rfl,o2⟩
 have S2:=S1'.add k3 o2.th o2.thf
 rw[h1.nA]at o2 S2 ⊢
 generalize hPb:oAll (ne2 L) g2=Pb at*
 have gr2:=S2.at_ 2 rfl
 have go2:=S2.at_ 1 rfl
 have gl2:=S2.lt 1 rfl (y:=K1.n+1) (by simp[thB])
 have v2':x2.oneCell'=true:=o2.one
 have w2':one1 x2=True:=by simp[one1,v2']
 simp only[thB,rO,kO]at gr2 go2
 have S2':=S2.note (rO [nm,.int .i64 (sg'.getD 0),x1,x2,.slice none 0 0,.slice none 0 0]) (kO Pa.isSome Pb.isSome false false)
 have r3':=(Keeps.row S2.k bw (v:=w) (j:=3) (esz:=1)).trans r3
 simp(disch:=first|assumption|omega|(simp only[LN]<;>omega)|(simp(disch:=first|assumption|omega|(simp only[LN]<;>omega))only[row_alloc,row_set];assumption))only[W_block,P3,seval,initFr,clsA,gr2,go2,v2',w2',r3',nw,t3]
 have B2:=h1.keeps S2'.k
 refine callK (t69 B2.gb rfl B2.gm (Sl.keeps T3 S2'.k) (hg m3).1) ?_
 rintro _ K4 ⟨k4,x3,rfl,o3⟩
 have S3:=S2'.add k4 o3.th o3.thf
 rw[h1.kA]at o3 S3 ⊢
 generalize hPc:oAll (kN 80 L) g3=Pc at*
 have gr3:=S3.at_ 2 rfl
 have go3:=S3.at_ 1 rfl
 have gl3:=S3.lt 1 rfl (y:=K1.n+1) (by simp[thB])
 have v3':x3.oneCell'=true:=o3.one
 have w3':one1 x3=True:=by simp[one1,v3']
 simp only[thB,rO,kO]at gr3 go3
 have S3':=S3.note (rO [nm,.int .i64 (sg'.getD 0),x1,x2,x3,.slice none 0 0]) (kO Pa.isSome Pb.isSome Pc.isSome false)
 have r4':=(Keeps.row S3.k bw (v:=w) (j:=4) (esz:=1)).trans r4
 simp(disch:=first|assumption|omega|(simp only[LN]<;>omega)|(simp(disch:=first|assumption|omega|(simp only[LN]<;>omega))only[row_alloc,row_set];assumption))only[W_block,P3,seval,initFr,clsA,gr3,go3,v3',w3',r4',nw,t4]
 have B3:=h1.keeps S3'.k
 refine callK (t70 B3.gb rfl B3.gm (Sl.keeps T4 S3'.k) (hg m4).1 (all_shp hs4 (hg m4).2)) ?_
 rintro _ K5 ⟨k5,x4,rfl,o4⟩
 have S4:=S3'.add k5 o4.th o4.thf
 rw[h1.nA]at o4 S4 ⊢
 generalize hPd:oAll (ne2 L) g4=Pd at*
 have gr4:=S4.at_ 2 rfl
 have go4:=S4.at_ 1 rfl
 have gl4:=S4.lt 1 rfl (y:=K1.n+1) (by simp[thB])
 have v4':x4.oneCell'=true:=o4.one
 have w4':one1 x4=True:=by simp[one1,v4']
 simp only[thB,rO,kO]at gr4 go4
 have S4':=S4.note (rO [nm,.int .i64 (sg'.getD 0),x1,x2,x3,x4]) (kO Pa.isSome Pb.isSome Pc.isSome Pd.isSome)
 have hq4:∀X,asem (.eqs [0,0,0,0] true (.agg #[.bool Pa.isSome,.bool Pb.isSome,.bool Pc.isSome,.bool Pd.isSome]) (.agg #[.bool true,.bool true,.bool true,.bool true])) X=some (.bool (!(Pa.isSome&&Pb.isSome&&Pc.isSome&&Pd.isSome)),X):=by
  intro X;cases Pa<;>cases Pb<;>cases Pc<;>cases Pd<;>rfl
 have hf4:fillA [.bool false,.bool false,.bool false,.bool false] [(0,1,.bool true),(1,1,.bool true),(2,1,.bool true),(3,1,.bool true)]=some [.bool true,.bool true,.bool true,.bool true]:=rfl
 cases sg' with
 |none=>
  have ep:routeP L ws=(42,L):=by rw[ep0]
  simp(disch:=first|assumption|omega)only[W_block,P3,seval,initFr,clsA,t3,Option.getD_some,gr4,go4,v4',w4',Option.isSome_none]
  refine hq2 _ _ ⟨_,rfl,(h1.keeps S4'.k).sep.k,by rw[ep];rfl,by rw[ep];intro e;cases e⟩
 |some s=>
 by_cases hall:(Pa.isSome&&Pb.isSome&&Pc.isSome&&Pd.isSome)=true
 rotate_left
 ·have ep:routeP L ws=(42,L):=by
   rw[ep0];cases Pa<;>cases Pb<;>cases Pc<;>cases Pd<;>first|rfl|exact absurd rfl hall
  have hall':(Pa.isSome&&Pb.isSome&&Pc.isSome&&Pd.isSome)=false:=by simpa using hall
  simp(disch:=first|assumption|omega|(simp only[LN]<;>omega)|(simp(disch:=first|assumption|omega|(simp only[LN]<;>omega))only[row_alloc,row_set];assumption))only[W_block,P3,seval,initFr,clsA,t3,Option.getD_some,gr4,go4,v4',w4',Option.isSome_some,hf4,hq4,hall']
  refine hq2 _ _ ⟨_,rfl,(h1.keeps S4'.k).sep.k,by rw[ep];rfl,by rw[ep];intro e;cases e⟩
 cases Pa with
 |none=>cases hall
 |some p=>
 cases Pb with
 |none=>cases hall
 |some q=>
 cases Pc with
 |none=>cases hall
 |some o=>
 cases Pd with
 |none=>cases hall
 |some f=>
 simp only[Option.isSome_some,Option.getD_some]at gr4 go4 S4' o1 o2 o3 o4 hq4 hall ep0
 have L1:lenS x1=p.length:=by rw[o1.len];simp
 have L2:lenS x2=q.length:=by rw[o2.len];simp
 have L3:lenS x3=o.length:=by rw[o3.len];simp
 have L4:lenS x4=f.length:=by rw[o4.len];simp
 have I1:=o1.is
 have I2:=o2.is
 have I3:=o3.is
 have I4:=o4.is
 by_cases hlim:16<p.length∨16<q.length∨16<o.length∨16<f.length
 ·have ep:routeP L ws=(3,L):=by rw[ep0];exact if_pos (by omega)
  have hgt:(16:Int)<mmI true (mmI true (mmI true ((p.length:Nat):Int) ((q.length:Nat):Int)) ((o.length:Nat):Int)) ((f.length:Nat):Int):=by
   simp only[mmI_max];omega
  simp(disch:=first|assumption|omega|(simp only[LN]<;>omega)|(simp(disch:=first|assumption|omega|(simp only[LN]<;>omega))only[row_alloc,row_set];assumption))only[W_block,P3,seval,initFr,clsA,t3,Option.getD_some,gr4,go4,v4',w4',Option.isSome_some,hf4,hq4,hall,L1,L2,L3,L4,st_mm4,a_mm4]
  refine hq2 _ _ ⟨_,rfl,(h1.keeps S4'.k).sep.k,by rw[ep];rfl,by rw[ep];intro e;cases e⟩
 have hgt:¬(16:Int)<mmI true (mmI true (mmI true ((p.length:Nat):Int) ((q.length:Nat):Int)) ((o.length:Nat):Int)) ((f.length:Nat):Int):=by
  simp only[mmI_max];omega
 have B4:=h1.keeps S4'.k
 have gb4:=(h1.keeps S4.k).gb
 simp only[bkO]at gb4
 have lb4:b<K1.n:=AHeap.get_lt gb
 have lr:lenS u.r=L.r.length:=by rw[h1.ly.r.len,h1.ly.rlen]
 have ir:=Sl.is h1.ly.r
 by_cases h64:L.r.length=64
 ·have e64:(((L.r.length:Nat):Int)==64)=true:=by simp;omega
  have ep:routeP L ws=(3,L):=by rw[ep0];exact if_pos (by omega)
  simp(disch:=first|assumption|omega|(simp only[LN]<;>omega)|(simp(disch:=first|assumption|omega|(simp only[LN]<;>omega))only[row_alloc,row_set];assumption))only[W_block,P3,seval,initFr,clsA,t3,Option.getD_some,gr4,go4,v4',w4',Option.isSome_some,hf4,hq4,hall,L1,L2,L3,L4,st_mm4,a_mm4,gb4,lr,e64]
  refine hq2 _ _ ⟨_,rfl,(h1.keeps S4'.k).sep.k,by rw[ep];rfl,by rw[ep];intro e;cases e⟩
 have e64:(((L.r.length:Nat):Int)==64)=false:=by simp;omega
 have ep:routeP L ws=(0,{L with r:=L.r++[⟨ws.getD 1 [],s,p,q,o,f⟩]}):=by rw[ep0];exact if_neg (by omega)
 simp(disch:=first|assumption|omega|(simp only[LN]<;>omega)|(simp(disch:=first|assumption|omega|(simp only[LN]<;>omega))only[row_alloc,row_set];assumption))only[W_block,P3,seval,initFr,clsA,t3,Option.getD_some,gr4,go4,v4',w4',Option.isSome_some,hf4,hq4,hall,L1,L2,L3,L4,st_mm4,a_mm4,gb4,lr,e64]
 subst hnm
 have hx:(thI [⟨⟨ws.getD 1 [],s,p,q,o,f⟩,x1,x2,x3,x4⟩]).P _:=fun y hy=>by
  rw[List.mem_singleton]at hy
  subst hy
  have a1:=S4'.at_ 5 rfl
  have a2:=S4'.at_ 4 rfl
  have a3:=S4'.at_ 3 rfl
  have a4:=S4'.at_ 2 rfl
  exact⟨AP.sl (rows:=p.map iRow) a1 o1.r rfl,AP.sl (rows:=q.map nRow) a2 o2.r rfl,AP.sl (rows:=o.map iRow) a3 o3.r rfl,AP.sl (rows:=f.map nRow) a4 o4.r rfl⟩
 have S5:=(S4'.perm (List.perm_append_comm (l₁:=[_,_]) (l₂:=[_,_,_,_]))).merges (us:=[_,_,_,_]) (r:=[_,_]) hx (fun y hy=>by
  have hy':y∈(⟨⟨ws.getD 1 [],s,p,q,o,f⟩,x1,x2,x3,x4⟩:RV).bl:=by simpa[thI]using hy
  simp only[RV.bl,List.mem_append]at hy'
  rcases hy' with((e|e)|e)|e
  ·exact⟨_,List.mem_cons_of_mem _ (List.mem_cons_of_mem _ (List.mem_cons_of_mem _ (List.mem_cons_self ..))),tb_blk o1.ap y e⟩
  ·exact⟨_,List.mem_cons_of_mem _ (List.mem_cons_of_mem _ (List.mem_cons_self ..)),tb_blk o2.ap y e⟩
  ·exact⟨_,List.mem_cons_of_mem _ (List.mem_cons_self ..),tb_blk o3.ap y e⟩
  ·exact⟨_,List.mem_cons_self ..,tb_blk o4.ap y e⟩)
 have J:=h1.sep.join S5
 have J1:=J.perm (List.Perm.cons _ ((List.perm_append_comm (l₁:=[_,_,_,_,_,_,_,_]) (l₂:=[_])).append_right ex))
 have J2:=J1.merges (us:=[_,_]) (r:=_::_::_::_::_::_::_::_::ex) (t:=thI (xs++[⟨⟨ws.getD 1 [],s,p,q,o,f⟩,x1,x2,x3,x4⟩])) (fun y hy=>by
  rcases List.mem_append.1 hy with hy|hy
  ·exact J1.at_ 1 rfl y hy
  ·exact J1.at_ 0 rfl y hy) (fun y hy=>by
  simp only[thI,List.flatMap_append,List.mem_append]at hy
  rcases hy with e|e
  ·exact⟨_,List.mem_cons_of_mem _ (List.mem_cons_self ..),e⟩
  ·exact⟨_,List.mem_cons_self ..,e⟩)
 refine callK (fresh_sep (l:=[_,_,_]) (r:=_::_::_::_::ex) J2 h1.n (ws.getD 1 []) (84,((L.r.length:Nat):Int))) ?_
 rintro _ K7 ⟨rfl,c7,J7⟩
 have J7:=J7 hn
 have gb7:=J7.at_ 3 rfl
 have gr7:=J7.at_ 2 rfl
 simp only[thB,bkO,rO]at gb7 gr7
 have hf6:fillA [.string ByteArray.empty,.int .i64 0,.slice none 0 0,.slice none 0 0,.slice none 0 0,.slice none 0 0] [(0,6,.agg #[.string ⟨(ws.getD 1 []).toArray⟩,.int .i64 s,x1,x2,x3,x4])]=some [.string ⟨(ws.getD 1 []).toArray⟩,.int .i64 s,x1,x2,x3,x4]:=rfl
 have ha6:[.string ⟨(ws.getD 1 []).toArray⟩,.int .i64 s,x1,x2,x3,x4].all Value.oneCell'=true:=by
  simp only[List.all_cons,List.all_nil,v1',v2',v3',v4',Bool.and_true];rfl
 simp(disch:=first|assumption|omega|(simp only[LN]<;>omega)|(simp(disch:=first|assumption|omega|(simp only[LN]<;>omega))only[row_alloc,row_set];assumption))only[W_block,P3,seval,initFr,clsA,gb7,gr7,hf6,ha6]
 have J8:=J7.keeps ((Keeps.refl K7).alloc (.cells true false 6 [.string ⟨(ws.getD 1 []).toArray⟩,.int .i64 s,x1,x2,x3,x4] 44))
 have a8:AP _ 44 6 u.r xs.length (xs.map RV.row).flatten:=J8.at_ 8 rfl
 have lx:xs.length=L.r.length:=h1.ly.rlen
 refine appGD a8 ⟨_,_,rfl⟩ (elems_new rfl rfl) rfl ⟨by omega,by omega⟩ ?_
 intro v' K9 a9 c9 hb9
 have ov:v'.oneCell'=true:=by obtain⟨a,rfl⟩:=a9.shape;rfl
 have ow:one1 v'=True:=by simp[one1,ov]
 have J9:=J8.upd (l:=[_,_,_,_,_,_,_,_]) (r:=ex) (t':=thA 44 6 v' (xs.length+1) ((xs.map RV.row).flatten++[.string ⟨(ws.getD 1 []).toArray⟩,.int .i64 s,x1,x2,x3,x4])) c9 a9 (fun y hy=>by
  rcases hb9 with e|e
  ·left;have:=mem_blkL.1 hy;rw[e]at this;exact mem_blkL.2 this
  ·right;have:=mem_blkL.1 hy;rw[e]at this;cases this;exact Nat.le_refl _)
 have gb9:=J9.at_ 3 rfl
 simp only[thB,bkO]at gb9
 simp(disch:=first|assumption|omega)only[W_block,P3,seval,initFr,clsA,gb9,ow,ov]
 have JA:=J9.u3 (t':=thB b (bkO ⟨u.s,u.p,u.g,v'⟩ mb)) (Chg.set K9 (AHeap.get_lt gb9) (bkO ⟨u.s,u.p,u.g,v'⟩ mb)) (AHeap.get_set_same gb9 _) (fun y hy=>.inl hy)
 refine hq2 _ _ ⟨_,rfl,JA.k,by rw[ep];rfl,fun _=>⟨⟨u.s,u.p,u.g,v'⟩,xs++[⟨⟨ws.getD 1 [],s,p,q,o,f⟩,x1,x2,x3,x4⟩],M++[(ws.getD 1 [],(84,((L.r.length:Nat):Int)))],?_⟩⟩
 rw[ep]
 refine⟨?_,by simp[h.e],fun m=>?_⟩
 ·have JB:=(JA.perm ((List.perm_append_comm (l₁:=[_]) (l₂:=[_,_,_,_,_,_,_,_])).append_right ex)).tail.tail
  have ef:(xs.map RV.row).flatten++[.string ⟨(ws.getD 1 []).toArray⟩,.int .i64 s,x1,x2,x3,x4]=((xs++[(⟨⟨ws.getD 1 [],s,p,q,o,f⟩,x1,x2,x3,x4⟩:RV)]).map RV.row).flatten:=by simp[RV.row]
  rw[ef]at JB
  have:xs.length+1=(xs++[(⟨⟨ws.getD 1 [],s,p,q,o,f⟩,x1,x2,x3,x4⟩:RV)]).length:=by simp
  rw[this]at JB
  exact JB
 ·rw[bfind_app,h.n];exact nameOf_r ⟨ws.getD 1 [],s,p,q,o,f⟩ hn m
end Go.AM.Fd

namespace Go.AM.Fd
open Nat (reduceAdd reduceEqDiff reduceLT reduceLeDiff reduceMul reduceSub)
open Go.Proofs Go.AM.F
theorem fresh_aw{B K:AHeap}{ts:List Th}{v:Value}(h:SepH B K ts)(hv:Fresh K.n v):Aw v ts:=by
 intro y hy t ht hm
 have h1:=t.lt K (h.sep.all t ht) y hm
 have h2:blk v=some y:=by
  revert hy
  unfold tb
  split
  ·intro hy;simp at hy;subst hy;rfl
  ·intro hy;simp at hy
 have:=hv y h2
 omega
theorem splitB_le(c:UInt8):∀(l:List UInt8) (t:List UInt8),t∈splitB c l→t.length≤l.length
 |[],t,h=>by simp[splitB]at h;subst h;simp
 |x::l,t,h=>by
  have ih:=splitB_le c l
  simp only[splitB]at h
  split at h
  ·rcases List.mem_cons.1 h with rfl|h
   ·simp
   ·have:=ih t h;simp;omega
  ·split at h
   ·rename_i p r e
    rcases List.mem_cons.1 h with rfl|h
    ·have:=ih p (by rw[e];simp);simp;omega
    ·have:=ih t (by rw[e];simp[h]);simp;omega
   ·simp at h;subst h;simp
theorem wordsB_mem{l t:List UInt8}(h:t∈wordsB l):t.length≤l.length:=splitB_le 32 l t (List.mem_filter.1 h).1
def wSection:List UInt8:=[115,101,99,116,105,111,110]
def wSignal:List UInt8:=[115,105,103,110,97,108]
def wRoute:List UInt8:=[114,111,117,116,101]
def lineW(L:Ly)(ws:List (List UInt8)):Int×Ly:=
 if ws.length=0 then(0,L)
 else if ws.getD 0 []=wSection then secP L ws
 else if ws.getD 0 []=wPoint then partP L ws
 else if ws.getD 0 []=wSignal then partP L ws
 else if ws.getD 0 []=wRoute then routeP L ws
 else(40,L)
def lineP(L:Ly)(l:List UInt8):Int×Ly:=if okW (aheadB l)then lineW L (wordsB (aheadB l))else(30,L)
structure LyLim (L:Ly):Prop where
 s:L.s.length≤64
 p:L.p.length≤32
 g:L.g.length≤32
 r:L.r.length≤64
set_option maxHeartbeats 1000000 in
theorem t24{B K:AHeap}{b mb:Nat}{u:V4}{xs:List RV}{L:Ly}{M:MB}{ex:List Th}(h:BkR B K b mb u xs L M ex)(l:List UInt8)(hl:l.length≤100000)(hL:LyLim L):
 ∃w K',ARun Tryz.prog 4 24 [ptr b 0,.string ⟨l.toArray⟩] K w K'∧w=.int .i64 (lineP L l).1 ∧((lineP L l).1 =0→∃u' xs' M',BkR B K' b mb u' xs' (lineP L l).2 M' ex)∧Keeps B K':=by
 refine walk2 f24_ok f24_n ?_
 intro Q hq1 hq2
 simp(disch:=first|assumption|omega)only[f24,W_block,P3,seval,initFr,clsA]
 refine callK (t49 K l (by omega)) ?_
 rintro _ K1 ⟨k1,hw⟩
 have h1:=h.keeps k1
 unfold lineP at hq1 hq2
 cases hok:okW (aheadB l)with
 |false=>
  simp only[hok,Bool.false_eq_true,if_false]at hw hq2
  subst hw
  simp(disch:=first|assumption|omega)only[W_block,P3,seval,initFr,clsA]
  refine hq2 _ _ ⟨_,rfl,rfl,(fun e=>by cases e),h1.sep.k⟩
 |true=>
 simp only[hok,if_true]at hw hq2
 obtain⟨v,rfl,av,fv⟩:=hw
 have hv:TL K1 v _:=AP.tl av
 have hwl:=wordsB_len (aheadB l)
 have hal:=ahead_len l
 have hwm:∀w∈wordsB (aheadB l),w.length≤1000000000:=fun w hm=>by have:=wordsB_mem hm;omega
 have aw:Aw v (bkT b mb u xs L M ex):=fresh_aw h.sep fv
 generalize wordsB (aheadB l)=ws at*
 have ia:=Sl.is hv
 have la:=hv.len
 unfold lineW at hq2
 by_cases h0:ws.length=0
 ·have e0:(((ws.length:Nat):Int)==0)=true:=beqi_yes (by omega)
  simp only[h0,if_true]at hq2
  simp(disch:=first|assumption|omega)only[W_block,P3,seval,initFr,clsA,la,e0]
  refine hq2 _ _ ⟨_,rfl,rfl,fun e=>⟨_,_,_,h1⟩,h1.sep.k⟩
 have e0:(((ws.length:Nat):Int)==0)=false:=beqi_no (by omega)
 simp only[h0,if_false]at hq2
 obtain⟨na,ra⟩:=hv.at_ (i:=0) (by omega)
 have c0:(0:Int)≤0:=by omega
 have c1:(0:Int)<((lenS v:Nat):Int):=by omega
 have t0:Int.toNat 0=0:=rfl
 unfold tRow at ra
 have q1:binA .eql (.string ⟨(ws.getD 0 []).toArray⟩) (.string ⟨⟨[115,101,99,116,105,111,110]⟩⟩)=some (.bool (decide (ws.getD 0 []=wSection))):=b_eqS _ wSection
 have q2:binA .eql (.string ⟨(ws.getD 0 []).toArray⟩) (.string ⟨⟨[112,111,105,110,116]⟩⟩)=some (.bool (decide (ws.getD 0 []=wPoint))):=b_eqS _ wPoint
 have q3:binA .eql (.string ⟨(ws.getD 0 []).toArray⟩) (.string ⟨⟨[115,105,103,110,97,108]⟩⟩)=some (.bool (decide (ws.getD 0 []=wSignal))):=b_eqS _ wSignal
 have q4:binA .eql (.string ⟨(ws.getD 0 []).toArray⟩) (.string ⟨⟨[114,111,117,116,101]⟩⟩)=some (.bool (decide (ws.getD 0 []=wRoute))):=b_eqS _ wRoute
 generalize ws.getD 0 []=x at ra q1 q2 q3 q4 hq2
 by_cases h1':x=wSection
 ·simp only[if_pos h1']at hq2
  rw[decide_eq_true h1']at q1
  simp(disch:=first|assumption|omega)only[W_block,P3,seval,initFr,clsA,la,e0,ra,na,a_load1v,t0,q1]
  refine callK (t50 h1 hv aw (by omega) hwm hL.s) ?_
  rintro _ K2 ⟨k2,rfl,r2⟩
  simp(disch:=first|assumption|omega)only[W_block,P3,seval,initFr,clsA]
  exact hq2 _ _ ⟨_,rfl,rfl,(fun e=>by obtain⟨u',M',r⟩:=r2 e;exact⟨_,_,_,r⟩),k2⟩
 by_cases h2':x=wPoint
 ·simp only[if_neg h1',if_pos h2']at hq2
  rw[decide_eq_false h1']at q1
  rw[decide_eq_true h2']at q2
  simp(disch:=first|assumption|omega)only[W_block,P3,seval,initFr,clsA,la,e0,ra,na,a_load1v,t0,q1,q2]
  refine callK (t51 h1 hv aw (by omega) hwm hL.p hL.g) ?_
  rintro _ K2 ⟨k2,rfl,r2⟩
  simp(disch:=first|assumption|omega)only[W_block,P3,seval,initFr,clsA]
  exact hq2 _ _ ⟨_,rfl,rfl,(fun e=>by obtain⟨u',M',r⟩:=r2 e;exact⟨_,_,_,r⟩),k2⟩
 by_cases h3':x=wSignal
 ·simp only[if_neg h1',if_neg h2',if_pos h3']at hq2
  rw[decide_eq_false h1']at q1
  rw[decide_eq_false h2']at q2
  rw[decide_eq_true h3']at q3
  simp(disch:=first|assumption|omega)only[W_block,P3,seval,initFr,clsA,la,e0,ra,na,a_load1v,t0,q1,q2,q3]
  refine callK (t51 h1 hv aw (by omega) hwm hL.p hL.g) ?_
  rintro _ K2 ⟨k2,rfl,r2⟩
  simp(disch:=first|assumption|omega)only[W_block,P3,seval,initFr,clsA]
  exact hq2 _ _ ⟨_,rfl,rfl,(fun e=>by obtain⟨u',M',r⟩:=r2 e;exact⟨_,_,_,r⟩),k2⟩
 by_cases h4':x=wRoute
 ·simp only[if_neg h1',if_neg h2',if_neg h3',if_pos h4']at hq2
  rw[decide_eq_false h1']at q1
  rw[decide_eq_false h2']at q2
  rw[decide_eq_false h3']at q3
  rw[decide_eq_true h4']at q4
  simp(disch:=first|assumption|omega)only[W_block,P3,seval,initFr,clsA,la,e0,ra,na,a_load1v,t0,q1,q2,q3,q4]
  refine callK (t52 h1 hv aw (by omega) hwm hL.r) ?_
  rintro _ K2 ⟨k2,rfl,r2⟩
  simp(disch:=first|assumption|omega)only[W_block,P3,seval,initFr,clsA]
  exact hq2 _ _ ⟨_,rfl,rfl,r2,k2⟩
 simp only[if_neg h1',if_neg h2',if_neg h3',if_neg h4']at hq2
 rw[decide_eq_false h1']at q1
 rw[decide_eq_false h2']at q2
 rw[decide_eq_false h3']at q3
 rw[decide_eq_false h4']at q4
 simp(disch:=first|assumption|omega)only[W_block,P3,seval,initFr,clsA,la,e0,ra,na,a_load1v,t0,q1,q2,q3,q4]
 refine hq2 _ _ ⟨_,rfl,rfl,(fun e=>by cases e),h1.sep.k⟩
end Go.AM.Fd

namespace Go.AM.Fd
open Nat (reduceAdd reduceEqDiff reduceLT reduceLeDiff reduceMul reduceSub)
open Go.Proofs Go.AM.F
noncomputable def cntF:Func:=(Tryz.prog.funcs[93]?).getD default
theorem cnt_f:Tryz.prog.funcs[93]? =some cntF:=by kernel_rfl
theorem cnt_n:(cntF.name== "runtime.NumGoroutine")=false:=by kernel_rfl
theorem cnt_b:cntF.body.isNone=true:=by kernel_rfl
theorem cnt_x:Extern.findNext cntF=none:=by kernel_rfl
theorem cnt_e:Extern.find cntF=some Extern.BytealgCount.count:=by kernel_rfl
theorem t93(H:AHeap)(l:List UInt8)(c:Nat):∃w H',ARun Tryz.prog 4 93 [.string ⟨l.toArray⟩,.int .u8 (c:Int)] H w H'∧w=.int .i64 ((cB (UInt8.ofNat c) l:Nat):Int)∧H'=H:=by
 refine⟨_,_,arun_ext cnt_f cnt_n cnt_b cnt_x cnt_e (fun σ=>.int .i64 ((cB (UInt8.ofNat c) l:Nat):Int)) ?_,rfl,rfl⟩
 intro σ w args' hv
 cases hv with
 |cons a hv=>
  cases hv with
  |cons b hv=>
   cases hv
   cases a
   cases b
   exact run_count_string (P:=Tryz.prog) l (c:Int) w
theorem t82(H:AHeap)(l:List UInt8)(c:UInt8):∃w H',ARun Tryz.prog 4 82 [.string ⟨l.toArray⟩,.string ⟨[c].toArray⟩] H w H'∧w=.int .i64 ((cB c l:Nat):Int)∧H'=H:=by
 refine walk2 f82_ok f82_n ?_
 intro Q hq1 hq2
 have e0:(((1:Nat):Int)==0)=false:=by simp
 have e1:(((1:Nat):Int)==1)=true:=by simp
 have e2:[c].getD 0 0=c:=rfl
 have hl:0<[c].length:=by simp
 simp(disch:=first|assumption|omega)only[f82,W_block,P3,seval,initFr,clsA,a_idxS0,e0,e1,e2]
 refine callK (t93 H l c.toNat) ?_
 rintro _ K ⟨rfl,rfl⟩
 simp(disch:=first|assumption|omega)only[W_block,P3,seval,initFr,clsA,UInt8.ofNat_toNat]
 exact hq2 _ _ ⟨_,rfl,rfl,rfl⟩
theorem splitB_two{c:UInt8}{l:List UInt8}(h:2≤(splitB c l).length):∃i,ixB c l=some i:=by
 cases hi:ixB c l with
 |some i=>exact⟨i,rfl⟩
 |none=>rw[splitB_ix,hi]at h;simp at h
theorem splitB_one{c:UInt8}{l:List UInt8}(h:(splitB c l).length=1):splitB c l=[l]:=by
 cases hi:ixB c l with
 |none=>rw[splitB_ix,hi]
 |some i=>rw[splitB_ix,hi]at h;simp at h;exact absurd h (splitB_ne _ _)
theorem rep_flat(n:Nat)(v:Value):(List.replicate n [v]).flatten=List.replicate n v:=by
 induction n with
 |zero=>rfl
 |succ n ih=>simp[List.replicate_succ,ih]
theorem txs_set{pre:List (List UInt8)}{x:List UInt8}{m:Nat}{v:Value}:(txs pre++List.replicate (m+1) v).set pre.length (.string ⟨x.toArray⟩)=txs (pre++[x])++List.replicate m v:=by
 rw[List.set_append_right _ _ (by rw[txs_len];omega),txs_len,Nat.sub_self,List.replicate_succ,List.set_cons_zero]
 simp[txs]
theorem t63(H:AHeap)(l:List UInt8)(c:UInt8)(hl:l.length≤1000000):∃w K,ARun Tryz.prog 4 63 [.string ⟨l.toArray⟩,.string ⟨[c].toArray⟩,.int .i64 0,.int .i64 (-1)] H w K∧
 Keeps H K∧AP K 9 1 w (splitB c l).length (txs (splitB c l))∧Fresh H.n w:=by
 refine walk2 f63_ok f63_n ?_
 intro Q hq1 hq2
 have hcn:=splitB_cB c l
 have hcl:=cB_le c l
 have e9:decide ([c]=([]:List UInt8))=false:=by simp
 simp(disch:=first|assumption|omega)only[f63,P3,seval,initFr,clsA,str_emp,bytes_eq,e9]
 refine callK (t82 H l c) ?_
 rintro _ K ⟨rfl,rfl⟩
 obtain⟨n,hn⟩:∃n,(splitB c l).length=n:=⟨_,rfl⟩
 rw[hn]at hcn
 have w1:IntKind.i64.wrap (((cB c l:Nat):Int)+1)=((n:Nat):Int):=by rw[wrap_i64 (by omega) (by omega)];omega
 have w2:IntKind.i64.wrap (((l.length:Nat):Int)+1)=((l.length+1:Nat):Int):=by rw[wrap_i64 (by omega) (by omega)];omega
 have w3:min ((n:Nat):Int) ((l.length+1:Nat):Int)=((n:Nat):Int):=by omega
 have w4:IntKind.i64.wrap (((n:Nat):Int)-1)=((n-1:Nat):Int):=by rw[wrap_i64 (by omega) (by omega)];omega
 have hmk:asem (.mksl 9 1 16 [.string ⟨([]:List UInt8).toArray⟩] (.int .i64 ((n:Nat):Int)) (.int .i64 ((n:Nat):Int))) K=some (slc K.n 0 n n,K.alloc (.cells true false 1 (List.replicate n (.string ⟨([]:List UInt8).toArray⟩)) 9)):=by
  simp only[asem]
  rw[if_pos ⟨by omega,by omega,by omega,by omega,rfl,rfl⟩,Int.toNat_natCast,rep_flat]
 simp(disch:=first|assumption|omega)only[P3,seval,initFr,clsA,str_emp,w1,w2,w3,w4,hmk]
 rw[W_block]
 refine W_loop2 (fun k fr M=>∃i sc pre x7 x11 x12,fr=[.string ⟨sc.toArray⟩,.string ⟨[c].toArray⟩,.int .i64 0,.int .i64 ((n-1:Nat):Int),.slice none 0 0,slc K.n 0 n n,.int .i64 ((i:Nat):Int),x7,.bool false,.bool false,.bool true,x11,x12]∧Keeps K M∧
  M.get K.n=some (.cells true false 1 (txs pre++List.replicate (n-i) (.string ⟨([]:List UInt8).toArray⟩)) 9)∧splitB c l=pre++splitB c sc∧pre.length=i∧i+1≤n∧sc.length≤l.length∧k=n-i) n
  ⟨0,l,[],_,_,_,rfl,(Keeps.refl K).alloc _,AHeap.get_alloc_new _ _,rfl,rfl,by omega,Nat.le_refl _,rfl⟩ ?_
 rintro Q' k fr M ⟨i,sc,pre,x7,x11,x12,rfl,hk,hget,hsp,hpl,hi,hsl,rfl⟩ hn' hx hret
 have hlen:(splitB c sc).length=n-i:=by
  have:=congrArg List.length hsp
  rw[hn,List.length_append,hpl]at this
  omega
 have hb:=AHeap.get_lt hget
 have w5:IntKind.i64.wrap (((i:Nat):Int)+1)=((i+1:Nat):Int):=by rw[wrap_i64 (by omega) (by omega)];omega
 obtain⟨d,hd⟩:∃d,n-i=d+1:=⟨n-i-1,by omega⟩
 have hll:i<(txs pre++List.replicate (n-i) (Value.string ⟨([]:List UInt8).toArray⟩)).length:=by rw[List.length_append,txs_len,List.length_replicate];omega
 have c2:(0:Int)≤((i:Nat):Int):=by omega
 have c3:((i:Nat):Int)<((n:Nat):Int):=by omega
 by_cases hlt:i+1<n
 ·have c1:((i:Nat):Int)<((n-1:Nat):Int):=by omega
  obtain⟨m,hm⟩:=splitB_two (c:=c) (l:=sc) (by omega)
  have hml:=ixB_le hm
  have e:ixI c sc=(m:Int):=by unfold ixI;rw[hm]
  have c4:¬((m:Nat):Int)<0:=by omega
  have w6:IntKind.i64.wrap (((m:Nat):Int)+0)=((m:Nat):Int):=by rw[wrap_i64 (by omega) (by omega)];simp
  have w7:IntKind.i64.wrap (((m:Nat):Int)+((1:Nat):Int))=((m+1:Nat):Int):=by rw[wrap_i64 (by omega) (by omega)];omega
  have hm1:m≤sc.length:=by omega
  have hm2:m+1≤sc.length:=by omega
  have hsp1:splitB c sc=sc.take m::splitB c (sc.drop (m+1)):=by rw[splitB_ix,hm]
  rw[hsp1]at hsp
  simp(disch:=first|assumption|omega)only[W_block,P3,seval,initFr,clsA]
  refine callK (t83 M sc c) ?_
  rintro _ K2 ⟨rfl,rfl⟩
  simp(disch:=first|assumption|omega|(simp only[LN]<;>omega)|(simp(disch:=first|assumption|omega|(simp only[LN]<;>omega))only[row_alloc,row_set];assumption))only[W_block,P3,↓reduceIte,reduceAdd,reduceEqDiff,reduceCtorEq,initFr,reduceLT,clsA,reduceLeDiff,reduceMul,reduceSub,reduceIte,e,w6,w7,a_slsP,a_slsT,hget,Int.toNat_natCast,Nat.mul_one,Nat.zero_add,w5]
  refine hn' _ _ _ ⟨i+1,sc.drop (m+1),pre++[sc.take m],_,_,_,rfl,hk.set (Nat.le_refl _) hb _,?_,by rw[hsp];simp,by simp[hpl],by omega,by simp;omega,rfl⟩ (by omega)
  rw[AHeap.get_set_same hget,hd,show n-(i+1)=d by omega]
  subst hpl
  rw[txs_set]
 ·have c1:¬((i:Nat):Int)<((n-1:Nat):Int):=by omega
  have hin:i+1=n:=by omega
  have hd0:d=0:=by omega
  subst hd0
  have hsp1:=splitB_one (c:=c) (l:=sc) (by omega)
  rw[hsp1]at hsp
  have hnew:(txs pre++List.replicate (n-i) (Value.string ⟨([]:List UInt8).toArray⟩)).set i (.string ⟨sc.toArray⟩)=txs (splitB c l):=by
   rw[hd,←hpl,txs_set,hsp];simp
  have hsl2:asem (.slsl 1 (slc K.n 0 n n) none (some (.int .i64 ((i+1:Nat):Int))) none) (M.set K.n (.cells true false 1 (txs (splitB c l)) 9))=some (slc K.n 0 n n,M.set K.n (.cells true false 1 (txs (splitB c l)) 9)):=by
   rw[hin]
   exact a_slsl (AHeap.get_set_same hget _) (m:=n) (hh:=n) (l:=0) rfl (by simp[bndA]) rfl |>.trans (by simp)
  simp(disch:=first|assumption|omega)only[W_block,P3,seval,initFr,clsA]
  refine hx 0 _ _ ?_
  simp(disch:=first|assumption|omega)only[W_block,P3,seval,initFr,clsA,hget,Int.toNat_natCast,Nat.mul_one,Nat.zero_add,hnew,w5,hsl2]
  refine hq2 _ _ ⟨_,rfl,hk.set (Nat.le_refl _) hb _,.inr ⟨K.n,false,?_,by rw[txs_len,hn];omega,AHeap.get_set_same hget _⟩,(fun b hb=>by have h2:some K.n=some b:=hb;cases h2;exact Nat.le_refl _)⟩
  rw[hn];rfl
theorem t48(H:AHeap)(l:List UInt8)(c:UInt8)(hl:l.length≤1000000):∃w K,ARun Tryz.prog 4 48 [.string ⟨l.toArray⟩,.string ⟨[c].toArray⟩] H w K∧Keeps H K∧AP K 9 1 w (splitB c l).length (txs (splitB c l))∧Fresh H.n w:=by
 refine walk2 f48_ok f48_n ?_
 intro Q hq1 hq2
 simp(disch:=first|assumption|omega)only[f48,W_block,P3,seval,initFr,clsA]
 refine callK (t63 H l c hl) ?_
 rintro w K h
 simp(disch:=first|assumption|omega)only[W_block,P3,seval,initFr,clsA]
 exact hq2 _ _ ⟨_,rfl,h⟩
theorem t23(H:AHeap)(l:List UInt8)(hl:l.length≤1000000):∃w K,ARun Tryz.prog 4 23 [.string ⟨l.toArray⟩] H w K∧Keeps H K∧AP K 9 1 w (splitB 10 l).length (txs (splitB 10 l))∧Fresh H.n w:=by
 refine walk2 f23_ok f23_n ?_
 intro Q hq1 hq2
 simp(disch:=first|assumption|omega)only[f23,W_block,P3,seval,initFr,clsA]
 refine callK (t48 H l 10 hl) ?_
 rintro w K h
 simp(disch:=first|assumption|omega)only[W_block,P3,seval,initFr,clsA]
 exact hq2 _ _ ⟨_,rfl,h⟩
end Go.AM.Fd

namespace Go.AM.Fd
open Nat (reduceAdd reduceEqDiff reduceLT reduceLeDiff reduceMul reduceSub)
open Go.Proofs Go.AM.F
def ly0:Ly:=⟨[],[],[],[]⟩
def parseG(f:Ly→List UInt8→Int×Ly):Ly→List (List UInt8)→Nat→Ly×Int×Nat
 |L,[],_=>(L,0,0)
 |L,l::r,i=>if(f L l).1 =0 then parseG f (f L l).2 r (i+1)else(ly0,(f L l).1,i+1)
def parseP(s:List UInt8):Ly×Int×Nat:=if 16384<s.length then(ly0,3,0)else parseG lineP ly0 (splitB 10 s) 0
theorem secP_lim{L:Ly}(h:LyLim L)(ws:List (List UInt8))(e:(secP L ws).1 =0):LyLim (secP L ws).2 :=by
 unfold secP at e ⊢
 split
 ·exact h
 ·split
  ·exact h
  ·split
   ·exact h
   ·rename_i hn
    exact⟨by have:=h.s;simp;omega,h.p,h.g,h.r⟩
theorem partP_lim{L:Ly}(h:LyLim L)(ws:List (List UInt8))(e:(partP L ws).1 =0):LyLim (partP L ws).2 :=by
 unfold partP at e ⊢
 split
 ·exact h
 ·split
  ·exact h
  ·split
   ·exact h
   ·split
    ·split
     ·exact h
     ·exact⟨h.s,by have:=h.p;simp;omega,h.g,h.r⟩
    ·split
     ·exact h
     ·exact⟨h.s,h.p,by have:=h.g;simp;omega,h.r⟩
theorem routeP_lim{L:Ly}(h:LyLim L)(ws:List (List UInt8))(e:(routeP L ws).1 =0):LyLim (routeP L ws).2 :=by
 unfold routeP at e ⊢
 split
 ·unfold routeQ at e ⊢
  split
  ·exact h
  ·split
   ·exact h
   ·split
    ·split
     ·exact h
     ·exact⟨h.s,h.p,h.g,by have:=h.r;simp;omega⟩
    ·exact h
 ·exact h
theorem lineP_lim{L:Ly}(h:LyLim L)(l:List UInt8)(e:(lineP L l).1 =0):LyLim (lineP L l).2 :=by
 unfold lineP lineW at e ⊢
 split
 ·rename_i hok
  rw[if_pos hok]at e
  split
  ·exact h
  ·rename_i h0
   rw[if_neg h0]at e
   split
   ·rename_i h1;rw[if_pos h1]at e;exact secP_lim h _ e
   ·rename_i h1
    rw[if_neg h1]at e
    split
    ·rename_i h2;rw[if_pos h2]at e;exact partP_lim h _ e
    ·rename_i h2
     rw[if_neg h2]at e
     split
     ·rename_i h3;rw[if_pos h3]at e;exact partP_lim h _ e
     ·rename_i h3
      rw[if_neg h3]at e
      split
      ·rename_i h4;rw[if_pos h4]at e;exact routeP_lim h _ e
      ·exact h
 ·exact h
theorem ly0_lim:LyLim ly0:=⟨by simp[ly0],by simp[ly0],by simp[ly0],by simp[ly0]⟩
def nil4:V4:=⟨.slice none 0 0,.slice none 0 0,.slice none 0 0,.slice none 0 0⟩
theorem lyR0(K:AHeap):LyR K nil4 [] ly0:=⟨Sl.nil _ _,Sl.nil _ _,Sl.nil _ _,Sl.nil _ _,rfl,by simp⟩
theorem splitB_lines{s:List UInt8}{i:Nat}(h:i<(splitB 10 s).length):((splitB 10 s).getD i []).length≤s.length:=splitB_le 10 s _ (getD_mem h)
theorem BkR.lyS{B K K':AHeap}{b mb:Nat}{u:V4}{xs:List RV}{L:Ly}{M:MB}{ex:List Th}{S:List Nat}(h:BkR B K b mb u xs L M ex)(c:Chg S K K')(hS:∀y∈S,y<B.n):LyR K' u xs L:=by
 have key:∀(i:Nat) (t:Th),(bkT b mb u xs L M ex)[i]? =some t→t.P K':=fun i t hi=>by
  have hp:=h.sep.at_ i hi
  refine t.st K K' hp c.n (fun y hy=>c.get y (t.lt K hp y hy) (fun hm=>?_))
  have h1:=h.sep.gei i hi hy
  have h2:=hS y hm
  omega
 have a_s:AP K' 9 1 u.s L.s.length (L.s.map tRow).flatten:=key 2 _ rfl
 have ap:AP K' 46 2 u.p L.p.length (L.p.map pRow).flatten:=key 3 _ rfl
 have ag:AP K' 47 2 u.g L.g.length (L.g.map pRow).flatten:=key 4 _ rfl
 have ar:AP K' 44 6 u.r xs.length (xs.map RV.row).flatten:=key 5 _ rfl
 have ai:(thI xs).P K':=key 6 _ rfl
 exact⟨a_s.sl (by intro r hr;obtain⟨x,_,rfl⟩:=List.mem_map.1 hr;rfl) (by simp),ap.sl (by intro r hr;obtain⟨x,_,rfl⟩:=List.mem_map.1 hr;rfl) (by simp),ag.sl (by intro r hr;obtain⟨x,_,rfl⟩:=List.mem_map.1 hr;rfl) (by simp),ar.sl (by intro r hr;obtain⟨x,_,rfl⟩:=List.mem_map.1 hr;rfl) (by simp),h.e,ai⟩
theorem resP{K:AHeap}{fr:List Value}{b e:Nat}{own room:Bool}{c:List Value}{x y:Value}(h1:fr.getD 1 undef=ptr b 0)(h2:fr.getD 2 undef=x)(h3:fr.getD 3 undef=y)(hg:K.get b=some (.cells own room 4 c e))(hl:c.length=4):
 resO [.cn 4 1,.t 2,.t 3] fr K=some (.tuple #[.agg c.toArray,x,y]):=by
 simp only[resO,resVs,RX.get,h1,h2,h3,cellnp,rangeA_e,hg,rng_full hl,Option.map_some]
 rfl
theorem _root_.Go.AM.SepH.adds{H K:AHeap}{ts us:List Th}(h:SepH H K ts)(hu:∀u∈us,u.P K∧u.F=[]):SepH H K (ts++us):=by
 refine⟨⟨fun x hx=>?_,List.pairwise_append.2 ⟨h.sep.ap,?_,fun x hx y hy b hb hb2=>?_⟩⟩,h.k,fun x hx y hy=>?_⟩
 ·rcases List.mem_append.1 hx with hx|hx
  ·exact h.sep.all x hx
  ·exact(hu x hx).1
 ·refine List.pairwise_of_forall_mem_list fun x hx y hy b hb hb2=>?_
  rw[(hu x hx).2]at hb;simp at hb
 ·rw[(hu y hy).2]at hb2;simp at hb2
 ·rcases List.mem_append.1 hx with hx|hx
  ·exact h.ge x hx y hy
  ·rw[(hu x hx).2]at hy;simp at hy
theorem parseG_step{f:Ly→List UInt8→Int×Ly}{L:Ly}{ls:List (List UInt8)}{i:Nat}(h:i<ls.length):parseG f L (ls.drop i) i=if(f L (ls.getD i [])).1 =0 then parseG f (f L (ls.getD i [])).2 (ls.drop (i+1)) (i+1)else(ly0,(f L (ls.getD i [])).1,i+1):=by
 rw[List.drop_eq_getElem_cons h]
 simp only[parseG,List.getD,List.getElem?_eq_getElem h,Option.getD_some]
set_option maxHeartbeats 2000000 in
theorem t13s(H:AHeap)(s:List UInt8):
 ∃w K,ARun Tryz.prog 4 13 [.string ⟨s.toArray⟩] H w K∧Keeps H K∧∃u xs,w=.tuple #[.agg u.l.toArray,.int .i64 (parseP s).2.1,.int .i64 ((parseP s).2.2 :Nat)]∧LyR K u xs (parseP s).1 ∧((parseP s).2.1 ≠0→u=nil4):=by
 refine walk2 f13_ok f13_n ?_
 intro Q hq1 hq2
 have kh:Keeps H (H.alloc (.cells true false 4 [.slice none 0 0,.slice none 0 0,.slice none 0 0,.slice none 0 0] 30)):=(Keeps.refl H).alloc _
 have gh:(H.alloc (.cells true false 4 [.slice none 0 0,.slice none 0 0,.slice none 0 0,.slice none 0 0] 30)).get H.n=_:=AHeap.get_alloc_new _ _
 by_cases hlen:16384<s.length
 ·have e1:(16384:Int)<((s.length:Nat):Int):=by omega
  have ep:parseP s=(ly0,3,0):=by unfold parseP;rw[if_pos hlen]
  simp(disch:=first|assumption|omega|(simp only[LN]<;>omega)|(simp(disch:=first|assumption|omega|(simp only[LN]<;>omega))only[row_alloc,row_set];assumption))only[f13,W_block,P3,seval,initFr,clsA,a_lens]
  refine hq2 _ _ ⟨_,resP rfl rfl rfl gh rfl,kh,nil4,[],by rw[ep];rfl,by rw[ep];exact lyR0 _,fun _=>rfl⟩
 have e1:¬(16384:Int)<((s.length:Nat):Int):=by omega
 have ep:parseP s=parseG lineP ly0 (splitB 10 s) 0:=by unfold parseP;rw[if_neg hlen]
 have hfb:fillA [.slice none 0 0,.slice none 0 0,.slice none 0 0,.slice none 0 0,.map none] [(4,1,.map (some (H.n+1)))]=some [.slice none 0 0,.slice none 0 0,.slice none 0 0,.slice none 0 0,.map (some (H.n+1))]:=rfl
 simp(disch:=first|assumption|omega)only[f13,W_block,P3,seval,initFr,clsA,a_lens,a_mkmap,st_mkmap,hfb]
 have S0:SepH (H.alloc (.cells true false 4 [.slice none 0 0,.slice none 0 0,.slice none 0 0,.slice none 0 0] 30)) _ [thM (H.n+1) []]:=(SepH.nil _).add ((Keeps.refl _).alloc (.obj true (.map #[] 0))) (MP.new _) (by simp[thM,AHeap.alloc])
 have S1:=(S0.box (bkO nil4 (H.n+1))).adds (us:=[thA 9 1 (.slice none 0 0) 0 [],thA 46 2 (.slice none 0 0) 0 [],thA 47 2 (.slice none 0 0) 0 [],thA 44 6 (.slice none 0 0) 0 [],thI []]) (by
  intro t ht
  simp only[List.mem_cons,List.not_mem_nil,or_false]at ht
  rcases ht with rfl|rfl|rfl|rfl|rfl
  ·exact⟨.inl ⟨rfl,rfl,rfl⟩,rfl⟩
  ·exact⟨.inl ⟨rfl,rfl,rfl⟩,rfl⟩
  ·exact⟨.inl ⟨rfl,rfl,rfl⟩,rfl⟩
  ·exact⟨.inl ⟨rfl,rfl,rfl⟩,rfl⟩
  ·exact⟨by intro x hx;simp at hx,rfl⟩)
 refine callK (t23 _ s (by omega)) ?_
 rintro vl K1 ⟨k1,al,fl⟩
 have S2:=(S1.add k1 (t:=thA 9 1 vl (splitB 10 s).length (txs (splitB 10 s))) al (fun y hy=>fl y (mem_blkL.1 hy))).perm (List.perm_append_comm (l₁:=[_]) (l₂:=[_,_,_,_,_,_,_]))
 have R0:BkR _ K1 (H.n+1+1) (H.n+1) nil4 [] ly0 [] [thA 9 1 vl (splitB 10 s).length (txs (splitB 10 s))]:=⟨S2,rfl,fun n=>rfl⟩
 clear S0 S1 S2
 generalize H.alloc (.cells true false 4 [.slice none 0 0,.slice none 0 0,.slice none 0 0,.slice none 0 0] 30)=K0 at*
 have la:lenS vl=(splitB 10 s).length:=(AP.tl al).len
 have ia:=Sl.is (AP.tl al)
 have nl:(splitB 10 s).length≤s.length+1:=splitB_len 10 s
 simp(disch:=first|assumption|omega)only[P3,seval,initFr,clsA,la]
 rw[W_block]
 refine W_loop2 (fun k fr K=>∃i u xs L M x5 x6 x7 x12 x13,fr=[.string ⟨s.toArray⟩,ptr H.n 0,.int .i64 0,.int .i64 0,ptr (H.n+1+1) 0,x5,x6,x7,.bool false,vl,.int .i64 (((splitB 10 s).length:Nat):Int),.int .i64 ((i:Nat):Int),x12,x13]∧BkR K0 K (H.n+1+1) (H.n+1) u xs L M [thA 9 1 vl (splitB 10 s).length (txs (splitB 10 s))]∧LyLim L∧parseP s=parseG lineP L ((splitB 10 s).drop i) i∧i≤(splitB 10 s).length∧k=(splitB 10 s).length - i) (splitB 10 s).length
  ⟨0,_,_,_,_,_,_,_,_,_,rfl,R0,ly0_lim,by rw[ep,List.drop_zero],by omega,rfl⟩ ?_
 rintro Q' k fr K ⟨i,u,xs,L,M,x5,x6,x7,x12,x13,rfl,R,hL,hp,hi,rfl⟩ hn hx hret
 have gK:=R.sep.k.at_ gh
 have kK:=kh.trans R.sep.k
 have hv:TL K vl (splitB 10 s):=AP.tl (R.sep.at_ 7 rfl)
 by_cases hlt:i<(splitB 10 s).length
 ·obtain⟨na,ra⟩:=hv.at_ hlt
  have h0:(0:Int)≤(i:Int):=by omega
  have h1:(i:Int)<((lenS vl:Nat):Int):=by omega
  have h3:(i:Int)<(((splitB 10 s).length:Nat):Int):=by omega
  have hw:IntKind.i64.wrap ((i:Int)+1)=((i+1:Nat):Int):=by rw[wrap_i64 (by omega) (by omega)];simp
  have hll:=splitB_lines hlt
  rw[parseG_step hlt]at hp
  unfold tRow at ra
  generalize(splitB 10 s).getD i []=l at*
  simp(disch:=first|assumption|omega)only[W_block,P3,seval,initFr,clsA,la,ra,na,a_load1v]
  refine callK (t24 R l (by omega) hL) ?_
  rintro _ K2 ⟨rfl,r2,k2⟩
  by_cases he:(lineP L l).1 =0
  ·obtain⟨u',xs',M',R'⟩:=r2 he
   rw[if_pos he]at hp
   rw[he]
   have e0:((0:Int) != 0)=false:=rfl
   simp(disch:=first|assumption|omega)only[W_block,P3,seval,initFr,clsA,e0,hw]
   exact hn _ _ _ ⟨i+1,_,_,_,_,_,_,_,_,_,rfl,R',lineP_lim hL l he,hp,by omega,rfl⟩ (by omega)
  ·rw[if_neg he]at hp
   have e0:((lineP L l).1 != 0)=true:=bnei_yes he
   have g2:=k2.at_ gh
   simp(disch:=first|assumption|omega|(simp only[LN]<;>omega)|(simp(disch:=first|assumption|omega|(simp only[LN]<;>omega))only[row_alloc,row_set];assumption))only[W_block,P3,seval,initFr,clsA,e0,hw,fill0,g2]
   refine hret _ _ (hq2 _ _ ⟨_,resP rfl rfl rfl (AHeap.get_set_same g2 _) rfl,?_,nil4,[],?_,?_,fun _=>rfl⟩)
   ·exact(kh.trans k2).set (Nat.le_refl _) (AHeap.get_lt g2) _
   ·rw[hp];rfl
   ·rw[hp];exact lyR0 _
 ·have h3:¬(i:Int)<(((splitB 10 s).length:Nat):Int):=by omega
  simp(disch:=first|assumption|omega)only[W_block,P3,seval,initFr,clsA,la]
  refine hx 0 _ _ ?_
  rw[List.drop_of_length_le (by omega)]at hp
  have gb:=R.gb
  simp only[bkO]at gb
  have us:=Sl.one R.ly.s
  have up:=Sl.one R.ly.p
  have ug:=Sl.one R.ly.g
  have ur:=Sl.one R.ly.r
  have os:one1 u.s=True:=by simp[one1,us]
  have op:one1 u.p=True:=by simp[one1,up]
  have og:one1 u.g=True:=by simp[one1,ug]
  have or:=Sl.one R.ly.r
  have ho4:[u.s,u.p,u.g,u.r].all Value.oneCell'=true:=by simp only[List.all_cons,List.all_nil,us,up,ug,ur];rfl
  simp(disch:=first|assumption|omega|(simp only[LN]<;>omega)|(simp(disch:=first|assumption|omega|(simp only[LN]<;>omega))only[row_alloc,row_set];assumption))only[W_block,P3,seval,initFr,clsA,gb,gK,ho4]
  refine hq2 _ _ ⟨_,resP rfl rfl rfl (AHeap.get_set_same gK _) rfl,?_,u,xs,?_,?_,fun h=>absurd (by rw[hp];rfl) h⟩
  ·exact kK.set (Nat.le_refl _) (AHeap.get_lt gK) _
  ·rw[hp];rfl
  ·rw[hp]
   exact R.lyS (Chg.set K (AHeap.get_lt gK) _) (fun y hy=>by
    simp only[List.mem_singleton]at hy;subst hy;exact AHeap.get_lt gh)
theorem t13(H:AHeap)(s:List UInt8):
 ∃w K,ARun Tryz.prog 4 13 [.string ⟨s.toArray⟩] H w K∧Keeps H K∧∃u xs,w=.tuple #[.agg u.l.toArray,.int .i64 (parseP s).2.1,.int .i64 ((parseP s).2.2 :Nat)]∧LyR K u xs (parseP s).1 :=by
 obtain⟨w,K,a,b,u,xs,c,d,_⟩:=t13s H s
 exact⟨w,K,a,b,u,xs,c,d⟩
end Go.AM.Fd

namespace Go.AM.Fd
open Nat (reduceAdd reduceEqDiff reduceLT reduceLeDiff reduceMul reduceSub)
open Go.Proofs Go.AM.F
def wkA:List UInt8:=[115,101,99,116,105,111,110,32,65,10,115,101,99,116,105,111,110,32,66,10,112,111,105,110,116,32,80,32,66,10,115,105,103,110,97,108,32,71,32,65,10,114,111,117,116,101,32,82,32,71,32,58,32,66,32,58,32,80,43,32,58,32,58]
def wkB:List UInt8:=[115,101,99,116,105,111,110,32,65,10,115,101,99,116,105,111,110,32,65]
theorem wkA_p:parseP wkA=(⟨[[65],[66]],[([80],1)],[([71],0)],[⟨[82],0,[1],[(0,false)],[],[]⟩]⟩,0,0):=by rfl
theorem wkB_p:(parseP wkB).2 =(41,2):=by rfl
set_option maxHeartbeats 1000000 in
theorem t10(H:AHeap):∃w K,ARun Tryz.prog 4 10 [] H w K∧w=.bool true∧Keeps H K:=by
 refine walk2 f10_ok f10_n ?_
 intro Q hq1 hq2
 simp(disch:=first|assumption|omega)only[f10,W_block,P3,seval,initFr,clsA]
 refine callK (t13 _ wkA) ?_
 rintro _ K1 ⟨k1,u,xs,rfl,y⟩
 rw[wkA_p]at y ⊢
 obtain⟨us,up,ug,ur⟩:=u
 have vs:=Sl.one y.s
 have vp:=Sl.one y.p
 have vg:=Sl.one y.g
 have vr:=Sl.one y.r
 have ho4:[us,up,ug,ur].all Value.oneCell'=true:=by simp only[List.all_cons,List.all_nil,vs,vp,vg,vr];rfl
 simp only[V4.l]at*
 simp(disch:=first|assumption|omega|(simp only[LN]<;>omega)|(simp(disch:=first|assumption|omega|(simp only[LN]<;>omega))only[row_alloc,row_set];assumption))only[W_block,P3,seval,initFr,clsA,ho4]
 refine callK (t13 _ wkB) ?_
 rintro _ K2 ⟨k2,u2,xs2,rfl,y2⟩
 rw[wkB_p]
 obtain⟨us2,up2,ug2,ur2⟩:=u2
 have vs2:=Sl.one y2.s
 have vp2:=Sl.one y2.p
 have vg2:=Sl.one y2.g
 have vr2:=Sl.one y2.r
 have ho42:[us2,up2,ug2,ur2].all Value.oneCell'=true:=by simp only[List.all_cons,List.all_nil,vs2,vp2,vg2,vr2];rfl
 simp only[V4.l]at*
 have g1:K2.get K1.n=some (.cells true false 4 [us,up,ug,ur] 30):=k2.at_ (AHeap.get_alloc_new _ _)
 have kk:Keeps K1 K2:=((Keeps.refl K1).alloc _).trans k2
 have y3:=y.keeps (kk.alloc (.cells true false 4 [us2,up2,ug2,ur2] 30))
 have ls:lenS us=2:=y3.s.len
 have lr:lenS ur=1:=by have:=y3.r.len;rw[y3.rlen]at this;exact this
 have is:=Sl.is y3.s
 have ir:=Sl.is y3.r
 obtain⟨nr,rr⟩:=y3.r.at_ (i:=0) (by rw[y3.rlen];decide)
 obtain⟨ox,ex⟩:=y3.rat (i:=0) (by decide)
 generalize xs.getD 0 rv0=x at*
 obtain⟨xr,xp,xq,xo,xf⟩:=x
 have ex':xr=⟨[82],0,[1],[(0,false)],[],[]⟩:=ex
 subst ex'
 have hlt:=AHeap.get_lt g1
 have i1:((1:Nat):Int)=1:=rfl
 have i2:((2:Nat):Int)=2:=rfl
 have ip:=Sl.is ox.p
 have iq:=Sl.is ox.q
 have lp:lenS xp=1:=ox.p.len
 have lq:lenS xq=1:=ox.q.len
 obtain⟨np,rp⟩:=ox.p.at_ (i:=0) (by simp)
 obtain⟨nq,rq⟩:=ox.q.at_ (i:=0) (by simp)
 simp only[RV.row]at rr
 have t0:Int.toNat 0=0:=rfl
 have c0:(0:Int)≤0:=by omega
 have c1:(0:Int)<((lenS ur:Nat):Int):=by omega
 have c2:(0:Int)<((lenS xp:Nat):Int):=by omega
 have c3:(0:Int)<((lenS xq:Nat):Int):=by omega
 simp(disch:=first|assumption|omega|(simp only[LN]<;>omega)|(simp(disch:=first|assumption|omega|(simp only[LN]<;>omega))only[row_alloc,row_set];assumption))only[W_block,P3,seval,initFr,clsA,ho42,g1,ls,lr,nr,rr,np,rp,nq,rq,t0,a_load1v,lp,lq,i1,i2]
 exact hq2 _ _ ⟨_,rfl,rfl,((Keeps.refl H).trans k1).trans (kk.alloc _)⟩
end Go.AM.Fd

namespace Go.AM.Fd
open Nat (reduceAdd reduceEqDiff reduceLT reduceLeDiff reduceMul reduceSub)
open Go.Proofs Go.AM.F
theorem full_may{L:Ly}(h:fullB L=true):mayB L=false:=by simp[mayB,h]
theorem full_not{L:Ly}(h:fullB L=false):LyLim L:=by
 simp only[fullB,Bool.or_eq_false_iff,decide_eq_false_iff_not]at h
 exact⟨by omega,by omega,by omega,by omega⟩
theorem LyIn.fit2{L:Ly}(h:LyIn 9223372036854775807 L)(k:LyLim L):LyFit L:=
 ⟨⟨by have:=k.s;omega,h.s.2⟩,⟨by have:=k.p;omega,h.p.2⟩,⟨by have:=k.g;omega,h.g.2⟩,⟨by have:=k.r;omega,h.r.2⟩⟩
set_option maxHeartbeats 1000000 in
theorem lMayA{H:AHeap}{u:V4}{xs:List RV}{L:Ly}(h:LyR H u xs L)(hf:LyIn 9223372036854775807 L):∃w H',ARun Tryz.prog 4 18 [.agg u.l.toArray] H w H'∧w=.bool (mayB L)∧H'=H:=by
 cases hfl:fullB L with
 |false=>exact t18 h (hf.fit2 (full_not hfl))
 |true=>
 refine gcb ?_
 refine walk2 f18_ok f18_n ?_
 intro Q hq1 hq2
 rw[full_may hfl]at hq1 hq2
 have os:=Sl.one h.s
 have op:=Sl.one h.p
 have og:=Sl.one h.g
 have or:=Sl.one h.r
 have is:=Sl.is h.s
 have ip:=Sl.is h.p
 have ig:=Sl.is h.g
 have ir:=Sl.is h.r
 have ls:=h.s.len
 have lp:=h.p.len
 have lg:=h.g.len
 have lr:=h.r.len
 rw[h.rlen]at lr
 obtain⟨us,up,ug,ur⟩:=u
 simp only[V4.l]at*
 have kk:Keeps H (H.alloc (.cells true false 4 [us,up,ug,ur] 30)):=(Keeps.refl H).alloc _
 simp only[fullB,Bool.or_eq_true,decide_eq_true_eq]at hfl
 by_cases h1:64<L.s.length
 ·have e1:(64:Int)<((L.s.length:Nat):Int):=by omega
  simp(disch:=first|assumption|omega)only[f18,W_block,P3,seval,initFr,clsA,os,op,og,or,ls,lp,lg,lr]
  exact hq2 _ _ ⟨_,rfl,rfl,kk⟩
 have e1:¬(64:Int)<((L.s.length:Nat):Int):=by omega
 by_cases h2:32<L.p.length
 ·have e2:(32:Int)<((L.p.length:Nat):Int):=by omega
  simp(disch:=first|assumption|omega)only[f18,W_block,P3,seval,initFr,clsA,os,op,og,or,ls,lp,lg,lr]
  exact hq2 _ _ ⟨_,rfl,rfl,kk⟩
 have e2:¬(32:Int)<((L.p.length:Nat):Int):=by omega
 by_cases h3:32<L.g.length
 ·have e3:(32:Int)<((L.g.length:Nat):Int):=by omega
  simp(disch:=first|assumption|omega)only[f18,W_block,P3,seval,initFr,clsA,os,op,og,or,ls,lp,lg,lr]
  exact hq2 _ _ ⟨_,rfl,rfl,kk⟩
 have e3:¬(32:Int)<((L.g.length:Nat):Int):=by omega
 have e4:(64:Int)<((L.r.length:Nat):Int):=by omega
 simp(disch:=first|assumption|omega)only[f18,W_block,P3,seval,initFr,clsA,os,op,og,or,ls,lp,lg,lr]
 exact hq2 _ _ ⟨_,rfl,rfl,kk⟩
theorem rMayA{H:AHeap}{u:V4}{xs:List RV}{L:Ly}(h:LyR H u xs L)(hf:LyIn 9223372036854775807 L):∃w H',ARun Tryz.prog 4 21 [.agg u.l.toArray] H w H'∧w=.bool (mayB L)∧H'=H:=by
 cases hfl:fullB L with
 |false=>exact t21 h (hf.fit2 (full_not hfl))
 |true=>
 refine gcb ?_
 refine walk2 f21_ok f21_n ?_
 intro Q hq1 hq2
 rw[full_may hfl]at hq1 hq2
 have os:=Sl.one h.s
 have op:=Sl.one h.p
 have og:=Sl.one h.g
 have or:=Sl.one h.r
 have hfu:=t28 (h.keeps ((Keeps.refl H).alloc (.cells true false 4 u.l 30)))
 obtain⟨us,up,ug,ur⟩:=u
 simp only[V4.l]at*
 simp(disch:=first|assumption|omega|(simp only[LN]<;>omega)|(simp(disch:=first|assumption|omega|(simp only[LN]<;>omega))only[row_alloc,row_set];assumption))only[f21,W_block,P3,seval,initFr,clsA,os,op,og,or]
 refine callK hfu ?_
 rintro _ X ⟨rfl,hX⟩
 rw[hX,hfl]
 simp(disch:=first|assumption|omega)only[W_block,P3,seval,initFr,clsA]
 exact hq2 _ _ ⟨_,rfl,rfl,(Keeps.refl H).alloc _⟩
theorem ly_ones{H:AHeap}{u:V4}{xs:List RV}{L:Ly}(h:LyR H u xs L):u.l.all Value.oneCell'=true:=by
 simp only[V4.l,List.all_cons,List.all_nil,Sl.one h.s,Sl.one h.p,Sl.one h.g,Sl.one h.r];rfl
theorem t19L{H:AHeap}{u:V4}{xs:List RV}{L:Ly}(hl:LyR H u xs L)(hi:LyIn 9223372036854775807 L):∃w H',ARun Tryz.prog 4 19 [.agg u.l.toArray] H w H'∧w=.bool true:=by
 refine walk2 f19_ok f19_n ?_
 intro Q hq1 hq2
 have hk:=hl.keeps ((Keeps.refl H).alloc (.cells true false 4 u.l 30))
 have ho:=ly_ones hl
 have gl:(H.alloc (.cells true false 4 u.l 30)).get H.n=some (.cells true false 4 u.l 30):=AHeap.get_alloc_new _ _
 have ll:u.l.length=4:=rfl
 simp(disch:=first|assumption|omega)only[f19,W_block,P3,seval,initFr,clsA,ho,gl,ll]
 generalize H.alloc (.cells true false 4 u.l 30)=K0 at*
 refine callK (t16 (top:=1500) (by omega) hk hi) ?_
 rintro _ X ⟨⟨n,rfl⟩,hX⟩
 rw[hX]
 by_cases hn:(1500:Int)<n
 ·simp(disch:=first|assumption|omega)only[W_block,P3,seval,initFr,clsA]
  refine callK (t10 _) ?_
  rintro _ K ⟨rfl,k⟩
  simp(disch:=first|assumption|omega)only[W_block,P3,seval,initFr,clsA]
  exact hq2 _ _ ⟨_,rfl,rfl⟩
 simp(disch:=first|assumption|omega)only[W_block,P3,seval,initFr,clsA,gl,ll]
 refine callQ (lMayA hk hi) ?_
 simp(disch:=first|assumption|omega)only[W_block,P3,seval,initFr,clsA,gl,ll]
 refine⟨AHeap.get_lt gl,?_⟩
 refine callQ (rMayA hk hi) ?_
 generalize mayB L=b
 have eb:(b==b)=true:=by simp
 simp(disch:=first|assumption|omega)only[W_block,P3,seval,initFr,clsA,eb]
 refine callK (t10 _) ?_
 rintro _ K ⟨rfl,k⟩
 simp(disch:=first|assumption|omega)only[W_block,P3,seval,initFr,clsA]
 exact hq2 _ _ ⟨_,rfl,rfl⟩
end Go.AM.Fd

set_option maxRecDepth 100000
set_option maxHeartbeats 0
namespace Go.AM.F
def zclE:TypeId→List Value
 |44=>[(.string ByteArray.empty),(.int .i64 0),(.slice none 0 0),(.slice none 0 0),(.slice none 0 0),(.slice none 0 0)]
 |30=>[(.slice none 0 0),(.slice none 0 0),(.slice none 0 0),(.slice none 0 0)]
 |_=>[]
def zvlE:TypeId→Value
 |_=>undef
def zklE:TypeId→List Nat
 |_=>[]
def zrlE:Nat→TypeId→List Value
 |_,_=>[]
noncomputable def f47:AFunc:=by
 refine(fun(_:Cz zclE zvlE zklE zrlE Go.Proofs.Tryz.prog 4 [0,1,2,3,4,6] 47 ?a)=>?a) ?h
 case h=>
 intro zc zv zk zr hc hv hk hr
 conv=>lhs;cbv;try simp only[hc,hv,hk,hr,zclE,zvlE,zklE,zrlE]
theorem f47_ok:compF Go.Proofs.Tryz.prog 4 [0,1,2,3,4,6] 47=some f47:=by kernel_rfl
theorem f47_n:argsOK Go.Proofs.Tryz.prog 47 2=true:=by kernel_rfl
noncomputable def f22:AFunc:=by
 refine(fun(_:Cz zclE zvlE zklE zrlE Go.Proofs.Tryz.prog 4 [0,1,2,3,6,7,8,9,13,30] 22 ?a)=>?a) ?h
 case h=>
 intro zc zv zk zr hc hv hk hr
 conv=>lhs;cbv;try simp only[hc,hv,hk,hr,zclE,zvlE,zklE,zrlE]
theorem f22_ok:compF Go.Proofs.Tryz.prog 4 [0,1,2,3,6,7,8,9,13,30] 22=some f22:=by kernel_rfl
theorem f22_n:argsOK Go.Proofs.Tryz.prog 22 3=true:=by kernel_rfl
noncomputable def f11:AFunc:=by
 refine(fun(_:Cz zclE zvlE zklE zrlE Go.Proofs.Tryz.prog 4 [0,1,2,3,4,5,6,7,8,9,12,17,33,62,91,136] 11 ?a)=>?a) ?h
 case h=>
 intro zc zv zk zr hc hv hk hr
 conv=>lhs;cbv;try simp only[hc,hv,hk,hr,zclE,zvlE,zklE,zrlE]
theorem f11_ok:compF Go.Proofs.Tryz.prog 4 [0,1,2,3,4,5,6,7,8,9,12,17,33,62,91,136] 11=some f11:=by kernel_rfl
theorem f11_n:argsOK Go.Proofs.Tryz.prog 11 1=true:=by kernel_rfl
noncomputable def f20:AFunc:=by
 refine(fun(_:Cz zclE zvlE zklE zrlE Go.Proofs.Tryz.prog 4 [0,1,2,3,4,5,6,7,10] 20 ?a)=>?a) ?h
 case h=>
 intro zc zv zk zr hc hv hk hr
 conv=>lhs;cbv;try simp only[hc,hv,hk,hr,zclE,zvlE,zklE,zrlE]
theorem f20_ok:compF Go.Proofs.Tryz.prog 4 [0,1,2,3,4,5,6,7,10] 20=some f20:=by kernel_rfl
theorem f20_n:argsOK Go.Proofs.Tryz.prog 20 1=true:=by kernel_rfl
noncomputable def f6:AFunc:=by
 refine(fun(_:Cz zclE zvlE zklE zrlE Go.Proofs.Tryz.prog 4 [0,1,3,4,5,6,8,9,10,11,13,14,15,16,17,25,34,62,69] 6 ?a)=>?a) ?h
 case h=>
 intro zc zv zk zr hc hv hk hr
 conv=>lhs;cbv;try simp only[hc,hv,hk,hr,zclE,zvlE,zklE,zrlE]
theorem f6_ok:compF Go.Proofs.Tryz.prog 4 [0,1,3,4,5,6,8,9,10,11,13,14,15,16,17,25,34,62,69] 6=some f6:=by kernel_rfl
theorem f6_n:argsOK Go.Proofs.Tryz.prog 6 2=true:=by kernel_rfl
end Go.AM.F

set_option maxRecDepth 100000
namespace Go.AM.Ky
open Go.Proofs Go.Shelf
def ren:Ren:=⟨fun|156=>58|165=>76|166=>77|169=>78|240=>88|241=>89|276=>97|277=>98|178=>34|181=>35|182=>36|184=>79|251=>59|252=>60|290=>80|324=>90|n=>n,fun|31=>23|37=>50|70=>127|72=>129|75=>75|76=>76|127=>138|164=>143|80=>22|91=>66|93=>68|130=>99|131=>100|n=>n,fun|14=>0|n=>n⟩
theorem lay178:LaysM.n178 Tryz.prog ren:={
 mixed:=by kernel_rfl,
 f178:=by kernel_rfl,
 f181:=by kernel_rfl,
 f184:=by kernel_rfl,
 f251:=by kernel_rfl,
 f252:=by kernel_rfl,
 f290:=by kernel_rfl,
 f324:=by kernel_rfl,
 t0:=by kernel_rfl,
 a0:=fun _=>by kernel_rfl,
 z0:=fun _=>by kernel_rfl,
 v0:=fun _=>by kernel_rfl,
 t3:=by kernel_rfl,
 a3:=fun _=>by kernel_rfl,
 z3:=fun _=>by kernel_rfl,
 v3:=fun _=>by kernel_rfl,
 t4:=by kernel_rfl,
 a4:=fun _=>by kernel_rfl,
 z4:=fun _=>by kernel_rfl,
 v4:=fun _=>by kernel_rfl,
 t9:=by kernel_rfl,
 a9:=fun _=>by kernel_rfl,
 z9:=fun _=>by kernel_rfl,
 v9:=fun _=>by kernel_rfl,
 t20:=by kernel_rfl,
 a20:=fun _=>by kernel_rfl,
 z20:=fun _=>by kernel_rfl,
 v20:=fun _=>by kernel_rfl,
 t37:=by kernel_rfl,
 a37:=fun _=>by kernel_rfl,
 z37:=fun _=>by kernel_rfl,
 v37:=fun _=>by kernel_rfl,
 t75:=by kernel_rfl,
 a75:=fun _=>by kernel_rfl,
 z75:=fun _=>by kernel_rfl,
 v75:=fun _=>by kernel_rfl,
 t91:=by kernel_rfl,
 a91:=fun _=>by kernel_rfl,
 z91:=fun _=>by kernel_rfl,
 v91:=fun _=>by kernel_rfl,
 t93:=by kernel_rfl,
 a93:=fun _=>by kernel_rfl,
 z93:=fun _=>by kernel_rfl,
 v93:=fun _=>by kernel_rfl,
 t130:=by kernel_rfl,
 a130:=fun _=>by kernel_rfl,
 z130:=fun _=>by kernel_rfl,
 v130:=fun _=>by kernel_rfl,
 t131:=by kernel_rfl,
 a131:=fun _=>by kernel_rfl,
 z131:=fun _=>by kernel_rfl,
 v131:=fun _=>by kernel_rfl,
 g14:=by kernel_rfl,
 t5:=by kernel_rfl,
 a5:=fun _=>by kernel_rfl,
 z5:=fun _=>by kernel_rfl,
 v5:=fun _=>by kernel_rfl,
 t80:=by kernel_rfl,
 a80:=fun _=>by kernel_rfl,
 z80:=fun _=>by kernel_rfl,
 v80:=fun _=>by kernel_rfl,
 i0:=by kernel_rfl,
 i3:=by kernel_rfl,
 i4:=by kernel_rfl,
 i5:=by kernel_rfl,
 i9:=by kernel_rfl,
 i20:=by kernel_rfl,
 i37:=by kernel_rfl,
 i75:=by kernel_rfl,
 i80:=by kernel_rfl,
 i91:=by kernel_rfl,
 i93:=by kernel_rfl,
 i130:=by kernel_rfl,
 i131:=by kernel_rfl,
 m14:=by kernel_rfl}
end Go.AM.Ky

namespace Go.AM.Ky
open Go.Proofs Go.Shelf Go.RowKit
def Fr(B b:Nat)(w w':World):Prop:=Below B w w'∧Lib.OthersKept 5 (some b) w w'
theorem Fr.trans{B b:Nat}{u v w:World}(h:Fr B b u v)(k:Fr B b v w):Fr B b u w:=⟨h.1.trans k.1,h.2.trans k.2⟩
theorem Fr.size{B b:Nat}{w w':World}(h:Fr B b w w'):w.heap.size≤w'.heap.size:=h.1.size
theorem Fr.al{B b:Nat}{w:World}(h:B≤w.heap.size)(o:Obj):Fr B b w (w.alloc o):=⟨((Below.refl _ w).alloc (Nat.le_refl _) o).mono h,(Lib.OthersKept.refl _ _ w).alloc o⟩
theorem Fr.drew(B b:Nat)(w:World):Fr B b w w.drew:=⟨⟨rfl,rfl,rfl,Nat.le_refl _,fun _ _=>rfl⟩,fun _ _ h _ _=>h⟩
theorem Fr.of{B b:Nat}{w w':World}(h:Below w.heap.size w w')(hB:B≤w.heap.size):Fr B b w w':=⟨h.mono hB,fun k o hk _ _=>by rw[h.block k (Array.getElem?_eq_some_iff.1 hk).1];exact hk⟩
theorem Fr.cell{B b:Nat}{w w':World}(h:Fr B b w w'){k j:Nat}{c:Array Value}{e:TypeId}{fz:Nat×Nat}(hk:w.heap[k]? =some (.cells c e fz))(he:e≠5)(hb:k≠b):w'.heap[k]? =some (.cells c e fz):=
 h.2 k _ hk (by simpa using hb) (fun c2 f2 h2=>by cases h2;exact he rfl)
def PB(R:Nat→Option Value)(B b:Nat)(bs:List UInt8)(w:World):Prop:=LibA.IsBuffer 70 R 5 B b 0 (Lib.byteCells bs) w
theorem wstr(R:Nat→Option Value)(B b:Nat)(bs:List UInt8)(s:ByteArray)(w:World)(h:PB R B b bs w)(hBw:B≤w.heap.size)(hlim:bs.length+s.size≤140737488355328):
 Calls Tryz.prog 34 #[.pointer (some ⟨b,0,none⟩),.string s] w fun e w'=>e=.returned (.tuple #[.int .i64 s.size,.nilIface])∧PB R B b (bs++s.data.toList) w'∧Fr B b w w':=by
 refine(Any.Buffer_WriteString_at lay178 70 R B b 0 (Lib.byteCells bs) s w h hBw (Lib.byteCells_one _) ?_).mono ?_
 ·rw[Lib.byteCells_length];exact hlim
 ·rintro e w' ⟨rfl,h1,h2,h3⟩
  exact⟨rfl,by unfold PB;rw[Lib.byteCells_append];exact h1,h2,h3⟩
theorem words_c (hJ:∀(bk o c:Nat) (xs:List ByteArray) (sep:ByteArray) (w:World)
 (hcells:∀(j:Nat) x,xs[j]? =some x→w.cell? ⟨bk,o+j,none⟩=some (.string x))
 (hbk:bk<w.heap.size) (hN:xs.length≤140737488355328) (hcap:xs.length≤c)
 (hlen:(Lib.join (xs.map (·.data.toList)) sep.data.toList).length≤140737488355328),
 Calls Tryz.prog 58 #[.slice (some ⟨bk,o,none⟩) xs.length c,.string sep] w fun e w'=>e=.returned (.string ⟨(Lib.join (xs.map (·.data.toList)) sep.data.toList).toArray⟩)∧Below w.heap.size w w') (R:Nat→Option Value) (B b:Nat) (bs:List UInt8) (k c:Nat) (xs:List ByteArray) (w:World) (h:PB R B b bs w) (hBw:B≤w.heap.size)
 (hcells:∀(j:Nat) x,xs[j]? =some x→w.cell? ⟨k,0+j,none⟩=some (.string x)) (hk:k<w.heap.size) (hc:xs.length≤c) (hn:xs.length≤10)
 (hlim:bs.length+(Lib.join (xs.map (·.data.toList)) [32]).length≤140737488355328):
 Calls Tryz.prog 31 #[.pointer (some ⟨b,0,none⟩),.slice (some ⟨k,0,none⟩) xs.length c] w fun e w'=>e=.returned (.tuple #[])∧PB R B b (bs++Lib.join (xs.map (·.data.toList)) [32]) w'∧Fr B b w w':=by
 have j:=hJ k 0 c xs ⟨#[32]⟩
 have mixed:=lay178.mixed
 go_enter Tryz.func31,Tryz.ntmps31
 go_region_with_o (
  first
  |(go_at_call 58
    refine(j _ ?_ ?_ (by omega) hc (by show(Lib.join _ [32]).length≤_;omega)).mono ?_
    ·exact hcells
    ·exact hk
    rintro e w1 ⟨rfl,b1⟩)
  |(go_at_call 34
    refine(wstr R B b bs _ _ ?_ ?_ ?_).mono ?_
    ·exact LibA.IsBuffer.old (w:=w.drew) h b1
    ·exact Nat.le_trans hBw b1.size
    ·simpa[Lib.size_eq]using hlim
    rintro e w2 ⟨rfl,h2,b2⟩))
 go_end0
 exact⟨rfl,h2,((Fr.drew B b w).trans (Fr.of b1 hBw)).trans b2⟩
theorem Row1c{B:Nat}{w w':World}{a o:Nat}{v:Value}(h:w.cell? ⟨a,o,none⟩=some v)(ha:a<B)(b:Below B w w'):w'.cell? ⟨a,o,none⟩=some v:=by
 rw[←h]
 unfold World.cell?
 rw[b.block a ha]
theorem alloc_sz(w:World)(o:Obj):(w.alloc o).heap.size=w.heap.size+1:=by
 show(w.heap.push _).size=_
 simp
theorem alloc_cell{w:World}{a:Addr}{v:Value}(o:Obj)(h:w.cell? a=some v):(w.alloc o).cell? a=some v:=by
 have hlt:a.block<w.heap.size:=by
  unfold World.cell? at h
  split at h
  ·rename_i hh;exact(Array.getElem?_eq_some_iff.1 hh).1
  ·cases h
 rw[←h]
 unfold World.cell?
 rw[show(w.alloc o).heap[a.block]? =w.heap[a.block]? from by show(w.heap.push _)[a.block]? =_;rw[Array.getElem?_push,if_neg (by omega)]]
theorem alloc_new(w:World)(c:List Value)(e:TypeId)(j:Nat){v:Value}(h:c[j]? =some v):(w.alloc (.cells c.toArray e)).cell? ⟨w.heap.size,j,none⟩=some v:=by
 unfold World.cell?
 rw[show(w.alloc (.cells c.toArray e)).heap[w.heap.size]? =some (.cells c.toArray e)from by show(w.heap.push _)[w.heap.size]? =_;simp]
 simp[h]
theorem alloc_row(w:World)(xs:List ByteArray)(e:TypeId):∀(j:Nat) x,xs[j]? =some x→(w.alloc (.cells (xs.map Value.string).toArray e)).cell? ⟨w.heap.size,0+j,none⟩=some (.string x):=by
 intro j x hj
 unfold World.cell?
 rw[show(w.alloc (.cells (xs.map Value.string).toArray e)).heap[w.heap.size]? =some (.cells (xs.map Value.string).toArray e)from by show(w.heap.push _)[w.heap.size]? =_;simp]
 simp[hj]
end Go.AM.Ky

namespace Go.AM.Ky
open Go.Proofs Go.Shelf Go.RowKit
abbrev JoinC:Prop:=∀(bk o c:Nat) (xs:List ByteArray) (sep:ByteArray) (w:World)
 (hcells:∀(j:Nat) x,xs[j]? =some x→w.cell? ⟨bk,o+j,none⟩=some (.string x))
 (hbk:bk<w.heap.size) (hN:xs.length≤140737488355328) (hcap:xs.length≤c)
 (hlen:(Lib.join (xs.map (·.data.toList)) sep.data.toList).length≤140737488355328),
 Calls Tryz.prog 58 #[.slice (some ⟨bk,o,none⟩) xs.length c,.string sep] w fun e w'=>e=.returned (.string ⟨(Lib.join (xs.map (·.data.toList)) sep.data.toList).toArray⟩)∧Below w.heap.size w w'
def Row1(B:Nat)(w:World)(ad:Option Addr)(l:List Value):Prop:=∀k x,l[k]? =some x→∃a o,ad=some ⟨a,o,none⟩∧a<B∧w.cell? ⟨a,o+k,none⟩=some x
def secT(nm:Nat→ByteArray)(ns:List Nat):List UInt8:=ns.flatMap fun n=>32::(nm n).data.toList
theorem secT_take(nm:Nat→ByteArray){ns:List Nat}{k x:Nat}(h:ns[k]? =some x):secT nm (ns.take (k+1))=secT nm (ns.take k)++32::(nm x).data.toList:=by
 unfold secT
 rw[List.take_add_one,h]
 simp
theorem secT_le(nm:Nat→ByteArray)(ns:List Nat)(k:Nat):(secT nm (ns.take k)).length≤(secT nm ns).length:=by
 have e:secT nm ns=secT nm (ns.take k)++secT nm (ns.drop k):=by
  unfold secT
  rw[←List.flatMap_append,List.take_append_drop]
 rw[e,List.length_append];omega
set_option maxHeartbeats 6400000 in
set_option maxRecDepth 100000 in
theorem sections_c(hJ:JoinC)(R:Nat→Option Value)(B b:Nat)(bs:List UInt8)(ad sad:Option Addr)(n c sn sc:Nat)(ns:List Nat)(nm:Nat→ByteArray)(w:World)(h:PB R B b bs w)(hBw:B≤w.heap.size)
 (hn:ns.length=n) (hnc:n≤c) (hrow:Row1 B w ad (ns.map fun(x:Nat)=>Value.int .i64 x)) (hR:R 3=some (.slice sad sn sc)) (hsc:sn≤sc) (hnm:∀x,x<sn→∃a o,sad=some ⟨a,o,none⟩∧a<B∧w.cell? ⟨a,o+x,none⟩=some (.string (nm x))) (hlt:∀x∈ns,x<sn)
 (hbig:n≤1000∧sn≤1000) (hlim:bs.length+2+(secT nm ns).length≤140737488355328):
 Calls Tryz.prog 32 #[.pointer (some ⟨b,0,none⟩),.slice ad n c] w fun e w'=>e=.returned (.tuple #[])∧PB R B b (bs++[32,58]++secT nm ns) w'∧Fr B b w w':=by
 have mixed:=lay178.mixed
 go_enter Tryz.func32,Tryz.ntmps32
 go_wp2_with (go_at_call 34;refine(wstr R B b bs _ _ ?_ ?_ ?_).mono ?_;(exact h);(exact hBw);(show bs.length+2≤140737488355328;omega);rintro e w1 ⟨rfl,h1,b1⟩)
 go_loopw [12] (fun i wr=>∃k:Nat,k≤n∧i=.int .i64 k∧PB R B b (bs++[32,58]++secT nm (ns.take k)) wr∧Fr B b w wr) (fun i _=>n-(intOf i).toNat)
 case atStart=>exact⟨0,Nat.zero_le _,rfl,by simpa[secT]using h1,b1⟩
 case round=>
  obtain⟨k,hkn,rfl,hP,hb⟩:=hrel
  clear h1 b1
  by_cases hk:k<n
  ·obtain⟨x,hx⟩:∃x,ns[k]? =some x:=⟨_,List.getElem?_eq_getElem (by omega)⟩
   obtain⟨a,o,rfl,ha,hcell⟩:=hrow k (.int .i64 (x:Nat)) (by simp[hx])
   have hxs:x<sn:=hlt _ (List.mem_of_getElem? hx)
   obtain⟨a2,o2,rfl,ha2,hcell2⟩:=hnm x hxs
   have hc1:wr.cell? ⟨a,o+k,none⟩=some (.int .i64 (x:Nat)):=Row1c hcell ha hb.1
   have hc2:wr.cell? ⟨a2,o2+x,none⟩=some (.string (nm x)):=Row1c hcell2 ha2 hb.1
   have hc3:wr.cell? ⟨b,3,none⟩=some (.slice (some ⟨a2,o2,none⟩) sn sc):=by
    obtain⟨_,_,_,h3,_⟩:=hP
    rw[h3.rest 3 (.inr (by omega)),hR]
   have hT:=secT_take nm hx
   have hTl:=secT_le nm ns (k+1)
   rw[hT]at hTl
   clear hcell hcell2 hrow hnm hR
   generalize nm x=m at*
   have hal:=alloc_row wr [ByteArray.empty,m] 9
   have hwB:B≤wr.heap.size:=Nat.le_trans hBw hb.size
   have hj:Lib.join ([ByteArray.empty,m].map (·.data.toList)) [32]=32::m.data.toList:=by simp[Lib.join,List.intercalate]
   go_wp2_with (go_at_call 31
                refine(words_c hJ R B b _ wr.heap.size 2 [ByteArray.empty,m] _ (LibA.IsBuffer.alloc hP _) (by rw[alloc_sz];omega) hal (by rw[alloc_sz];omega) (Nat.le_refl _) (by show 2≤10;omega) (by rw[hj];simp only[List.length_append,List.length_cons,List.length_nil]at hTl ⊢;omega)).mono ?_
                rintro e w2 ⟨rfl,h2,b2⟩)
   go_wp2
   go_roundw
   case rel=>
    refine⟨k+1,by omega,by simp,?_,?_⟩
    ·rw[hT,←List.append_assoc];rw[hj]at h2;exact h2
    ·exact(hb.trans (Fr.al hwB _)).trans b2
   case measure=>simp[intOf];omega
  ·go_wp2
   go_end0
   have e:ns.take k=ns:=List.take_of_length_le (by omega)
   rw[e]at hP
   exact⟨rfl,hP,hb⟩
end Go.AM.Ky

namespace Go.AM.Ky
open Go.Proofs Go.Shelf Go.RowKit
def needW(nm:Nat→ByteArray)(x:Nat×Bool):List UInt8:=(nm x.1).data.toList++[if x.2 then 45 else 43]
def needT(nm:Nat→ByteArray)(ns:List (Nat×Bool)):List UInt8:=ns.flatMap fun n=>32::needW nm n
theorem needT_take(nm:Nat→ByteArray){ns:List (Nat×Bool)}{k:Nat}{x:Nat×Bool}(h:ns[k]? =some x):needT nm (ns.take (k+1))=needT nm (ns.take k)++32::needW nm x:=by
 unfold needT
 rw[List.take_add_one,h]
 simp
theorem needT_le(nm:Nat→ByteArray)(ns:List (Nat×Bool))(k:Nat):(needT nm (ns.take k)).length≤(needT nm ns).length:=by
 have e:needT nm ns=needT nm (ns.take k)++needT nm (ns.drop k):=by
  unfold needT
  rw[←List.flatMap_append,List.take_append_drop]
 rw[e,List.length_append];omega
set_option maxHeartbeats 6400000 in
set_option maxRecDepth 100000 in
theorem needs_c(hJ:JoinC)(R:Nat→Option Value)(B b:Nat)(bs:List UInt8)(ad sad:Option Addr)(n c sn sc:Nat)(ns:List (Nat×Bool))(nm:Nat→ByteArray)(w:World)(h:PB R B b bs w)(hBw:B≤w.heap.size)
 (hn:ns.length=n) (hnc:n≤c) (hrow:∀k x,ns[k]? =some x→∃a o,ad=some ⟨a,o,none⟩∧a<B∧w.cell? ⟨a,o+k*2,none⟩=some (.int .i64 x.1)∧w.cell? ⟨a,o+k*2+1,none⟩=some (.bool x.2)) (hR:R 4=some (.slice sad sn sc)) (hsc:sn≤sc)
 (hnm:∀x,x<sn→∃a o,sad=some ⟨a,o,none⟩∧a<B∧w.cell? ⟨a,o+x*2,none⟩=some (.string (nm x))) (hlt:∀x∈ns,x.1<sn)
 (hbig:n≤1000∧sn≤1000) (hlim:bs.length+2+(needT nm ns).length≤140737488355328):
 Calls Tryz.prog 33 #[.pointer (some ⟨b,0,none⟩),.slice ad n c] w fun e w'=>e=.returned (.tuple #[])∧PB R B b (bs++[32,58]++needT nm ns) w'∧Fr B b w w':=by
 have mixed:=lay178.mixed
 go_enter Tryz.func33,Tryz.ntmps33
 go_wp2_with (go_at_call 34;refine(wstr R B b bs _ _ ?_ ?_ ?_).mono ?_;(exact h);(exact hBw);(show bs.length+2≤140737488355328;omega);rintro e w1 ⟨rfl,h1,b1⟩)
 go_loopw [13] (fun i wr=>∃k:Nat,k≤n∧i=.int .i64 k∧PB R B b (bs++[32,58]++needT nm (ns.take k)) wr∧Fr B b w wr) (fun i _=>n-(intOf i).toNat)
 case atStart=>exact⟨0,Nat.zero_le _,rfl,by simpa[needT]using h1,b1⟩
 case round=>
  obtain⟨k,hkn,rfl,hP,hb⟩:=hrel
  clear h1 b1
  by_cases hk:k<n
  ·obtain⟨x,hx⟩:∃x,ns[k]? =some x:=⟨_,List.getElem?_eq_getElem (by omega)⟩
   obtain⟨a,o,rfl,ha,hcell,hcellb⟩:=hrow k x hx
   have hxs:x.1<sn:=hlt _ (List.mem_of_getElem? hx)
   obtain⟨a2,o2,rfl,ha2,hcell2⟩:=hnm x.1 hxs
   have hc1:wr.cell? ⟨a,o+k*2,none⟩=some (.int .i64 (x.1:Nat)):=Row1c hcell ha hb.1
   have hc1b:wr.cell? ⟨a,o+k*2+1,none⟩=some (.bool x.2):=Row1c hcellb ha hb.1
   have hc2:wr.cell? ⟨a2,o2+x.1*2,none⟩=some (.string (nm x.1)):=Row1c hcell2 ha2 hb.1
   have hc3:wr.cell? ⟨b,4,none⟩=some (.slice (some ⟨a2,o2,none⟩) sn sc):=by
    obtain⟨_,_,_,h3,_⟩:=hP
    rw[h3.rest 4 (.inr (by omega)),hR]
   have hT:=needT_take nm hx
   have hTl:=needT_le nm ns (k+1)
   rw[hT]at hTl
   have hwB:B≤wr.heap.size:=Nat.le_trans hBw hb.size
   clear hcell hcell2 hcellb hrow hnm hR
   obtain⟨p,r⟩:=x
   simp only[needW]at*
   generalize nm p=m at*
   cases r
   ·go_wp2
    have hP1:PB R B b _ (wr.alloc (.cells #[.int .i64 p,.bool false] 49)):=LibA.IsBuffer.alloc hP _
    have d3:=alloc_cell (.cells #[.int .i64 p,.bool false] 49) hc3
    have d2:=alloc_cell (.cells #[.int .i64 p,.bool false] 49) hc2
    have d0:=alloc_new wr [.int .i64 p,.bool false] 49 0 rfl
    have hwB1:B≤(wr.alloc (.cells #[.int .i64 p,.bool false] 49)).heap.size:=by rw[alloc_sz];omega
    have hb1:Fr B b w (wr.alloc (.cells #[.int .i64 p,.bool false] 49)):=hb.trans (Fr.al hwB _)
    have e0:([.int .i64 p,.bool false]:List Value).toArray= #[.int .i64 p,.bool false]:=rfl
    rw[e0]at d0
    generalize wr.alloc (.cells #[.int .i64 p,.bool false] 49)=W at*
    generalize wr.heap.size=N at*
    have hms:m.size≤140737488355328:=by rw[Lib.size_eq];simp only[List.length_append,List.length_cons]at hTl;omega
    have hs1:¬9223372036854775807<m.size+1:=by omega
    have hj:Lib.join ([ByteArray.empty,m++(⟨#[43]⟩:ByteArray)].map (·.data.toList)) [32]=32::(m.data.toList++[43]):=by simp[Lib.join,List.intercalate]
    have hal:=alloc_row W [ByteArray.empty,m++(⟨#[43]⟩:ByteArray)] 9
    have hW:=words_c hJ R B b (bs++[32,58]++needT nm (ns.take k)) W.heap.size 2 [ByteArray.empty,m++(⟨#[43]⟩:ByteArray)] (W.alloc (.cells #[.string ⟨#[]⟩,.string (m++(⟨#[43]⟩:ByteArray))] 9)).drew (LibA.IsBuffer.alloc hP1 _) (by show B≤(W.alloc _).heap.size;rw[alloc_sz];omega) hal (by show _<(W.alloc _).heap.size;rw[alloc_sz];omega) (Nat.le_refl _) (by show 2≤10;omega) (by
     rw[hj]
     simp only[Bool.false_eq_true,if_true,if_false,List.length_append,List.length_cons,List.length_nil]at hTl ⊢
     omega)
    go_region_with_o (
     (go_at_call 31
      refine hW.mono ?_
      rintro e w2 ⟨rfl,h2,b2⟩))
    all_goals (
     go_wp2
     go_roundw
     case rel=>
      refine⟨k+1,by omega,by simp,?_,?_⟩
      ·rw[hT,←List.append_assoc];rw[hj]at h2;exact h2
      ·exact((hb1.trans (Fr.al hwB1 _)).trans (Fr.drew B b _)).trans b2
     case measure=>simp[intOf];omega)
   ·go_wp2
    have hP1:PB R B b _ (wr.alloc (.cells #[.int .i64 p,.bool true] 49)):=LibA.IsBuffer.alloc hP _
    have d3:=alloc_cell (.cells #[.int .i64 p,.bool true] 49) hc3
    have d2:=alloc_cell (.cells #[.int .i64 p,.bool true] 49) hc2
    have d0:=alloc_new wr [.int .i64 p,.bool true] 49 0 rfl
    have hwB1:B≤(wr.alloc (.cells #[.int .i64 p,.bool true] 49)).heap.size:=by rw[alloc_sz];omega
    have hb1:Fr B b w (wr.alloc (.cells #[.int .i64 p,.bool true] 49)):=hb.trans (Fr.al hwB _)
    have e0:([.int .i64 p,.bool true]:List Value).toArray= #[.int .i64 p,.bool true]:=rfl
    rw[e0]at d0
    generalize wr.alloc (.cells #[.int .i64 p,.bool true] 49)=W at*
    generalize wr.heap.size=N at*
    have hms:m.size≤140737488355328:=by rw[Lib.size_eq];simp only[List.length_append,List.length_cons]at hTl;omega
    have hs1:¬9223372036854775807<m.size+1:=by omega
    have hj:Lib.join ([ByteArray.empty,m++(⟨#[45]⟩:ByteArray)].map (·.data.toList)) [32]=32::(m.data.toList++[45]):=by simp[Lib.join,List.intercalate]
    have hal:=alloc_row W [ByteArray.empty,m++(⟨#[45]⟩:ByteArray)] 9
    have hW:=words_c hJ R B b (bs++[32,58]++needT nm (ns.take k)) W.heap.size 2 [ByteArray.empty,m++(⟨#[45]⟩:ByteArray)] (W.alloc (.cells #[.string ⟨#[]⟩,.string (m++(⟨#[45]⟩:ByteArray))] 9)).drew (LibA.IsBuffer.alloc hP1 _) (by show B≤(W.alloc _).heap.size;rw[alloc_sz];omega) hal (by show _<(W.alloc _).heap.size;rw[alloc_sz];omega) (Nat.le_refl _) (by show 2≤10;omega) (by
     rw[hj]
     simp only[Bool.false_eq_true,if_true,if_false,List.length_append,List.length_cons,List.length_nil]at hTl ⊢
     omega)
    go_region_with_o (
     (go_at_call 31
      refine hW.mono ?_
      rintro e w2 ⟨rfl,h2,b2⟩))
    all_goals (
     go_wp2
     go_roundw
     case rel=>
      refine⟨k+1,by omega,by simp,?_,?_⟩
      ·rw[hT,←List.append_assoc];rw[hj]at h2;exact h2
      ·exact((hb1.trans (Fr.al hwB1 _)).trans (Fr.drew B b _)).trans b2
     case measure=>simp[intOf];omega)
  ·go_wp2
   go_end0
   have e:ns.take k=ns:=List.take_of_length_le (by omega)
   rw[e]at hP
   exact⟨rfl,hP,hb⟩
end Go.AM.Ky

namespace Go.AM.Ky
open Go.Proofs Go.Shelf Go.RowKit Go.AM.Fd
abbrev sB(l:List UInt8):ByteArray:=⟨l.toArray⟩
def At(w:World)(B:Nat)(ad:Option Addr)(i esz:Nat)(vs:List Value):Prop:=∃a o,ad=some ⟨a,o,none⟩∧a<B∧∀j v,vs[j]? =some v→w.cell? ⟨a,o+i*esz+j,none⟩=some v
theorem At.mono{w w':World}{B:Nat}{ad:Option Addr}{i esz:Nat}{vs:List Value}(h:At w B ad i esz vs)(b:Below B w w'):At w' B ad i esz vs:=by
 obtain⟨a,o,h1,h2,h3⟩:=h
 exact⟨a,o,h1,h2,fun j v hj=>Row1c (h3 j v hj) h2 b⟩
def CI(w:World)(B:Nat)(v:Value)(l:List Int):Prop:=∃ad c,v=.slice ad l.length c∧l.length≤c∧∀i x,l[i]? =some x→At w B ad i 1 [.int .i64 x]
def CN(w:World)(B:Nat)(v:Value)(l:List (Int×Bool)):Prop:=∃ad c,v=.slice ad l.length c∧l.length≤c∧∀i x,l[i]? =some x→At w B ad i 2 [.int .i64 x.1,.bool x.2]
theorem CI.mono{w w':World}{B:Nat}{v:Value}{l:List Int}(h:CI w B v l)(b:Below B w w'):CI w' B v l:=by
 obtain⟨ad,c,h1,h2,h3⟩:=h;exact⟨ad,c,h1,h2,fun i x hx=>(h3 i x hx).mono b⟩
theorem CN.mono{w w':World}{B:Nat}{v:Value}{l:List (Int×Bool)}(h:CN w B v l)(b:Below B w w'):CN w' B v l:=by
 obtain⟨ad,c,h1,h2,h3⟩:=h;exact⟨ad,c,h1,h2,fun i x hx=>(h3 i x hx).mono b⟩
structure CL (w:World) (B:Nat) (L:Ly) (sad pad gad rad:Option Addr) (sc pc gc rc:Nat):Prop where
 sn:L.s.length≤sc
 s:∀i x,L.s[i]? =some x→At w B sad i 1 [.string (sB x)]
 pn:L.p.length≤pc
 p:∀i x,L.p[i]? =some x→At w B pad i 2 [.string (sB x.1),.int .i64 x.2]
 gn:L.g.length≤gc
 g:∀i x,L.g[i]? =some x→At w B gad i 2 [.string (sB x.1),.int .i64 x.2]
 rn:L.r.length≤rc
 r:∀i x,L.r[i]? =some x→∃vp vq vo vf,At w B rad i 6 [.string (sB x.n),.int .i64 x.g,vp,vq,vo,vf]∧CI w B vp x.path∧CN w B vq x.pts∧CI w B vo x.ov∧CN w B vf x.fl
theorem CL.mono{w w':World}{B:Nat}{L:Ly}{sad pad gad rad:Option Addr}{sc pc gc rc:Nat}(h:CL w B L sad pad gad rad sc pc gc rc)(b:Below B w w'):CL w' B L sad pad gad rad sc pc gc rc:=
 ⟨h.sn,fun i x hx=>(h.s i x hx).mono b,h.pn,fun i x hx=>(h.p i x hx).mono b,h.gn,fun i x hx=>(h.g i x hx).mono b,h.rn,fun i x hx=>by
  obtain⟨vp,vq,vo,vf,h1,h2,h3,h4,h5⟩:=h.r i x hx
  exact⟨vp,vq,vo,vf,h1.mono b,h2.mono b,h3.mono b,h4.mono b,h5.mono b⟩⟩
def secW:List UInt8:=[115,101,99,116,105,111,110]
def ptW:List UInt8:=[112,111,105,110,116]
def sgW:List UInt8:=[115,105,103,110,97,108]
def rtW:List UInt8:=[114,111,117,116,101]
def txS(l:List (List UInt8)):List UInt8:=l.flatMap fun x=>secW++32::x++[10]
def nmAt(l:List (List UInt8))(i:Int):List UInt8:=l.getD i.toNat []
def txP(W:List UInt8)(s:List (List UInt8))(l:List (List UInt8×Int)):List UInt8:=l.flatMap fun x=>W++32::x.1++32::nmAt s x.2++[10]
def txI(s:List (List UInt8))(l:List Int):List UInt8:=[32,58]++l.flatMap fun x=>32::nmAt s x
def txN(p:List (List UInt8×Int))(l:List (Int×Bool)):List UInt8:=[32,58]++l.flatMap fun x=>32::(nmAt (p.map (·.1)) x.1++[if x.2 then 45 else 43])
def tx1(L:Ly)(x:Ro):List UInt8:=rtW++32::x.n++32::nmAt (L.g.map (·.1)) x.g++txI L.s x.path++txN L.p x.pts++txI L.s x.ov++txN L.p x.fl++[10]
def txR(L:Ly)(l:List Ro):List UInt8:=l.flatMap (tx1 L)
def printT(L:Ly):List UInt8:=txS L.s++txP ptW L.s L.p++txP sgW L.s L.g++txR L L.r
theorem flatMap_take{α:Type}(f:α→List UInt8){l:List α}{k:Nat}{x:α}(h:l[k]? =some x):(l.take (k+1)).flatMap f=(l.take k).flatMap f++f x:=by
 rw[List.take_add_one,h]
 simp
theorem flatMap_le{α:Type}(f:α→List UInt8)(l:List α)(k:Nat):((l.take k).flatMap f).length≤(l.flatMap f).length:=by
 have e:l.flatMap f=(l.take k).flatMap f++(l.drop k).flatMap f:=by rw[←List.flatMap_append,List.take_append_drop]
 rw[e,List.length_append];omega
end Go.AM.Ky

namespace Go.AM.Ky
open Go.Proofs Go.Shelf Go.RowKit Go.AM.Fd
theorem secs_L(hJ:JoinC){R:Nat→Option Value}{B b:Nat}{bs:List UInt8}{L:Ly}{sad pad gad rad:Option Addr}{sc pc gc rc:Nat}{w:World}{v:Value}{l:List Int}(hC:CL w B L sad pad gad rad sc pc gc rc)(hP:PB R B b bs w)(hBw:B≤w.heap.size)
 (hv:CI w B v l) (hl:l.length≤1000∧∀y∈l,0≤y∧y<L.s.length) (hs:L.s.length≤1000) (hR:R 3=some (.slice sad L.s.length sc)) (hlim:bs.length+(txI L.s l).length≤140737488355328):
 Calls Tryz.prog 32 #[.pointer (some ⟨b,0,none⟩),v] w fun e w'=>e=.returned (.tuple #[])∧PB R B b (bs++txI L.s l) w'∧Fr B b w w':=by
 obtain⟨ad,c,rfl,hc,hrow⟩:=hv
 have ht:secT (fun x=>sB (L.s.getD x [])) (l.map Int.toNat)=l.flatMap fun x=>32::nmAt L.s x:=by
  unfold secT
  rw[List.flatMap_map]
  rfl
 have hm:(l.map Int.toNat).map (fun(x:Nat)=>Value.int .i64 x)=l.map (Value.int .i64):=by
  rw[List.map_map]
  refine List.map_congr_left fun y hy=>?_
  have:=(hl.2 y hy).1
  simp only[Function.comp]
  congr 1
  omega
 unfold txI at hlim ⊢
 rw[←List.append_assoc,←ht]
 rw[←ht,List.length_append]at hlim
 refine(sections_c hJ R B b bs ad sad l.length c L.s.length sc (l.map Int.toNat) (fun x=>sB (L.s.getD x [])) w hP hBw (by simp) hc ?_ hR hC.sn ?_ ?_ ⟨hl.1,hs⟩ (by simpa[Nat.add_assoc]using hlim))
 ·rw[hm]
  intro k x hx
  simp only[List.getElem?_map,Option.map_eq_some_iff]at hx
  obtain⟨y,hy,rfl⟩:=hx
  obtain⟨a,o,h1,h2,h3⟩:=hrow k y hy
  exact⟨a,o,h1,h2,by simpa using h3 0 _ rfl⟩
 ·intro x hx
  have hx':L.s[x]? =some (L.s.getD x []):=by simp[List.getD,List.getElem?_eq_getElem hx]
  obtain⟨a,o,h1,h2,h3⟩:=hC.s x _ hx'
  exact⟨a,o,h1,h2,by simpa using h3 0 _ rfl⟩
 ·intro x hx
  simp only[List.mem_map]at hx
  obtain⟨y,hy,rfl⟩:=hx
  have:=hl.2 y hy
  omega
theorem needs_L(hJ:JoinC){R:Nat→Option Value}{B b:Nat}{bs:List UInt8}{L:Ly}{sad pad gad rad:Option Addr}{sc pc gc rc:Nat}{w:World}{v:Value}{l:List (Int×Bool)}(hC:CL w B L sad pad gad rad sc pc gc rc)(hP:PB R B b bs w)(hBw:B≤w.heap.size)
 (hv:CN w B v l) (hl:l.length≤1000∧∀y∈l,0≤y.1∧y.1<L.p.length) (hs:L.p.length≤1000) (hR:R 4=some (.slice pad L.p.length pc)) (hlim:bs.length+(txN L.p l).length≤140737488355328):
 Calls Tryz.prog 33 #[.pointer (some ⟨b,0,none⟩),v] w fun e w'=>e=.returned (.tuple #[])∧PB R B b (bs++txN L.p l) w'∧Fr B b w w':=by
 obtain⟨ad,c,rfl,hc,hrow⟩:=hv
 have ht:needT (fun x=>sB ((L.p.getD x ([],0)).1)) (l.map fun y=>(y.1.toNat,y.2))=l.flatMap fun x=>32::(nmAt (L.p.map (·.1)) x.1++[if x.2 then 45 else 43]):=by
  unfold needT
  rw[List.flatMap_map]
  congr 1
  funext y
  have e:nmAt (L.p.map (·.1)) y.1=(L.p.getD y.1.toNat ([],0)).1 :=by
   simp only[nmAt,List.getD,List.getElem?_map]
   cases L.p[y.1.toNat]? <;>rfl
  simp only[needW,e]
 unfold txN at hlim ⊢
 rw[←List.append_assoc,←ht]
 rw[←ht,List.length_append]at hlim
 refine(needs_c hJ R B b bs ad pad l.length c L.p.length pc (l.map fun y=>(y.1.toNat,y.2)) (fun x=>sB ((L.p.getD x ([],0)).1)) w hP hBw (by simp) hc ?_ hR hC.pn ?_ ?_ ⟨hl.1,hs⟩ (by simpa[Nat.add_assoc]using hlim))
 ·intro k x hx
  simp only[List.getElem?_map,Option.map_eq_some_iff]at hx
  obtain⟨y,hy,rfl⟩:=hx
  obtain⟨a,o,h1,h2,h3⟩:=hrow k y hy
  have hy0:=(hl.2 y (List.mem_of_getElem? hy)).1
  refine⟨a,o,h1,h2,?_,h3 1 _ rfl⟩
  have:=h3 0 _ rfl
  simp only[Nat.add_zero]at this
  rw[this]
  congr 2
  show y.1=(y.1.toNat:Int)
  omega
 ·intro x hx
  have hx':L.p[x]? =some (L.p.getD x ([],0)):=by simp[List.getD,List.getElem?_eq_getElem hx]
  obtain⟨a,o,h1,h2,h3⟩:=hC.p x _ hx'
  exact⟨a,o,h1,h2,by simpa using h3 0 _ rfl⟩
 ·intro x hx
  simp only[List.mem_map]at hx
  obtain⟨y,hy,rfl⟩:=hx
  have:=hl.2 y hy
  simp only
  omega
end Go.AM.Ky

set_option maxRecDepth 100000
namespace Go.AM.Ky
open Go.Proofs Go.Shelf Go.RowKit
theorem lay181:LaysM.n181 Tryz.prog ren:={
 mixed:=by kernel_rfl,
 f181:=by kernel_rfl,
 t0:=by kernel_rfl,
 a0:=fun _=>by kernel_rfl,
 z0:=fun _=>by kernel_rfl,
 v0:=fun _=>by kernel_rfl,
 t3:=by kernel_rfl,
 a3:=fun _=>by kernel_rfl,
 z3:=fun _=>by kernel_rfl,
 v3:=fun _=>by kernel_rfl,
 t37:=by kernel_rfl,
 a37:=fun _=>by kernel_rfl,
 z37:=fun _=>by kernel_rfl,
 v37:=fun _=>by kernel_rfl,
 t93:=by kernel_rfl,
 a93:=fun _=>by kernel_rfl,
 z93:=fun _=>by kernel_rfl,
 v93:=fun _=>by kernel_rfl,
 t130:=by kernel_rfl,
 a130:=fun _=>by kernel_rfl,
 z130:=fun _=>by kernel_rfl,
 v130:=fun _=>by kernel_rfl,
 t5:=by kernel_rfl,
 a5:=fun _=>by kernel_rfl,
 z5:=fun _=>by kernel_rfl,
 v5:=fun _=>by kernel_rfl,
 t91:=by kernel_rfl,
 a91:=fun _=>by kernel_rfl,
 z91:=fun _=>by kernel_rfl,
 v91:=fun _=>by kernel_rfl,
 i0:=by kernel_rfl,
 i3:=by kernel_rfl,
 i5:=by kernel_rfl,
 i37:=by kernel_rfl,
 i91:=by kernel_rfl,
 i93:=by kernel_rfl,
 i130:=by kernel_rfl}
theorem lay182:LaysM.n182 Tryz.prog ren:={
 mixed:=by kernel_rfl,
 f182:=by kernel_rfl,
 t0:=by kernel_rfl,
 a0:=fun _=>by kernel_rfl,
 z0:=fun _=>by kernel_rfl,
 v0:=fun _=>by kernel_rfl,
 t3:=by kernel_rfl,
 a3:=fun _=>by kernel_rfl,
 z3:=fun _=>by kernel_rfl,
 v3:=fun _=>by kernel_rfl,
 t4:=by kernel_rfl,
 a4:=fun _=>by kernel_rfl,
 z4:=fun _=>by kernel_rfl,
 v4:=fun _=>by kernel_rfl,
 t9:=by kernel_rfl,
 a9:=fun _=>by kernel_rfl,
 z9:=fun _=>by kernel_rfl,
 v9:=fun _=>by kernel_rfl,
 t37:=by kernel_rfl,
 a37:=fun _=>by kernel_rfl,
 z37:=fun _=>by kernel_rfl,
 v37:=fun _=>by kernel_rfl,
 t93:=by kernel_rfl,
 a93:=fun _=>by kernel_rfl,
 z93:=fun _=>by kernel_rfl,
 v93:=fun _=>by kernel_rfl,
 t130:=by kernel_rfl,
 a130:=fun _=>by kernel_rfl,
 z130:=fun _=>by kernel_rfl,
 v130:=fun _=>by kernel_rfl,
 t5:=by kernel_rfl,
 a5:=fun _=>by kernel_rfl,
 z5:=fun _=>by kernel_rfl,
 v5:=fun _=>by kernel_rfl,
 t91:=by kernel_rfl,
 a91:=fun _=>by kernel_rfl,
 z91:=fun _=>by kernel_rfl,
 v91:=fun _=>by kernel_rfl,
 i0:=by kernel_rfl,
 i3:=by kernel_rfl,
 i4:=by kernel_rfl,
 i5:=by kernel_rfl,
 i9:=by kernel_rfl,
 i37:=by kernel_rfl,
 i91:=by kernel_rfl,
 i93:=by kernel_rfl,
 i130:=by kernel_rfl}
theorem lay156:Lays.n156 Tryz.prog ren:={
 mixed:=by kernel_rfl,
 f156:=by kernel_rfl,
 f165:=by kernel_rfl,
 f166:=by kernel_rfl,
 f169:=by kernel_rfl,
 f240:=by kernel_rfl,
 f241:=by kernel_rfl,
 f276:=by kernel_rfl,
 f277:=by kernel_rfl,
 t0:=by kernel_rfl,
 a0:=fun _=>by kernel_rfl,
 z0:=fun _=>by kernel_rfl,
 v0:=fun _=>by kernel_rfl,
 t3:=by kernel_rfl,
 a3:=fun _=>by kernel_rfl,
 z3:=fun _=>by kernel_rfl,
 v3:=fun _=>by kernel_rfl,
 t4:=by kernel_rfl,
 a4:=fun _=>by kernel_rfl,
 z4:=fun _=>by kernel_rfl,
 v4:=fun _=>by kernel_rfl,
 t9:=by kernel_rfl,
 a9:=fun _=>by kernel_rfl,
 z9:=fun _=>by kernel_rfl,
 v9:=fun _=>by kernel_rfl,
 t20:=by kernel_rfl,
 a20:=fun _=>by kernel_rfl,
 z20:=fun _=>by kernel_rfl,
 v20:=fun _=>by kernel_rfl,
 t31:=by kernel_rfl,
 a31:=fun _=>by kernel_rfl,
 z31:=fun _=>by kernel_rfl,
 v31:=fun _=>by kernel_rfl,
 t37:=by kernel_rfl,
 a37:=fun _=>by kernel_rfl,
 z37:=fun _=>by kernel_rfl,
 v37:=fun _=>by kernel_rfl,
 t70:=by kernel_rfl,
 a70:=fun _=>by kernel_rfl,
 z70:=fun _=>by kernel_rfl,
 v70:=fun _=>by kernel_rfl,
 t72:=by kernel_rfl,
 a72:=fun _=>by kernel_rfl,
 z72:=fun _=>by kernel_rfl,
 v72:=fun _=>by kernel_rfl,
 t75:=by kernel_rfl,
 a75:=fun _=>by kernel_rfl,
 z75:=fun _=>by kernel_rfl,
 v75:=fun _=>by kernel_rfl,
 t76:=by kernel_rfl,
 a76:=fun _=>by kernel_rfl,
 z76:=fun _=>by kernel_rfl,
 v76:=fun _=>by kernel_rfl,
 t127:=by kernel_rfl,
 a127:=fun _=>by kernel_rfl,
 z127:=fun _=>by kernel_rfl,
 v127:=fun _=>by kernel_rfl,
 t164:=by kernel_rfl,
 a164:=fun _=>by kernel_rfl,
 z164:=fun _=>by kernel_rfl,
 v164:=fun _=>by kernel_rfl}
theorem bx156:Builder.Extra Tryz.prog ren:={
 sizeBuilder:=by kernel_rfl,
 liesBuilder:=by kernel_rfl,
 t5:=by kernel_rfl,
 a5:=fun _=>by kernel_rfl,
 z5:=fun _=>by kernel_rfl,
 v5:=fun _=>by kernel_rfl,
 infoByte:=by kernel_rfl,
 cellsByte:=by kernel_rfl,
 sizeByte:=by kernel_rfl,
 neB5:=by decide}
theorem len_c{R:Nat→Option Value}{B b:Nat}{bs:List UInt8}{w:World}(h:PB R B b bs w):Calls Tryz.prog 35 #[.pointer (some ⟨b,0,none⟩)] w fun e w'=>e=.returned (.int .i64 bs.length)∧∃n,w'=w.drewN n:=by
 have:=Any.Buffer_Len_at lay181 70 R B b 0 (Lib.byteCells bs) w h
 rw[Lib.byteCells_length]at this
 exact this
theorem str_c{R:Nat→Option Value}{B b:Nat}{bs:List UInt8}{w:World}(h:PB R B b bs w):Calls Tryz.prog 36 #[.pointer (some ⟨b,0,none⟩)] w fun e w'=>e=.returned (.string ⟨bs.toArray⟩)∧∃n,w'=w.drewN n:=
 Any.Buffer_String_at lay182 70 R B b 0 bs w h
theorem join_c(bk o c:Nat)(xs:List ByteArray)(sep:ByteArray)(w:World)
 (hcells:∀(j:Nat) x,xs[j]? =some x→w.cell? ⟨bk,o+j,none⟩=some (.string x))
 (hbk:bk<w.heap.size) (hN:xs.length≤140737488355328) (hcap:xs.length≤c)
 (hlen:(Lib.join (xs.map (·.data.toList)) sep.data.toList).length≤140737488355328):
 Calls Tryz.prog 58 #[.slice (some ⟨bk,o,none⟩) xs.length c,.string sep] w fun e w'=>e=.returned (.string ⟨(Lib.join (xs.map (·.data.toList)) sep.data.toList).toArray⟩)∧Below w.heap.size w w':=
 Any.strings_Join lay156 bx156 bk o c xs sep w hcells hbk hN hcap hlen
end Go.AM.Ky

namespace Go.AM.Ky
open Go.Proofs Go.Shelf Go.RowKit Go.AM.Fd
structure LyOK (L:Ly):Prop where
 s:L.s.length≤1000
 p:L.p.length≤1000∧∀x∈L.p,0≤x.2∧x.2<L.s.length
 g:L.g.length≤1000∧∀x∈L.g,0≤x.2∧x.2<L.s.length
 r:L.r.length≤1000∧∀x∈L.r,(0≤x.g∧x.g<L.g.length)∧(x.path.length≤1000∧∀y∈x.path,0≤y∧y<L.s.length)∧(x.pts.length≤1000∧∀y∈x.pts,0≤y.1∧y.1<L.p.length)∧
  (x.ov.length≤1000∧∀y∈x.ov,0≤y∧y<L.s.length)∧(x.fl.length≤1000∧∀y∈x.fl,0≤y.1∧y.1<L.p.length)
 t:(printT L).length≤140737488355328
def pR(s p g r:Value)(i:Nat):Option Value:=(#[.slice none 0 0,.int .i64 0,.int .i8 0,s,p,g,r]:Array Value)[i]?
theorem At.up{w:World}{B B':Nat}{ad:Option Addr}{i esz:Nat}{vs:List Value}(h:At w B ad i esz vs)(hb:B≤B'):At w B' ad i esz vs:=by
 obtain⟨a,o,h1,h2,h3⟩:=h;exact⟨a,o,h1,by omega,h3⟩
theorem CI.up{w:World}{B B':Nat}{v:Value}{l:List Int}(h:CI w B v l)(hb:B≤B'):CI w B' v l:=by
 obtain⟨ad,c,h1,h2,h3⟩:=h;exact⟨ad,c,h1,h2,fun i x hx=>(h3 i x hx).up hb⟩
theorem CN.up{w:World}{B B':Nat}{v:Value}{l:List (Int×Bool)}(h:CN w B v l)(hb:B≤B'):CN w B' v l:=by
 obtain⟨ad,c,h1,h2,h3⟩:=h;exact⟨ad,c,h1,h2,fun i x hx=>(h3 i x hx).up hb⟩
theorem CL.up{w:World}{B B':Nat}{L:Ly}{sad pad gad rad:Option Addr}{sc pc gc rc:Nat}(h:CL w B L sad pad gad rad sc pc gc rc)(hb:B≤B'):CL w B' L sad pad gad rad sc pc gc rc:=
 ⟨h.sn,fun i x hx=>(h.s i x hx).up hb,h.pn,fun i x hx=>(h.p i x hx).up hb,h.gn,fun i x hx=>(h.g i x hx).up hb,h.rn,fun i x hx=>by
  obtain⟨vp,vq,vo,vf,h1,h2,h3,h4,h5⟩:=h.r i x hx
  exact⟨vp,vq,vo,vf,h1.up hb,h2.up hb,h3.up hb,h4.up hb,h5.up hb⟩⟩
theorem join2(a b:ByteArray):Lib.join ([a,b].map (·.data.toList)) [32]=a.data.toList++32::b.data.toList:=by simp[Lib.join,List.intercalate]
theorem join3(a b c:ByteArray):Lib.join ([a,b,c].map (·.data.toList)) [32]=a.data.toList++32::(b.data.toList++32::c.data.toList):=by simp[Lib.join,List.intercalate]
theorem words_at(hJ:JoinC)(R:Nat→Option Value)(B b:Nat)(bs:List UInt8)(xs:List ByteArray)(W:World)(h:PB R B b bs W)(hBw:B≤W.heap.size)(hn:xs.length≤10)
 (hlim:bs.length+(Lib.join (xs.map (·.data.toList)) [32]).length≤140737488355328):
 Calls Tryz.prog 31 #[.pointer (some ⟨b,0,none⟩),.slice (some ⟨W.heap.size,0,none⟩) xs.length xs.length] (W.alloc (.cells (xs.map Value.string).toArray 9)) fun e w'=>e=.returned (.tuple #[])∧PB R B b (bs++Lib.join (xs.map (·.data.toList)) [32]) w'∧Fr B b W w':=by
 refine(words_c hJ R B b bs W.heap.size xs.length xs _ (LibA.IsBuffer.alloc h _) (by rw[alloc_sz];omega) (alloc_row W xs 9) (by rw[alloc_sz];omega) (Nat.le_refl _) hn hlim).mono ?_
 rintro e w' ⟨rfl,h1,h2⟩
 exact⟨rfl,h1,(Fr.al hBw _).trans h2⟩
theorem words_atd(hJ:JoinC)(R:Nat→Option Value)(B b:Nat)(bs:List UInt8)(xs:List ByteArray)(W:World)(h:PB R B b bs W)(hBw:B≤W.heap.size)(hn:xs.length≤10)
 (hlim:bs.length+(Lib.join (xs.map (·.data.toList)) [32]).length≤140737488355328):
 Calls Tryz.prog 31 #[.pointer (some ⟨b,0,none⟩),.slice (some ⟨W.heap.size,0,none⟩) xs.length xs.length] (W.alloc (.cells (xs.map Value.string).toArray 9)).drew fun e w'=>e=.returned (.tuple #[])∧PB R B b (bs++Lib.join (xs.map (·.data.toList)) [32]) w'∧Fr B b W w':=by
 refine(words_c hJ R B b bs W.heap.size xs.length xs (W.alloc (.cells (xs.map Value.string).toArray 9)).drew (LibA.IsBuffer.alloc h _) (by show B≤(W.alloc _).heap.size;rw[alloc_sz];omega) (alloc_row W xs 9) (by show _<(W.alloc _).heap.size;rw[alloc_sz];omega) (Nat.le_refl _) hn hlim).mono ?_
 rintro e w' ⟨rfl,h1,h2⟩
 exact⟨rfl,h1,((Fr.al hBw _).trans (Fr.drew B b _)).trans h2⟩
theorem box4{w W:World}{a b c d:Value}{e:TypeId}(h:Below (w.alloc (.cells #[a,b,c,d] e)).heap.size (w.alloc (.cells #[a,b,c,d] e)) W):
 W.cell? ⟨w.heap.size,0,none⟩=some a∧W.cell? ⟨w.heap.size,1,none⟩=some b∧W.cell? ⟨w.heap.size,2,none⟩=some c∧W.cell? ⟨w.heap.size,3,none⟩=some d:=by
 have hlt:w.heap.size<(w.alloc (.cells #[a,b,c,d] e)).heap.size:=by rw[alloc_sz];omega
 exact⟨Row1c (alloc_new w [a,b,c,d] e 0 rfl) hlt h,Row1c (alloc_new w [a,b,c,d] e 1 rfl) hlt h,Row1c (alloc_new w [a,b,c,d] e 2 rfl) hlt h,Row1c (alloc_new w [a,b,c,d] e 3 rfl) hlt h⟩
set_option maxHeartbeats 25600000 in
set_option maxRecDepth 100000 in
theorem print_c(hJ:JoinC)(L:Ly)(sad pad gad rad:Option Addr)(sc pc gc rc:Nat)(w:World)(h:CL w w.heap.size L sad pad gad rad sc pc gc rc)(m:Bool)
 (hMay:∀W,Below w.heap.size w W→Calls Tryz.prog 18 #[.agg #[.slice sad L.s.length sc,.slice pad L.p.length pc,.slice gad L.g.length gc,.slice rad L.r.length rc]] W fun e W'=>e=.returned (.bool m)∧Below W.heap.size W W')
 (hok:m=true→LyOK L):
 Calls Tryz.prog 17 #[.agg #[.slice sad L.s.length sc,.slice pad L.p.length pc,.slice gad L.g.length gc,.slice rad L.r.length rc]] w fun e w'=>
  e=.returned (if m then(if(printT L).length≤16384 then .tuple #[.string (sB (printT L)),.int .i64 0]else .tuple #[.string (sB []),.int .i64 3])else .tuple #[.string (sB []),.int .i64 2])∧Below w.heap.size w w':=by
 have mixed:=lay178.mixed
 have hb0:Below w.heap.size w (w.alloc (.cells #[.slice sad L.s.length sc,.slice pad L.p.length pc,.slice gad L.g.length gc,.slice rad L.r.length rc] 30)):=(Below.refl _ w).alloc (Nat.le_refl _) _
 have hM:=hMay _ hb0
 cases m
 ·go_enter Tryz.func17,Tryz.ntmps17
  go_wp2_with (go_at_call 18;refine hM.mono ?_;rintro e W1 ⟨rfl,b1⟩;obtain⟨l0,l1,l2,l3⟩:=box4 b1)
  go_ret2
  exact⟨by simp,hb0.trans (b1.mono (by rw[alloc_sz];omega))⟩
 ·have ok:=hok rfl
  have hSn:=ok.s
  have hPn:=ok.p.1
  have hGn:=ok.g.1
  have hRn:=ok.r.1
  go_enter Tryz.func17,Tryz.ntmps17
  go_wp2_with (go_at_call 18;refine hM.mono ?_;rintro e W1 ⟨rfl,b1⟩;obtain⟨l0,l1,l2,l3⟩:=box4 b1;have m0:=fun o=>alloc_cell (w:=W1) (a:=⟨w.heap.size,0,none⟩) o l0)
  have hbw:Below w.heap.size w W1:=hb0.trans (b1.mono (by rw[alloc_sz];omega))
  have hC:=(h.mono hbw).up hbw.size
  have hP0:PB (pR (.slice sad L.s.length sc) (.slice pad L.p.length pc) (.slice gad L.g.length gc) (.slice rad L.r.length rc)) W1.heap.size W1.heap.size []
   (W1.alloc (.cells #[.slice none 0 0,.int .i64 0,.int .i8 0,.slice sad L.s.length sc,.slice pad L.p.length pc,.slice gad L.g.length gc,.slice rad L.r.length rc] 70)):=
   LibA.zero_isBuffer (Nat.le_refl _) (lr:=0) ⟨_,by show(W1.heap.push _)[W1.heap.size]? =_;simp,rfl,rfl,rfl,fun i hi=>rfl⟩
  have hB0:Fr W1.heap.size W1.heap.size W1 (W1.alloc (.cells #[.slice none 0 0,.int .i64 0,.int .i8 0,.slice sad L.s.length sc,.slice pad L.p.length pc,.slice gad L.g.length gc,.slice rad L.r.length rc] 70)):=Fr.al (Nat.le_refl _) _
  have hR3:(pR (.slice sad L.s.length sc) (.slice pad L.p.length pc) (.slice gad L.g.length gc) (.slice rad L.r.length rc)) 3=some (.slice sad L.s.length sc):=rfl
  have hR4:(pR (.slice sad L.s.length sc) (.slice pad L.p.length pc) (.slice gad L.g.length gc) (.slice rad L.r.length rc)) 4=some (.slice pad L.p.length pc):=rfl
  generalize(pR (.slice sad L.s.length sc) (.slice pad L.p.length pc) (.slice gad L.g.length gc) (.slice rad L.r.length rc))=R at hP0 hR3 hR4
  have hltw:w.heap.size<W1.heap.size:=by have:=b1.size;rw[alloc_sz]at this;omega
  clear m0 hM hMay b1 hb0
  go_loopw [22] (fun i wr=>∃k:Nat,k≤L.s.length∧i=.int .i64 k∧PB R W1.heap.size W1.heap.size (txS (L.s.take k)) wr∧Fr W1.heap.size W1.heap.size W1 wr) (fun i _=>L.s.length-(intOf i).toNat)
  case atStart=>exact⟨0,Nat.zero_le _,rfl,by simpa[txS]using hP0,hB0⟩
  case round=>
   obtain⟨k,hkn,rfl,hP,hb⟩:=hrel
   clear hP0 hB0
   have hl0:=Row1c l0 hltw hb.1
   have hl1:=Row1c l1 hltw hb.1
   have hl2:=Row1c l2 hltw hb.1
   have hl3:=Row1c l3 hltw hb.1
   by_cases hk:k<L.s.length
   ·obtain⟨x,hx⟩:∃x,L.s[k]? =some x:=⟨_,List.getElem?_eq_getElem hk⟩
    obtain⟨a,o,rfl,ha,hcell⟩:=(hC.s k x hx).mono hb.1
    have hc:=hcell 0 _ rfl
    simp only[Nat.mul_one,Nat.add_zero]at hc
    have hwB:W1.heap.size≤wr.heap.size:=hb.size
    have hT:txS (L.s.take (k+1))=txS (L.s.take k)++(secW++32::x++[10]):=flatMap_take _ hx
    have hTl:(txS (L.s.take (k+1))).length≤(printT L).length:=by
     refine Nat.le_trans (flatMap_le _ L.s (k+1)) ?_
     unfold printT txS
     simp only[List.length_append];omega
    rw[hT]at hTl
    have hpl:=ok.t
    obtain⟨m,hm⟩:∃m,m=sB x:=⟨_,rfl⟩
    have hmx:m.data.toList=x:=by rw[hm]
    rw[←hm]at hc
    have hms:m.size≤140737488355328:=by rw[Lib.size_eq,hmx];simp only[List.length_append,List.length_cons]at hTl;omega
    have hs1:¬9223372036854775807<m.size+1:=by omega
    have hj:=join2 ⟨#[115,101,99,116,105,111,110]⟩ (m++(⟨#[10]⟩:ByteArray))
    have hj2:Lib.join ([⟨#[115,101,99,116,105,111,110]⟩,m++(⟨#[10]⟩:ByteArray)].map (·.data.toList)) [32]=secW++32::x++[10]:=by rw[hj,←hmx];simp[secW]
    have hW:=words_at hJ R W1.heap.size W1.heap.size _ [⟨#[115,101,99,116,105,111,110]⟩,m++(⟨#[10]⟩:ByteArray)] wr hP hwB (by show 2≤10;omega) (by rw[hj2];rw[List.length_append]at hTl;omega)
    clear hm hcell hl0 hl1 hl2 hl3 hj
    go_wp2_with (go_at_call 31
                 refine hW.mono ?_
                 rintro e w2 ⟨rfl,h2,b2⟩)
    go_wp2
    go_roundw
    case rel=>
     refine⟨k+1,by omega,by simp,?_,hb.trans b2⟩
     rw[hT];rw[hj2]at h2;exact h2
    case measure=>simp[intOf];omega
   ·have e:L.s.take k=L.s:=List.take_of_length_le (by omega)
    rw[e]at hP
    go_wp2
    clear hk hkn
    go_loopw [35] (fun i wr=>∃k:Nat,k≤L.p.length∧i=.int .i64 k∧PB R W1.heap.size W1.heap.size (txS L.s++txP ptW L.s (L.p.take k)) wr∧Fr W1.heap.size W1.heap.size W1 wr) (fun i _=>L.p.length-(intOf i).toNat)
    case atStart=>exact⟨0,Nat.zero_le _,rfl,by simpa[txP]using hP,hb⟩
    case round=>
     clear hP hb hl0 hl1 hl2 hl3
     obtain⟨k,hkn,rfl,hP,hb⟩:=hrel
     have hl0:=Row1c l0 hltw hb.1
     have hl1:=Row1c l1 hltw hb.1
     have hl2:=Row1c l2 hltw hb.1
     have hl3:=Row1c l3 hltw hb.1
     by_cases hk:k<L.p.length
     ·obtain⟨x,hx⟩:∃x,L.p[k]? =some x:=⟨_,List.getElem?_eq_getElem hk⟩
      obtain⟨x1,z⟩:=x
      have hz:=ok.p.2 _ (List.mem_of_getElem? hx)
      simp only at hz
      obtain⟨y,rfl⟩:∃y:Nat,z=y:=⟨z.toNat,by omega⟩
      have hy:y<L.s.length:=by omega
      obtain⟨nm,hnm⟩:∃nm,L.s[y]? =some nm:=⟨_,List.getElem?_eq_getElem hy⟩
      obtain⟨a,o,rfl,ha,hcell⟩:=(hC.p k _ hx).mono hb.1
      obtain⟨a2,o2,rfl,ha2,hcell2⟩:=(hC.s y _ hnm).mono hb.1
      have hc:=hcell 0 _ rfl
      have hcb:=hcell 1 _ rfl
      have hc2:=hcell2 0 _ rfl
      simp only[Nat.mul_one,Nat.add_zero]at hc hcb hc2
      have hwB:W1.heap.size≤wr.heap.size:=hb.size
      have hT:txP ptW L.s (L.p.take (k+1))=txP ptW L.s (L.p.take k)++(ptW++32::x1++32::nm++[10]):=by
       have:=flatMap_take (fun x:List UInt8×Int=>ptW++32::x.1++32::nmAt L.s x.2++[10]) hx
       have e2:nmAt L.s (y:Int)=nm:=by simp[nmAt,List.getD,hnm]
       simpa[txP,e2]using this
      have hTl:(txS L.s++txP ptW L.s (L.p.take (k+1))).length≤(printT L).length:=by
       have:=flatMap_le (fun x:List UInt8×Int=>ptW++32::x.1++32::nmAt L.s x.2++[10]) L.p (k+1)
       unfold printT txP
       simp only[List.length_append]at this ⊢
       omega
      rw[hT,←List.append_assoc]at hTl
      have hpl:=ok.t
      obtain⟨m,hm⟩:∃m,m=sB x1:=⟨_,rfl⟩
      obtain⟨m2,hm2⟩:∃m2,m2=sB nm:=⟨_,rfl⟩
      have hmx:m.data.toList=x1:=by rw[hm]
      have hmx2:m2.data.toList=nm:=by rw[hm2]
      rw[←hm]at hc
      rw[←hm2]at hc2
      have hms:m2.size≤140737488355328:=by rw[Lib.size_eq,hmx2];simp only[List.length_append,List.length_cons]at hTl;omega
      have hs1:¬9223372036854775807<m2.size+1:=by omega
      have hj2:Lib.join ([⟨#[112,111,105,110,116]⟩,m,m2++(⟨#[10]⟩:ByteArray)].map (·.data.toList)) [32]=ptW++32::x1++32::nm++[10]:=by rw[join3,←hmx,←hmx2];simp[ptW]
      clear hm hm2 hcell hcell2
      go_wp2
      have q0:=alloc_cell (.cells #[.string m,.int .i64 (y:Nat)] 46) hl0
      have q1:=alloc_cell (.cells #[.string m,.int .i64 (y:Nat)] 46) hc2
      have q2:=alloc_new wr [.string m,.int .i64 (y:Nat)] 46 0 rfl
      have q3:=alloc_new wr [.string m,.int .i64 (y:Nat)] 46 1 rfl
      have hP1:PB R W1.heap.size W1.heap.size _ (wr.alloc (.cells #[.string m,.int .i64 (y:Nat)] 46)):=LibA.IsBuffer.alloc hP _
      have hwB1:W1.heap.size≤(wr.alloc (.cells #[.string m,.int .i64 (y:Nat)] 46)).heap.size:=by rw[alloc_sz];omega
      have hb1:Fr W1.heap.size W1.heap.size W1 (wr.alloc (.cells #[.string m,.int .i64 (y:Nat)] 46)):=hb.trans (Fr.al hwB _)
      have e0:([.string m,.int .i64 (y:Nat)]:List Value).toArray= #[.string m,.int .i64 (y:Nat)]:=rfl
      rw[e0]at q2 q3
      generalize wr.alloc (.cells #[.string m,.int .i64 (y:Nat)] 46)=W at*
      generalize wr.heap.size=N at*
      have hW:=words_atd hJ R W1.heap.size W1.heap.size _ [⟨#[112,111,105,110,116]⟩,m,m2++(⟨#[10]⟩:ByteArray)] W hP1 hwB1 (by show 3≤10;omega) (by rw[hj2];rw[List.length_append]at hTl;omega)
      clear hl0 hl1 hl2 hl3 hc hcb hc2
      go_region_with_o (
       (go_at_call 31
        refine hW.mono ?_
        rintro e w2 ⟨rfl,h2,b2⟩))
      all_goals (
       go_wp2
       go_roundw
       case rel=>
        refine⟨k+1,by omega,by simp,?_,hb1.trans b2⟩
        rw[hT,←List.append_assoc];rw[hj2]at h2;exact h2
       case measure=>simp[intOf];omega)
     ·have e:L.p.take k=L.p:=List.take_of_length_le (by omega)
      rw[e]at hP
      go_wp2
      clear hk hkn
      go_loopw [55] (fun i wr=>∃k:Nat,k≤L.g.length∧i=.int .i64 k∧PB R W1.heap.size W1.heap.size (txS L.s++txP ptW L.s L.p++txP sgW L.s (L.g.take k)) wr∧Fr W1.heap.size W1.heap.size W1 wr) (fun i _=>L.g.length-(intOf i).toNat)
      case atStart=>exact⟨0,Nat.zero_le _,rfl,by simpa[txP]using hP,hb⟩
      case round=>
       clear hP hb hl0 hl1 hl2 hl3
       obtain⟨k,hkn,rfl,hP,hb⟩:=hrel
       have hl0:=Row1c l0 hltw hb.1
       have hl1:=Row1c l1 hltw hb.1
       have hl2:=Row1c l2 hltw hb.1
       have hl3:=Row1c l3 hltw hb.1
       by_cases hk:k<L.g.length
       ·obtain⟨x,hx⟩:∃x,L.g[k]? =some x:=⟨_,List.getElem?_eq_getElem hk⟩
        obtain⟨x1,z⟩:=x
        have hz:=ok.g.2 _ (List.mem_of_getElem? hx)
        simp only at hz
        obtain⟨y,rfl⟩:∃y:Nat,z=y:=⟨z.toNat,by omega⟩
        have hy:y<L.s.length:=by omega
        obtain⟨nm,hnm⟩:∃nm,L.s[y]? =some nm:=⟨_,List.getElem?_eq_getElem hy⟩
        obtain⟨a,o,rfl,ha,hcell⟩:=(hC.g k _ hx).mono hb.1
        obtain⟨a2,o2,rfl,ha2,hcell2⟩:=(hC.s y _ hnm).mono hb.1
        have hc:=hcell 0 _ rfl
        have hcb:=hcell 1 _ rfl
        have hc2:=hcell2 0 _ rfl
        simp only[Nat.mul_one,Nat.add_zero]at hc hcb hc2
        have hwB:W1.heap.size≤wr.heap.size:=hb.size
        have hT:txP sgW L.s (L.g.take (k+1))=txP sgW L.s (L.g.take k)++(sgW++32::x1++32::nm++[10]):=by
         have:=flatMap_take (fun x:List UInt8×Int=>sgW++32::x.1++32::nmAt L.s x.2++[10]) hx
         have e2:nmAt L.s (y:Int)=nm:=by simp[nmAt,List.getD,hnm]
         simpa[txP,e2]using this
        have hTl:(txS L.s++txP ptW L.s L.p++txP sgW L.s (L.g.take (k+1))).length≤(printT L).length:=by
         have:=flatMap_le (fun x:List UInt8×Int=>sgW++32::x.1++32::nmAt L.s x.2++[10]) L.g (k+1)
         unfold printT txP
         simp only[List.length_append]at this ⊢
         omega
        rw[hT,←List.append_assoc]at hTl
        have hpl:=ok.t
        obtain⟨m,hm⟩:∃m,m=sB x1:=⟨_,rfl⟩
        obtain⟨m2,hm2⟩:∃m2,m2=sB nm:=⟨_,rfl⟩
        have hmx:m.data.toList=x1:=by rw[hm]
        have hmx2:m2.data.toList=nm:=by rw[hm2]
        rw[←hm]at hc
        rw[←hm2]at hc2
        have hms:m2.size≤140737488355328:=by rw[Lib.size_eq,hmx2];simp only[List.length_append,List.length_cons]at hTl;omega
        have hs1:¬9223372036854775807<m2.size+1:=by omega
        have hj2:Lib.join ([⟨#[115,105,103,110,97,108]⟩,m,m2++(⟨#[10]⟩:ByteArray)].map (·.data.toList)) [32]=sgW++32::x1++32::nm++[10]:=by rw[join3,←hmx,←hmx2];simp[sgW]
        clear hm hm2 hcell hcell2
        go_wp2
        have q0:=alloc_cell (.cells #[.string m,.int .i64 (y:Nat)] 47) hl0
        have q1:=alloc_cell (.cells #[.string m,.int .i64 (y:Nat)] 47) hc2
        have q2:=alloc_new wr [.string m,.int .i64 (y:Nat)] 47 0 rfl
        have q3:=alloc_new wr [.string m,.int .i64 (y:Nat)] 47 1 rfl
        have hP1:PB R W1.heap.size W1.heap.size _ (wr.alloc (.cells #[.string m,.int .i64 (y:Nat)] 47)):=LibA.IsBuffer.alloc hP _
        have hwB1:W1.heap.size≤(wr.alloc (.cells #[.string m,.int .i64 (y:Nat)] 47)).heap.size:=by rw[alloc_sz];omega
        have hb1:Fr W1.heap.size W1.heap.size W1 (wr.alloc (.cells #[.string m,.int .i64 (y:Nat)] 47)):=hb.trans (Fr.al hwB _)
        have e0:([.string m,.int .i64 (y:Nat)]:List Value).toArray= #[.string m,.int .i64 (y:Nat)]:=rfl
        rw[e0]at q2 q3
        generalize wr.alloc (.cells #[.string m,.int .i64 (y:Nat)] 47)=W at*
        generalize wr.heap.size=N at*
        have hW:=words_atd hJ R W1.heap.size W1.heap.size _ [⟨#[115,105,103,110,97,108]⟩,m,m2++(⟨#[10]⟩:ByteArray)] W hP1 hwB1 (by show 3≤10;omega) (by rw[hj2];rw[List.length_append]at hTl;omega)
        clear hl0 hl1 hl2 hl3 hc hcb hc2
        go_region_with_o (
         (go_at_call 31
          refine hW.mono ?_
          rintro e w2 ⟨rfl,h2,b2⟩))
        all_goals (
         go_wp2
         go_roundw
         case rel=>
          refine⟨k+1,by omega,by simp,?_,hb1.trans b2⟩
          rw[hT,←List.append_assoc];rw[hj2]at h2;exact h2
         case measure=>simp[intOf];omega)
       ·have e:L.g.take k=L.g:=List.take_of_length_le (by omega)
        rw[e]at hP
        go_wp2
        clear hk hkn
        go_loopw [75] (fun i wr=>∃k:Nat,k≤L.r.length∧i=.int .i64 k∧PB R W1.heap.size W1.heap.size (txS L.s++txP ptW L.s L.p++txP sgW L.s L.g++txR L (L.r.take k)) wr∧Fr W1.heap.size W1.heap.size W1 wr) (fun i _=>L.r.length-(intOf i).toNat)
        case atStart=>exact⟨0,Nat.zero_le _,rfl,by simpa[txR]using hP,hb⟩
        case round=>
         clear hP hb hl0 hl1 hl2 hl3
         obtain⟨k,hkn,rfl,hP,hb⟩:=hrel
         have hl2:=Row1c l2 hltw hb.1
         by_cases hk:k<L.r.length
         ·obtain⟨x,hx⟩:∃x,L.r[k]? =some x:=⟨_,List.getElem?_eq_getElem hk⟩
          have hwB:W1.heap.size≤wr.heap.size:=hb.size
          have hT:txR L (L.r.take (k+1))=txR L (L.r.take k)++tx1 L x:=flatMap_take (tx1 L) hx
          have hTl:(txS L.s++txP ptW L.s L.p++txP sgW L.s L.g++txR L (L.r.take (k+1))).length≤(printT L).length:=by
           have:=flatMap_le (tx1 L) L.r (k+1)
           unfold printT txR
           simp only[List.length_append]at this ⊢
           omega
          rw[hT,←List.append_assoc]at hTl
          have hpl:=ok.t
          obtain⟨hzg,hpath,hpts,hov,hfl⟩:=ok.r.2 _ (List.mem_of_getElem? hx)
          obtain⟨vp,vq,vo,vf,hA,hIp,hNq,hIo,hNf⟩:=hC.r k x hx
          obtain⟨a,o,rfl,ha,hcell⟩:=hA.mono hb.1
          obtain⟨x1,z,xp,xq,xo,xf⟩:=x
          simp only at hzg hpath hpts hov hfl hIp hNq hIo hNf hcell
          obtain⟨y,rfl⟩:∃y:Nat,z=y:=⟨z.toNat,by omega⟩
          have hy:y<L.g.length:=by omega
          obtain⟨nm,hnm⟩:∃nm,L.g[y]? =some nm:=⟨_,List.getElem?_eq_getElem hy⟩
          obtain⟨nm,nz⟩:=nm
          obtain⟨a2,o2,rfl,ha2,hcell2⟩:=(hC.g y _ hnm).mono hb.1
          have hc0:=hcell 0 _ rfl
          have hc1:=hcell 1 _ rfl
          have hc2:=hcell 2 _ rfl
          have hc3:=hcell 3 _ rfl
          have hc4:=hcell 4 _ rfl
          have hc5:=hcell 5 _ rfl
          have hd:=hcell2 0 _ rfl
          simp only[Nat.add_zero]at hc0 hd
          have e2:nmAt (L.g.map (·.1)) (y:Int)=nm:=by simp[nmAt,List.getD,hnm]
          simp only[tx1,e2]at hTl hT
          obtain⟨m,hm⟩:∃m,m=sB x1:=⟨_,rfl⟩
          obtain⟨m2,hm2⟩:∃m2,m2=sB nm:=⟨_,rfl⟩
          have hmx:m.data.toList=x1:=by rw[hm]
          have hmx2:m2.data.toList=nm:=by rw[hm2]
          rw[←hm]at hc0
          rw[←hm2]at hd
          have hj2:Lib.join ([⟨#[114,111,117,116,101]⟩,m,m2].map (·.data.toList)) [32]=rtW++32::x1++32::nm:=by rw[join3,←hmx,←hmx2];simp[rtW]
          clear hm hm2 hcell hcell2 e2 hnm
          obtain⟨a5,c5,e5,_⟩:=id hIp
          obtain⟨a6,c6,e6,_⟩:=id hNq
          obtain⟨a7,c7,e7,_⟩:=id hIo
          obtain⟨a8,c8,e8,_⟩:=id hNf
          subst e5 e6 e7 e8
          go_wp2
          have hN0:(wr.alloc (.cells #[.string m,.int .i64 (y:Nat),.slice a5 xp.length c5,.slice a6 xq.length c6,.slice a7 xo.length c7,.slice a8 xf.length c8] 44)).heap[wr.heap.size]? =some (.cells #[.string m,.int .i64 (y:Nat),.slice a5 xp.length c5,.slice a6 xq.length c6,.slice a7 xo.length c7,.slice a8 xf.length c8] 44):=by show(wr.heap.push _)[wr.heap.size]? =_;simp
          have hNb:wr.heap.size≠W1.heap.size:=by have:=LibA.IsBuffer.lt hP;omega
          have q0:=alloc_cell (.cells #[.string m,.int .i64 (y:Nat),.slice a5 xp.length c5,.slice a6 xq.length c6,.slice a7 xo.length c7,.slice a8 xf.length c8] 44) hl2
          have q1:=alloc_cell (.cells #[.string m,.int .i64 (y:Nat),.slice a5 xp.length c5,.slice a6 xq.length c6,.slice a7 xo.length c7,.slice a8 xf.length c8] 44) hd
          have q2:(wr.alloc (.cells #[.string m,.int .i64 (y:Nat),.slice a5 xp.length c5,.slice a6 xq.length c6,.slice a7 xo.length c7,.slice a8 xf.length c8] 44)).cell? ⟨wr.heap.size,0,none⟩=some (.string m):=by rw[Lib.cell_of_heap hN0];rfl
          have q3:(wr.alloc (.cells #[.string m,.int .i64 (y:Nat),.slice a5 xp.length c5,.slice a6 xq.length c6,.slice a7 xo.length c7,.slice a8 xf.length c8] 44)).cell? ⟨wr.heap.size,1,none⟩=some (.int .i64 (y:Nat)):=by rw[Lib.cell_of_heap hN0];rfl
          have hP1:PB R W1.heap.size W1.heap.size _ (wr.alloc (.cells #[.string m,.int .i64 (y:Nat),.slice a5 xp.length c5,.slice a6 xq.length c6,.slice a7 xo.length c7,.slice a8 xf.length c8] 44)):=LibA.IsBuffer.alloc hP _
          have hwB1:W1.heap.size≤(wr.alloc (.cells #[.string m,.int .i64 (y:Nat),.slice a5 xp.length c5,.slice a6 xq.length c6,.slice a7 xo.length c7,.slice a8 xf.length c8] 44)).heap.size:=by rw[alloc_sz];omega
          have hb1:Fr W1.heap.size W1.heap.size W1 (wr.alloc (.cells #[.string m,.int .i64 (y:Nat),.slice a5 xp.length c5,.slice a6 xq.length c6,.slice a7 xo.length c7,.slice a8 xf.length c8] 44)):=hb.trans (Fr.al hwB _)
          generalize wr.alloc (.cells #[.string m,.int .i64 (y:Nat),.slice a5 xp.length c5,.slice a6 xq.length c6,.slice a7 xo.length c7,.slice a8 xf.length c8] 44)=W at*
          generalize wr.heap.size=N at*
          have hW:=words_atd hJ R W1.heap.size W1.heap.size _ [⟨#[114,111,117,116,101]⟩,m,m2] W hP1 hwB1 (by show 3≤10;omega) (by rw[hj2];simp only[List.length_append,List.length_cons,List.length_nil]at hTl ⊢;omega)
          rw[hj2]at hW
          clear hl2 hc0 hc1 hc2 hc3 hc4 hc5 hd
          go_region_with_o (
           (go_at_call 31
            refine hW.mono ?_
            rintro e w2 ⟨rfl,h2,b2⟩))
          all_goals (
           have k2:=hb1.trans b2
           have f2:=b2.cell (j:=0) hN0 (by decide) hNb
           clear hb1 q0 q1 q2 q3 hN0 hP1 hP hwB1 hwB hb hW hA
           have g3:w2.cell? ⟨N,2,none⟩=some (.slice a5 xp.length c5):=by rw[Lib.cell_of_heap f2];rfl
           have z3:=secs_L hJ (hC.mono k2.1) h2 k2.size (hIp.mono k2.1) hpath hSn hR3 (by simp only[List.length_append,List.length_cons,List.length_nil]at hTl ⊢;omega)
           go_wp2_with (go_at_call 32
                        refine z3.mono ?_
                        rintro e w3 ⟨rfl,h3,b3⟩
                        have k3:=k2.trans b3
                        have f3:=b3.cell (j:=0) f2 (by decide) hNb
                        have g4:w3.cell? ⟨N,3,none⟩=some (.slice a6 xq.length c6):=by rw[Lib.cell_of_heap f3];rfl)
           have z4:=needs_L hJ (hC.mono k3.1) h3 k3.size (hNq.mono k3.1) hpts hPn hR4 (by simp only[List.length_append,List.length_cons,List.length_nil]at hTl ⊢;omega)
           go_wp2_with (go_at_call 33
                        refine z4.mono ?_
                        rintro e w4 ⟨rfl,h4,b4⟩
                        have k4:=k3.trans b4
                        have f4:=b4.cell (j:=0) f3 (by decide) hNb
                        have g5:w4.cell? ⟨N,4,none⟩=some (.slice a7 xo.length c7):=by rw[Lib.cell_of_heap f4];rfl)
           have z5:=secs_L hJ (hC.mono k4.1) h4 k4.size (hIo.mono k4.1) hov hSn hR3 (by simp only[List.length_append,List.length_cons,List.length_nil]at hTl ⊢;omega)
           go_wp2_with (go_at_call 32
                        refine z5.mono ?_
                        rintro e w5 ⟨rfl,h5,b5⟩
                        have k5:=k4.trans b5
                        have f5:=b5.cell (j:=0) f4 (by decide) hNb
                        have g6:w5.cell? ⟨N,5,none⟩=some (.slice a8 xf.length c8):=by rw[Lib.cell_of_heap f5];rfl)
           have z6:=needs_L hJ (hC.mono k5.1) h5 k5.size (hNf.mono k5.1) hfl hPn hR4 (by simp only[List.length_append,List.length_cons,List.length_nil]at hTl ⊢;omega)
           go_wp2_with (go_at_call 33
                        refine z6.mono ?_
                        rintro e w6 ⟨rfl,h6,b6⟩
                        have k6:=k5.trans b6
                        have f6:=b6.cell (j:=0) f5 (by decide) hNb)
           go_wp2_with (go_at_call 34
                        refine(wstr R W1.heap.size W1.heap.size _ _ _ h6 k6.size (by show _+1≤_;simp only[List.length_append,List.length_cons,List.length_nil]at hTl ⊢;omega)).mono ?_
                        rintro e w7 ⟨rfl,h7,b7⟩)
           go_wp2
           go_roundw
           case rel=>
            refine⟨k+1,by omega,by simp,?_,k6.trans b7⟩
            rw[hT]
            simpa[List.append_assoc]using h7
           case measure=>simp[intOf];omega)
         ·have e:L.r.take k=L.r:=List.take_of_length_le (by omega)
          rw[e]at hP
          have hP2:PB R W1.heap.size W1.heap.size (printT L) wr:=hP
          have hpl:=ok.t
          have hbz:Below w.heap.size w wr:=hbw.trans (hb.1.mono hbw.size)
          clear hP e hC hR3 hR4 ok
          obtain⟨T,hTT⟩:∃T,T=printT L:=⟨_,rfl⟩
          rw[←hTT]at hP2 hpl
          by_cases hle:T.length≤16384
          ·go_wp2_with (first
            |(go_at_call 35
              refine(len_c hP2).mono ?_
              rintro e w8 ⟨rfl,n8,rfl⟩)
            |(go_at_call 36
              refine(str_c (R:=R) (B:=W1.heap.size) (bs:=T) ?_).mono ?_
              ·exact hP2
              rintro e w9 ⟨rfl,n9,rfl⟩))
           all_goals (first
            |(exfalso;rw[hTT]at hle;omega)
            |(go_ret2
              refine⟨by rw[←hTT];simp[hle],hbz.trans ⟨rfl,rfl,rfl,Nat.le_refl _,fun _ _=>rfl⟩⟩))
          ·go_wp2_with (first
            |(go_at_call 35
              refine(len_c hP2).mono ?_
              rintro e w8 ⟨rfl,n8,rfl⟩))
           all_goals (first
            |(exfalso;rw[hTT]at hle;omega)
            |(go_ret2
              refine⟨by rw[←hTT];simp[hle],hbz.trans ⟨rfl,rfl,rfl,Nat.le_refl _,fun _ _=>rfl⟩⟩))
end Go.AM.Ky

namespace Go.AM.Ky
open Go.Proofs Go.Shelf Go.RowKit Go.AM.Fd
theorem decB_le{l:List UInt8}{p:Nat}:(decB l p).2 ≤4:=by
 unfold decB Utf8.decode
 repeat' split
 all_goals (first|omega|(simp only[];repeat' split))
 all_goals first|omega|(dsimp only[];repeat' split)
 all_goals omega
theorem runFd_len(l:List UInt8):∀(n p:Nat),l.length-p≤n→l.length-p≤4*(Fd.runF l p).length
 |0,p,h=>by omega
 |n+1,p,h=>by
  by_cases hp:p<l.length
  ·have h1:=decB_pos (l:=l) (p:=p)
   have h2:=decB_le (l:=l) (p:=p)
   have:=runFd_len l n (p+(decB l p).2) (by omega)
   rw[Fd.runF_step hp,List.length_cons]
   omega
  ·omega
theorem rightB_len{l:List UInt8}(h:rightB l=true):l.length≤64:=by
 unfold Fd.rightB at h
 simp only[Bool.and_eq_true,decide_eq_true_eq]at h
 have:=runFd_len l l.length 0 (by omega)
 omega
theorem flatMap_lim{α:Type}{f:α→List UInt8}{k:Nat}:∀{l:List α},(∀x∈l,(f x).length≤k)→(l.flatMap f).length≤l.length*k
 |[],_=>by simp
 |x::l,h=>by
  have h1:=h x (by simp)
  have h2:=flatMap_lim (l:=l) fun y hy=>h y (by simp[hy])
  simp only[List.flatMap_cons,List.length_append,List.length_cons,Nat.succ_mul]
  omega
theorem nmAt_len{l:List (List UInt8)}(h:∀x∈l,x.length≤64)(i:Int):(nmAt l i).length≤64:=by
 unfold nmAt
 by_cases hi:i.toNat<l.length
 ·exact h _ (getD_mem hi)
 ·simp only[List.getD,List.getElem?_eq_none (Nat.le_of_not_lt hi)];simp
theorem inB_iff{n x:Int}(h:inB n x=true):0≤x∧x<n:=by simpa[inB]using h
theorem may_ok{L:Ly}(h:mayB L=true):LyOK L:=by
 unfold mayB at h
 simp only[Bool.and_eq_true,Bool.not_eq_true',fullB,Bool.or_eq_false_iff,decide_eq_false_iff_not,okN,List.all_eq_true,roB,needB,decide_eq_true_eq]at h
 obtain⟨⟨⟨⟨hs,hp⟩,hg⟩,hr⟩,⟨hN,hnd⟩,⟨⟨hP,hG⟩,hR⟩⟩:=h
 have nS:∀x∈L.s,x.length≤64:=fun x hx=>rightB_len (hN x (by simp[namesL,hx]))
 have nP:∀x∈L.p,x.1.length≤64:=fun x hx=>rightB_len (hN x.1 (by simp only[namesL,List.mem_append,List.mem_map];exact .inl (.inl (.inr ⟨x,hx,rfl⟩))))
 have nG:∀x∈L.g,x.1.length≤64:=fun x hx=>rightB_len (hN x.1 (by simp only[namesL,List.mem_append,List.mem_map];exact .inl (.inr ⟨x,hx,rfl⟩)))
 have nR:∀x∈L.r,x.n.length≤64:=fun x hx=>rightB_len (hN x.n (by simp only[namesL,List.mem_append,List.mem_map];exact .inr ⟨x,hx,rfl⟩))
 have nP':∀x∈L.p.map (·.1),x.length≤64:=by
  intro x hx
  obtain⟨y,hy,rfl⟩:=List.mem_map.1 hx
  exact nP y hy
 have nG':∀x∈L.g.map (·.1),x.length≤64:=by
  intro x hx
  obtain⟨y,hy,rfl⟩:=List.mem_map.1 hx
  exact nG y hy
 refine⟨by omega,⟨by omega,fun x hx=>inB_iff (hP x hx)⟩,⟨by omega,fun x hx=>inB_iff (hG x hx)⟩,⟨by omega,fun x hx=>?_⟩,?_⟩
 ·obtain⟨⟨h1,⟨⟨h2,h3⟩,h4⟩,h5⟩,⟨⟨h6,h7⟩,⟨h8,h9⟩⟩⟩:=hR x hx
  exact⟨inB_iff h1,⟨by omega,fun y hy=>inB_iff (h4 y hy)⟩,⟨by omega,fun y hy=>inB_iff (h7 y hy)⟩,⟨by omega,fun y hy=>inB_iff (h5 y hy)⟩,⟨by omega,fun y hy=>inB_iff (h9 y hy)⟩⟩
 ·have aS:(txS L.s).length≤L.s.length*100:=flatMap_lim fun x hx=>by
   have:=nS x hx
   simp only[List.length_append,List.length_cons,List.length_nil,secW];omega
  have aP:∀(W:List UInt8) (l:List (List UInt8×Int)),W.length≤10→(∀x∈l,x.1.length≤64)→(txP W L.s l).length≤l.length*200:=fun W l hW hl=>flatMap_lim fun x hx=>by
   have h1:=hl x hx
   have h2:=nmAt_len nS x.2
   simp only[List.length_append,List.length_cons,List.length_nil];omega
  have aI:∀(l:List Int),l.length≤16→(txI L.s l).length≤2000:=fun l hl=>by
   have:(l.flatMap fun x=>32::nmAt L.s x).length≤l.length*65:=flatMap_lim fun x hx=>by
    have h2:=nmAt_len nS x
    simp only[List.length_cons];omega
   simp only[txI,List.length_append,List.length_cons,List.length_nil];omega
  have aN:∀(l:List (Int×Bool)),l.length≤16→(txN L.p l).length≤2000:=fun l hl=>by
   have:(l.flatMap fun x=>32::(nmAt (L.p.map (·.1)) x.1++[if x.2 then 45 else 43])).length≤l.length*66:=flatMap_lim fun x hx=>by
    have h2:=nmAt_len nP' x.1
    simp only[List.length_cons,List.length_append,List.length_nil];omega
   simp only[txN,List.length_append,List.length_cons,List.length_nil];omega
  have aR:(txR L L.r).length≤L.r.length*10000:=flatMap_lim fun x hx=>by
   obtain⟨⟨h1,⟨⟨h2,h3⟩,h4⟩,h5⟩,⟨⟨h6,h7⟩,⟨h8,h9⟩⟩⟩:=hR x hx
   have b1:=nR x hx
   have b2:=nmAt_len nG' x.g
   have b3:=aI x.path h2
   have b4:=aN x.pts h6
   have b5:=aI x.ov h3
   have b6:=aN x.fl h8
   simp only[tx1,List.length_append,List.length_cons,List.length_nil,rtW];omega
  have c1:=aP ptW L.p (by simp[ptW]) nP
  have c2:=aP sgW L.g (by simp[sgW]) nG
  simp only[printT,List.length_append]
  omega
end Go.AM.Ky

namespace Go.AM.Fd
open Nat (reduceAdd reduceEqDiff reduceLT reduceLeDiff reduceMul reduceSub)
open Go.Proofs Go.AM.F Go.AM.Ky
theorem t47{H:AHeap}{u:V4}{xs:List RV}{L:Ly}(h:LyR H u xs L){k:Nat}(b:Bool)(hk:k<L.p.length)(hl:(L.p.getD k ([],0)).1.length≤1000000):
 ∃w H',ARun Tryz.prog 4 47 [.agg u.l.toArray,.agg #[.int .i64 (k:Int),.bool b]] H w H'∧w=.string ⟨((L.p.getD k ([],0)).1 ++[if b then 45 else 43]).toArray⟩∧H'=H:=by
 suffices h':∃w H',ARun Tryz.prog 4 47 [.agg u.l.toArray,.agg #[.int .i64 (k:Int),.bool b]] H w H'∧w=.string ⟨((L.p.getD k ([],0)).1 ++[if b then 45 else 43]).toArray⟩∧Keeps H H' by
  obtain⟨_,_,a,rfl,k⟩:=h'
  exact⟨_,_,a.gc0 k (.inr (.string _)),rfl,rfl⟩
 refine walk2 f47_ok f47_n ?_
 intro Q hq1 hq2
 have os:=Sl.one h.s
 have op:=Sl.one h.p
 have og:=Sl.one h.g
 have or:=Sl.one h.r
 have lp:=h.p.len
 have ip:=Sl.is h.p
 have k0:Keeps H (H.alloc (.cells true false 4 u.l 30)):=(Keeps.refl H).alloc _
 have k1:Keeps H ((H.alloc (.cells true false 4 u.l 30)).alloc (.cells true false 2 [.int .i64 (k:Int),.bool b] 49)):=k0.alloc _
 have gl:((H.alloc (.cells true false 4 u.l 30)).alloc (.cells true false 2 [.int .i64 (k:Int),.bool b] 49)).get H.n=some (.cells true false 4 u.l 30):=(((Keeps.refl _).alloc _)).at_ (AHeap.get_alloc_new H _)
 have gn:((H.alloc (.cells true false 4 u.l 30)).alloc (.cells true false 2 [.int .i64 (k:Int),.bool b] 49)).get (H.n+1)=some (.cells true false 2 [.int .i64 (k:Int),.bool b] 49):=AHeap.get_alloc_new (H.alloc _) _
 obtain⟨np,rp⟩:=(h.p.keeps k1).at_ hk
 have e1:(0:Int)≤(k:Int):=by omega
 have e2:(k:Int)<((lenS u.p:Nat):Int):=by omega
 obtain⟨us,up,ug,ur⟩:=u
 simp only[V4.l]at*
 have ho4:[us,up,ug,ur].all Value.oneCell'=true:=by simp only[List.all_cons,List.all_nil,os,op,og,or];rfl
 have ho2:[Value.int .i64 (k:Int),.bool b].all Value.oneCell'=true:=rfl
 generalize hX:((H.alloc (.cells true false 4 [us,up,ug,ur] 30)).alloc (.cells true false 2 [.int .i64 (k:Int),.bool b] 49))=X at*
 have ha:∀c:UInt8,binA .add (.string ⟨(L.p.getD k ([],0)).1.toArray⟩) (.string ⟨[c].toArray⟩)=some (.string ⟨((L.p.getD k ([],0)).1 ++[c]).toArray⟩):=fun c=>b_addS (by simp only[List.length_cons,List.length_nil];omega)
 have e3:((L.p.length:Nat):Int)=((lenS up:Nat):Int):=by omega
 cases b
 ·simp(disch:=first|assumption|omega)only[f47,W_block,P3,seval,initFr,clsA,ho4,ho2,hX,gn,gl,ip,np,rp,e1,e2,a_load1v,ha]
  exact hq2 _ _ ⟨_,rfl,rfl,k1⟩
 ·simp(disch:=first|assumption|omega)only[f47,W_block,P3,seval,initFr,clsA,ho4,ho2,hX,gn,gl,ip,np,rp,e1,e2,a_load1v,ha]
  exact hq2 _ _ ⟨_,rfl,rfl,k1⟩
theorem nm_get{l:List (List UInt8)}{y:Int}(h:0≤y∧y<l.length):l.getD y.toNat []=nmAt l y:=rfl
theorem pre_le{α:Type}(f:α→List UInt8){l:List α}{i:Nat}(d:α)(hi:i<l.length):((l.take i).flatMap f).length+(f (l.getD i d)).length≤(l.flatMap f).length:=by
 have h1:l[i]? =some (l.getD i d):=by simp[List.getD,List.getElem?_eq_getElem hi]
 have h2:=flatMap_le f l (i+1)
 rw[flatMap_take f h1,List.length_append]at h2
 exact h2
theorem pre_next{α:Type}(f:α→List UInt8){l:List α}{i:Nat}(d:α)(hi:i<l.length):(l.take (i+1)).flatMap f=(l.take i).flatMap f++f (l.getD i d):=
 flatMap_take f (by simp[List.getD,List.getElem?_eq_getElem hi])
def wN(p:List (List UInt8×Int))(x:Int×Bool):List UInt8:=32::(nmAt (p.map (·.1)) x.1++[if x.2 then 45 else 43])
set_option maxHeartbeats 1000000 in
theorem t22s{H:AHeap}{u:V4}{xs:List RV}{L:Ly}{v:Value}{l:List Int}(h:LyR H u xs L)(hv:IL H v l)(hn:l.length≤1000000000)(hl:∀y∈l,0≤y∧y<L.s.length)(hT:(txI L.s l).length≤140737488355328):
 ∃w H',ARun Tryz.prog 4 22 [.agg u.l.toArray,v,.slice none 0 0] H w H'∧w=.string ⟨(txI L.s l).toArray⟩∧H'=H:=by
 suffices h':∃w H',ARun Tryz.prog 4 22 [.agg u.l.toArray,v,.slice none 0 0] H w H'∧w=.string ⟨(txI L.s l).toArray⟩∧Keeps H H' by
  obtain⟨_,_,a,rfl,k⟩:=h'
  exact⟨_,_,a.gc0 k (.inr (.string _)),rfl,rfl⟩
 refine walk2 f22_ok f22_n ?_
 intro Q hq1 hq2
 have os:=Sl.one h.s
 have op:=Sl.one h.p
 have og:=Sl.one h.g
 have or:=Sl.one h.r
 have ls:=h.s.len
 have is:=Sl.is h.s
 have iv:=Sl.is hv
 have lv:=hv.len
 have k0:Keeps H (H.alloc (.cells true false 4 u.l 30)):=(Keeps.refl H).alloc _
 have gl:(H.alloc (.cells true false 4 u.l 30)).get H.n=some (.cells true false 4 u.l 30):=AHeap.get_alloc_new H _
 have hs0:=h.s.keeps k0
 have hv0:=hv.keeps k0
 obtain⟨us,up,ug,ur⟩:=u
 simp only[V4.l]at*
 have ho4:[us,up,ug,ur].all Value.oneCell'=true:=by simp only[List.all_cons,List.all_nil,os,op,og,or];rfl
 generalize hX:(H.alloc (.cells true false 4 [us,up,ug,ur] 30))=X at*
 simp(disch:=first|assumption|omega)only[f22,P3,seval,initFr,clsA,ho4,hX,lv]
 obtain⟨A1,hA1⟩:∃v:Value,v=.agg #[us,up,ug,ur]:=⟨_,rfl⟩
 rw[W_block,←hA1]
 refine W_loop2 (fun k fr K=>∃i x8,fr=[A1,v,.slice none 0 0,ptr H.n 0,.string ⟨([]:List UInt8).toArray⟩,.string ⟨([32,58]++(l.take i).flatMap fun x=>32::nmAt L.s x).toArray⟩,.int .i64 ((i:Nat):Int),undef,x8,undef]∧K=X∧i≤l.length∧k=l.length-i) l.length
  ⟨0,_,rfl,rfl,by omega,rfl⟩ ?_
 rintro Q' k fr K ⟨i,x8,rfl,rfl,hi,rfl⟩ hn hx hret
 by_cases hlt:i<l.length
 ·obtain⟨nv,rv⟩:=hv0.at_ hlt
  have hy:=hl _ (getD_mem (d:=(0:Int)) hlt)
  have hnm:=nm_get hy
  have hT2:=pre_le (fun x=>32::nmAt L.s x) (0:Int) hlt
  have hnx:=pre_next (fun x=>32::nmAt L.s x) (0:Int) hlt
  generalize l.getD i 0=y at*
  obtain⟨ns,rs⟩:=hs0.at_ (i:=y.toNat) (by omega)
  rw[hnm]at rs
  have h0:(0:Int)≤(i:Int):=by omega
  have h1:(i:Int)<((lenS v:Nat):Int):=by omega
  have h3:(i:Int)<((l.length:Nat):Int):=by omega
  have h4:(0:Int)≤y:=by omega
  have h5:y<((lenS us:Nat):Int):=by omega
  have hw:IntKind.i64.wrap ((i:Int)+1)=((i+1:Nat):Int):=by rw[wrap_i64 (by omega) (by omega)];simp
  unfold tRow at rs
  have hb1:=b_addS (a:=[32,58]++(l.take i).flatMap fun x=>32::nmAt L.s x) (b:=[32]) (by unfold txI at hT;simp only[List.length_append,List.length_cons,List.length_nil]at*;omega)
  have hb2:=b_addS (a:=([32,58]++(l.take i).flatMap fun x=>32::nmAt L.s x)++[32]) (b:=nmAt L.s y) (by unfold txI at hT;simp only[List.length_append,List.length_cons,List.length_nil]at*;omega)
  have e:(([32,58]++(l.take i).flatMap fun x=>32::nmAt L.s x)++[32])++nmAt L.s y=[32,58]++(l.take (i+1)).flatMap fun x=>32::nmAt L.s x:=by rw[hnx];simp
  generalize([32,58]++(l.take i).flatMap fun x=>32::nmAt L.s x)=T0 at*
  simp(disch:=first|assumption|omega)only[W_block,P3,seval,initFr,clsA,lv,ls,gl,iv,is,nv,rv,ns,rs,h0,h1,h3,h4,h5,a_load1v,hb1,hb2,hw]
  rw[e]
  exact hn _ _ _ ⟨i+1,_,rfl,rfl,by omega,rfl⟩ (by omega)
 ·have h3:¬(i:Int)<((l.length:Nat):Int):=by omega
  have ei:i=l.length:=by omega
  subst ei
  rw[show([32,58]++(l.take l.length).flatMap fun x=>32::nmAt L.s x)=txI L.s l from by rw[List.take_length];rfl]
  generalize txI L.s l=T0 at*
  simp(disch:=first|assumption|omega)only[W_block,P3,seval,initFr,clsA,lv,h3]
  refine hx 0 _ _ ?_
  simp(disch:=first|assumption|omega)only[P3,seval,initFr,clsA]
  rw[W_block]
  refine W_loop2 (fun k fr K'=>∃x9,fr=[A1,v,.slice none 0 0,ptr H.n 0,.string ⟨([]:List UInt8).toArray⟩,.string ⟨T0.toArray⟩,.int .i64 ((l.length:Nat):Int),.int .i64 0,.bool false,x9]∧K'=K∧k=0) 0
   ⟨_,rfl,rfl,rfl⟩ ?_
  rintro Q2 k fr K' ⟨x9,rfl,rfl,rfl⟩ hn2 hx2 hret2
  have e0:¬(0:Int)<0:=by omega
  simp(disch:=first|assumption|omega)only[W_block,P3,seval,initFr,clsA,e0,lenS]
  refine hx2 2 _ _ ?_
  simp(disch:=first|assumption|omega)only[W_block,P3,seval,initFr,clsA]
  exact hq2 _ _ ⟨_,rfl,rfl,k0⟩
set_option maxHeartbeats 1000000 in
theorem t22n{H:AHeap}{u:V4}{xs:List RV}{L:Ly}{v:Value}{l:List (Int×Bool)}(h:LyR H u xs L)(hv:NL H v l)(hn:l.length≤1000000000)(hl:∀y∈l,0≤y.1∧y.1<L.p.length)(hT:(txN L.p l).length≤140737488355328)(hP:∀x∈L.p,x.1.length≤1000000):
 ∃w H',ARun Tryz.prog 4 22 [.agg u.l.toArray,.slice none 0 0,v] H w H'∧w=.string ⟨(txN L.p l).toArray⟩∧H'=H:=by
 suffices h':∃w H',ARun Tryz.prog 4 22 [.agg u.l.toArray,.slice none 0 0,v] H w H'∧w=.string ⟨(txN L.p l).toArray⟩∧Keeps H H' by
  obtain⟨_,_,a,rfl,k⟩:=h'
  exact⟨_,_,a.gc0 k (.inr (.string _)),rfl,rfl⟩
 refine walk2 f22_ok f22_n ?_
 intro Q hq1 hq2
 have os:=Sl.one h.s
 have op:=Sl.one h.p
 have og:=Sl.one h.g
 have or:=Sl.one h.r
 have iv:=Sl.is hv
 have lv:=hv.len
 have k0:Keeps H (H.alloc (.cells true false 4 u.l 30)):=(Keeps.refl H).alloc _
 have gl:(H.alloc (.cells true false 4 u.l 30)).get H.n=some (.cells true false 4 u.l 30):=AHeap.get_alloc_new H _
 have h0L:=h.keeps k0
 have hv0:=hv.keeps k0
 obtain⟨us,up,ug,ur⟩:=u
 simp only[V4.l]at*
 have ll:[us,up,ug,ur].length=4:=rfl
 have ho4:[us,up,ug,ur].all Value.oneCell'=true:=by simp only[List.all_cons,List.all_nil,os,op,og,or];rfl
 generalize hX:(H.alloc (.cells true false 4 [us,up,ug,ur] 30))=X at*
 simp(disch:=first|assumption|omega)only[f22,P3,seval,initFr,clsA,ho4,hX,lv]
 obtain⟨A1,hA1⟩:∃v:Value,v=.agg #[us,up,ug,ur]:=⟨_,rfl⟩
 rw[W_block,←hA1]
 refine W_loop2 (fun k fr K'=>∃x8,fr=[A1,.slice none 0 0,v,ptr H.n 0,.string ⟨([]:List UInt8).toArray⟩,.string ⟨[32,58].toArray⟩,.int .i64 0,undef,x8,undef]∧K'=X∧k=0) 0
  ⟨_,rfl,rfl,rfl⟩ ?_
 rintro Q1 k fr K' ⟨x8,rfl,rfl,rfl⟩ hn1 hx1 hret1
 have e0:¬(0:Int)<0:=by omega
 simp(disch:=first|assumption|omega)only[W_block,P3,seval,initFr,clsA,e0,lenS]
 refine hx1 0 _ _ ?_
 clear hn1 hx1 hret1
 simp(disch:=first|assumption|omega)only[P3,seval,initFr,clsA]
 rw[W_block]
 refine W_loop2 (fun k fr K=>∃i x9,fr=[A1,.slice none 0 0,v,ptr H.n 0,.string ⟨([]:List UInt8).toArray⟩,.string ⟨([32,58]++(l.take i).flatMap (wN L.p)).toArray⟩,.int .i64 0,.int .i64 ((i:Nat):Int),.bool false,x9]∧K=K'∧i≤l.length∧k=l.length-i) l.length
  ⟨0,_,rfl,rfl,by omega,rfl⟩ ?_
 rintro Q' k fr K ⟨i,x9,rfl,rfl,hi,rfl⟩ hn hx hret
 by_cases hlt:i<l.length
 ·obtain⟨nv,rv⟩:=hv0.at_ hlt
  have hy:=hl _ (getD_mem (d:=((0:Int),false)) hlt)
  have hT2:=pre_le (wN L.p) ((0:Int),false) hlt
  have hnx:=pre_next (wN L.p) ((0:Int),false) hlt
  generalize l.getD i (0,false)=y at*
  obtain⟨y,b⟩:=y
  simp only[wN]at hy hT2 hnx
  obtain⟨n,rfl⟩:∃n:Nat,y=(n:Int):=⟨y.toNat,by omega⟩
  have hk:n<L.p.length:=by omega
  have hnm:nmAt (L.p.map (·.1)) (n:Int)=(L.p.getD n ([],0)).1 :=by
   simp only[nmAt,List.getD,List.getElem?_map,Int.toNat_natCast]
   cases L.p[n]? <;>rfl
  have hc:=t47 h0L b hk (hP _ (getD_mem hk))
  rw[←hnm]at hc
  have h0:(0:Int)≤(i:Int):=by omega
  have h1:(i:Int)<((lenS v:Nat):Int):=by omega
  have h3:(i:Int)<((l.length:Nat):Int):=by omega
  have hw:IntKind.i64.wrap ((i:Int)+1)=((i+1:Nat):Int):=by rw[wrap_i64 (by omega) (by omega)];simp
  have hb1:=b_addS (a:=[32,58]++(l.take i).flatMap (wN L.p)) (b:=[32]) (by have hT':([32,58]++l.flatMap (wN L.p)).length≤140737488355328:=hT;simp only[List.length_append,List.length_cons,List.length_nil]at*;omega)
  have hb2:=b_addS (a:=([32,58]++(l.take i).flatMap (wN L.p))++[32]) (b:=nmAt (L.p.map (·.1)) (n:Int)++[if b then 45 else 43]) (by have hT':([32,58]++l.flatMap (wN L.p)).length≤140737488355328:=hT;simp only[List.length_append,List.length_cons,List.length_nil]at*;omega)
  have e:(([32,58]++(l.take i).flatMap (wN L.p))++[32])++(nmAt (L.p.map (·.1)) (n:Int)++[if b then 45 else 43])=[32,58]++(l.take (i+1)).flatMap (wN L.p):=by rw[hnx];simp
  generalize([32,58]++(l.take i).flatMap (wN L.p))=T0 at*
  generalize(nmAt (L.p.map (·.1)) (n:Int)++[if b then 45 else 43])=W0 at*
  simp(disch:=first|assumption|omega)only[W_block,P3,seval,initFr,clsA,lv,gl,ll,iv,nv,rv,h0,h1,h3,a_loadnvf,hb1]
  refine callK hc ?_
  rintro _ X ⟨rfl,hX⟩
  rw[hX]
  simp(disch:=first|assumption|omega)only[W_block,P3,seval,initFr,clsA,hb2,hw]
  rw[e]
  exact hn _ _ _ ⟨i+1,_,rfl,rfl,by omega,rfl⟩ (by omega)
 ·have h3:¬(i:Int)<((l.length:Nat):Int):=by omega
  have ei:i=l.length:=by omega
  subst ei
  rw[show([32,58]++(l.take l.length).flatMap (wN L.p))=txN L.p l from by rw[List.take_length];rfl]
  generalize txN L.p l=T0 at*
  simp(disch:=first|assumption|omega)only[W_block,P3,seval,initFr,clsA,lv,h3]
  refine hx 2 _ _ ?_
  simp(disch:=first|assumption|omega)only[W_block,P3,seval,initFr,clsA]
  exact hq2 _ _ ⟨_,rfl,rfl,k0⟩
end Go.AM.Fd

namespace Go.AM.Fd
open Nat (reduceAdd reduceEqDiff reduceLT reduceLeDiff reduceMul reduceSub)
open Go.Proofs Go.AM.F Go.AM.Ky
def PM(A:Value)(H:AHeap)(u:V4)(T:List UInt8)(fr:List Value)(K:AHeap):Prop:=
 ∃(x5 x6 x7 x8 x9 x10 x11 x12 x13 x14 x15:Value),fr=[A,ptr H.n 0,.string ⟨([]:List UInt8).toArray⟩,.int .i64 0,.string ⟨T.toArray⟩,x5,x6,x7,x8,x9,x10,x11,x12,x13,x14,x15]∧Keeps (vB H u) K
def wS(x:List UInt8):List UInt8:=secW++32::x++[10]
def wP(W:List UInt8)(s:List (List UInt8))(x:List UInt8×Int):List UInt8:=W++32::x.1++32::nmAt s x.2++[10]
set_option maxHeartbeats 2000000 in
theorem pr1{H:AHeap}{u:V4}{xs:List RV}{L:Ly}{Q:AQ}{A:Value}{fr:List Value}{K:AHeap}{T:List UInt8}(h:LyR H u xs L)(hl:L.s.length≤1000000)(hT:(T++txS L.s).length≤140737488355328)(hm:PM A H u T fr K)
 (hk:∀fr K,PM A H u (T++txS L.s) fr K→Q .normal fr K):W Tryz.prog 4 (cpre 1 (cpost 3 f11.body)) Q fr K:=by
 obtain⟨x5,x6,x7,x8,x9,x10,x11,x12,x13,x14,x15,rfl,hkK⟩:=hm
 have lp:=h.s.len
 have ip:=Sl.is h.s
 simp(disch:=first|assumption|omega)only[f11,cpre,cpost,P3,seval,initFr,clsA]
 rw[W_block]
 refine W_loop2 (fun k fr K=>∃i xc,fr=[A,ptr H.n 0,.string ⟨([]:List UInt8).toArray⟩,.int .i64 0,.string ⟨(T++(L.s.take i).flatMap wS).toArray⟩,.int .i64 ((i:Nat):Int),x6,x7,x8,x9,x10,xc,x12,x13,x14,x15]∧Keeps (vB H u) K∧i≤L.s.length∧k=L.s.length-i) L.s.length
  ⟨0,x11,by simp,hkK,by omega,rfl⟩ ?_
 clear hkK
 rintro Q' k fr K ⟨i,xc,rfl,hkK,hi,rfl⟩ hn hx hret
 have gl:=hkK.at_ (vB_g H u)
 simp only[V4.l]at gl
 by_cases hlt:i<L.s.length
 ·have h3:(i:Int)<((L.s.length:Nat):Int):=by omega
  obtain⟨na,ra⟩:=(h.s.keeps ((vB_k H u).trans hkK)).at_ hlt
  have h1:(0:Int)≤(i:Int):=by omega
  have h2:(i:Int)<((lenS u.s:Nat):Int):=by omega
  have hT2:=pre_le wS ([]:List UInt8) hlt
  have hnx:=pre_next wS ([]:List UInt8) hlt
  have hT':(T++L.s.flatMap wS).length≤140737488355328:=hT
  have hw:IntKind.i64.wrap ((i:Int)+1)=((i+1:Nat):Int):=by rw[wrap_i64 (by omega) (by omega)];simp
  unfold tRow at ra
  generalize L.s.getD i []=y at*
  simp only[wS]at hT2
  have hb1:=b_addS (a:=T++(L.s.take i).flatMap wS) (b:=[115,101,99,116,105,111,110,32]) (by simp only[List.length_append,List.length_cons,List.length_nil,secW]at*;omega)
  have hb2:=b_addS (a:=(T++(L.s.take i).flatMap wS)++[115,101,99,116,105,111,110,32]) (b:=y) (by simp only[List.length_append,List.length_cons,List.length_nil,secW]at*;omega)
  have hb3:=b_addS (a:=((T++(L.s.take i).flatMap wS)++[115,101,99,116,105,111,110,32])++y) (b:=[10]) (by simp only[List.length_append,List.length_cons,List.length_nil,secW]at*;omega)
  have e:(((T++(L.s.take i).flatMap wS)++[115,101,99,116,105,111,110,32])++y)++[10]=T++(L.s.take (i+1)).flatMap wS:=by rw[hnx];simp[wS,secW]
  generalize(T++(L.s.take i).flatMap wS)=T0 at*
  simp(disch:=first|assumption|omega)only[W_block,P3,seval,initFr,clsA,gl,lp,ip,ra,na,h1,h2,h3,a_load1v,hb1,hb2,hb3,hw]
  rw[e]
  refine hn _ _ _ ⟨i+1,_,rfl,hkK,by omega,rfl⟩ (by omega)
 ·have h3:¬(i:Int)<((L.s.length:Nat):Int):=by omega
  have ei:i=L.s.length:=by omega
  subst ei
  rw[show T++(L.s.take L.s.length).flatMap wS=T++txS L.s from by rw[List.take_length];rfl]
  generalize T++txS L.s=T0 at*
  simp(disch:=first|assumption|omega)only[W_block,P3,seval,initFr,clsA,gl,lp,h3]
  refine hx 0 _ _ ?_
  exact hk _ _ ⟨_,_,_,_,_,_,_,_,_,_,_,rfl,hkK⟩
set_option maxHeartbeats 2000000 in
theorem pr2{H:AHeap}{u:V4}{xs:List RV}{L:Ly}{Q:AQ}{A:Value}{fr:List Value}{K:AHeap}{T:List UInt8}(h:LyR H u xs L)(hl:L.p.length≤1000000)(hS:∀x∈L.p,0≤x.2∧x.2<L.s.length)(hT:(T++txP ptW L.s L.p).length≤140737488355328)(hm:PM A H u T fr K)
 (hk:∀fr K,PM A H u (T++txP ptW L.s L.p) fr K→Q .normal fr K):W Tryz.prog 4 (cpre 1 (cpost 4 f11.body)) Q fr K:=by
 obtain⟨x5,x6,x7,x8,x9,x10,x11,x12,x13,x14,x15,rfl,hkK⟩:=hm
 have lp:=h.p.len
 have ip:=Sl.is h.p
 have ls:=h.s.len
 have is:=Sl.is h.s
 simp(disch:=first|assumption|omega)only[f11,cpre,cpost,P3,seval,initFr,clsA]
 rw[W_block]
 refine W_loop2 (fun k fr K=>∃i xc,fr=[A,ptr H.n 0,.string ⟨([]:List UInt8).toArray⟩,.int .i64 0,.string ⟨(T++(L.p.take i).flatMap (wP ptW L.s)).toArray⟩,x5,.int .i64 ((i:Nat):Int),x7,x8,x9,x10,x11,xc,x13,x14,x15]∧Keeps (vB H u) K∧i≤L.p.length∧k=L.p.length-i) L.p.length
  ⟨0,x12,by simp,hkK,by omega,rfl⟩ ?_
 clear hkK
 rintro Q' k fr K ⟨i,xc,rfl,hkK,hi,rfl⟩ hn hx hret
 have gl:=hkK.at_ (vB_g H u)
 simp only[V4.l]at gl
 by_cases hlt:i<L.p.length
 ·have h3:(i:Int)<((L.p.length:Nat):Int):=by omega
  obtain⟨na,ra⟩:=(h.p.keeps ((vB_k H u).trans hkK)).at_ hlt
  have h1:(0:Int)≤(i:Int):=by omega
  have h2:(i:Int)<((lenS u.p:Nat):Int):=by omega
  have hT2:=pre_le (wP ptW L.s) (([]:List UInt8),(0:Int)) hlt
  have hnx:=pre_next (wP ptW L.s) (([]:List UInt8),(0:Int)) hlt
  have hy:=hS _ (getD_mem (d:=(([]:List UInt8),(0:Int))) hlt)
  have hT':(T++L.p.flatMap (wP ptW L.s)).length≤140737488355328:=hT
  have hw:IntKind.i64.wrap ((i:Int)+1)=((i+1:Nat):Int):=by rw[wrap_i64 (by omega) (by omega)];simp
  generalize L.p.getD i ([],0)=y at*
  obtain⟨y,k⟩:=y
  simp only[wP]at hT2 hy ra hnx
  obtain⟨ns,rs⟩:=(h.s.keeps ((vB_k H u).trans hkK)).at_ (i:=k.toNat) (by omega)
  have h4:(0:Int)≤k:=by omega
  have h5:k<((lenS u.s:Nat):Int):=by omega
  rw[nm_get hy]at rs
  unfold tRow at rs
  generalize nmAt L.s k=z at*
  have hb1:=b_addS (a:=T++(L.p.take i).flatMap (wP ptW L.s)) (b:=[112,111,105,110,116,32]) (by simp only[List.length_append,List.length_cons,List.length_nil,ptW]at*;omega)
  have hb2:=b_addS (a:=(T++(L.p.take i).flatMap (wP ptW L.s))++[112,111,105,110,116,32]) (b:=y) (by simp only[List.length_append,List.length_cons,List.length_nil,ptW]at*;omega)
  have hb3:=b_addS (a:=((T++(L.p.take i).flatMap (wP ptW L.s))++[112,111,105,110,116,32])++y) (b:=[32]) (by simp only[List.length_append,List.length_cons,List.length_nil,ptW]at*;omega)
  have hb4:=b_addS (a:=(((T++(L.p.take i).flatMap (wP ptW L.s))++[112,111,105,110,116,32])++y)++[32]) (b:=z) (by simp only[List.length_append,List.length_cons,List.length_nil,ptW]at*;omega)
  have hb5:=b_addS (a:=((((T++(L.p.take i).flatMap (wP ptW L.s))++[112,111,105,110,116,32])++y)++[32])++z) (b:=[10]) (by simp only[List.length_append,List.length_cons,List.length_nil,ptW]at*;omega)
  have e:((((((T++(L.p.take i).flatMap (wP ptW L.s))++[112,111,105,110,116,32])++y)++[32])++z)++[10])=T++(L.p.take (i+1)).flatMap (wP ptW L.s):=by rw[hnx];simp[ptW]
  generalize(T++(L.p.take i).flatMap (wP ptW L.s))=T0 at*
  simp(disch:=first|assumption|omega)only[W_block,P3,seval,initFr,clsA,gl,lp,ip,ls,is,ra,na,rs,ns,h1,h2,h3,h4,h5,a_load1v,hb1,hb2,hb3,hb4,hb5,hw]
  rw[e]
  refine hn _ _ _ ⟨i+1,_,rfl,hkK,by omega,rfl⟩ (by omega)
 ·have h3:¬(i:Int)<((L.p.length:Nat):Int):=by omega
  have ei:i=L.p.length:=by omega
  subst ei
  rw[show T++(L.p.take L.p.length).flatMap (wP ptW L.s)=T++txP ptW L.s L.p from by rw[List.take_length];rfl]
  generalize T++txP ptW L.s L.p=T0 at*
  simp(disch:=first|assumption|omega)only[W_block,P3,seval,initFr,clsA,gl,lp,h3]
  refine hx 2 _ _ ?_
  exact hk _ _ ⟨_,_,_,_,_,_,_,_,_,_,_,rfl,hkK⟩
set_option maxHeartbeats 2000000 in
theorem pr3{H:AHeap}{u:V4}{xs:List RV}{L:Ly}{Q:AQ}{A:Value}{fr:List Value}{K:AHeap}{T:List UInt8}(h:LyR H u xs L)(hl:L.g.length≤1000000)(hS:∀x∈L.g,0≤x.2∧x.2<L.s.length)(hT:(T++txP sgW L.s L.g).length≤140737488355328)(hm:PM A H u T fr K)
 (hk:∀fr K,PM A H u (T++txP sgW L.s L.g) fr K→Q .normal fr K):W Tryz.prog 4 (cpre 1 (cpost 5 f11.body)) Q fr K:=by
 obtain⟨x5,x6,x7,x8,x9,x10,x11,x12,x13,x14,x15,rfl,hkK⟩:=hm
 have lp:=h.g.len
 have ip:=Sl.is h.g
 have ls:=h.s.len
 have is:=Sl.is h.s
 simp(disch:=first|assumption|omega)only[f11,cpre,cpost,P3,seval,initFr,clsA]
 rw[W_block]
 refine W_loop2 (fun k fr K=>∃i xc,fr=[A,ptr H.n 0,.string ⟨([]:List UInt8).toArray⟩,.int .i64 0,.string ⟨(T++(L.g.take i).flatMap (wP sgW L.s)).toArray⟩,x5,x6,.int .i64 ((i:Nat):Int),x8,x9,x10,x11,x12,xc,x14,x15]∧Keeps (vB H u) K∧i≤L.g.length∧k=L.g.length-i) L.g.length
  ⟨0,x13,by simp,hkK,by omega,rfl⟩ ?_
 clear hkK
 rintro Q' k fr K ⟨i,xc,rfl,hkK,hi,rfl⟩ hn hx hret
 have gl:=hkK.at_ (vB_g H u)
 simp only[V4.l]at gl
 by_cases hlt:i<L.g.length
 ·have h3:(i:Int)<((L.g.length:Nat):Int):=by omega
  obtain⟨na,ra⟩:=(h.g.keeps ((vB_k H u).trans hkK)).at_ hlt
  have h1:(0:Int)≤(i:Int):=by omega
  have h2:(i:Int)<((lenS u.g:Nat):Int):=by omega
  have hT2:=pre_le (wP sgW L.s) (([]:List UInt8),(0:Int)) hlt
  have hnx:=pre_next (wP sgW L.s) (([]:List UInt8),(0:Int)) hlt
  have hy:=hS _ (getD_mem (d:=(([]:List UInt8),(0:Int))) hlt)
  have hT':(T++L.g.flatMap (wP sgW L.s)).length≤140737488355328:=hT
  have hw:IntKind.i64.wrap ((i:Int)+1)=((i+1:Nat):Int):=by rw[wrap_i64 (by omega) (by omega)];simp
  generalize L.g.getD i ([],0)=y at*
  obtain⟨y,k⟩:=y
  simp only[wP]at hT2 hy ra hnx
  obtain⟨ns,rs⟩:=(h.s.keeps ((vB_k H u).trans hkK)).at_ (i:=k.toNat) (by omega)
  have h4:(0:Int)≤k:=by omega
  have h5:k<((lenS u.s:Nat):Int):=by omega
  rw[nm_get hy]at rs
  unfold tRow at rs
  generalize nmAt L.s k=z at*
  have hb1:=b_addS (a:=T++(L.g.take i).flatMap (wP sgW L.s)) (b:=[115,105,103,110,97,108,32]) (by simp only[List.length_append,List.length_cons,List.length_nil,sgW]at*;omega)
  have hb2:=b_addS (a:=(T++(L.g.take i).flatMap (wP sgW L.s))++[115,105,103,110,97,108,32]) (b:=y) (by simp only[List.length_append,List.length_cons,List.length_nil,sgW]at*;omega)
  have hb3:=b_addS (a:=((T++(L.g.take i).flatMap (wP sgW L.s))++[115,105,103,110,97,108,32])++y) (b:=[32]) (by simp only[List.length_append,List.length_cons,List.length_nil,sgW]at*;omega)
  have hb4:=b_addS (a:=(((T++(L.g.take i).flatMap (wP sgW L.s))++[115,105,103,110,97,108,32])++y)++[32]) (b:=z) (by simp only[List.length_append,List.length_cons,List.length_nil,sgW]at*;omega)
  have hb5:=b_addS (a:=((((T++(L.g.take i).flatMap (wP sgW L.s))++[115,105,103,110,97,108,32])++y)++[32])++z) (b:=[10]) (by simp only[List.length_append,List.length_cons,List.length_nil,sgW]at*;omega)
  have e:((((((T++(L.g.take i).flatMap (wP sgW L.s))++[115,105,103,110,97,108,32])++y)++[32])++z)++[10])=T++(L.g.take (i+1)).flatMap (wP sgW L.s):=by rw[hnx];simp[sgW]
  generalize(T++(L.g.take i).flatMap (wP sgW L.s))=T0 at*
  simp(disch:=first|assumption|omega)only[W_block,P3,seval,initFr,clsA,gl,lp,ip,ls,is,ra,na,rs,ns,h1,h2,h3,h4,h5,a_load1v,hb1,hb2,hb3,hb4,hb5,hw]
  rw[e]
  refine hn _ _ _ ⟨i+1,_,rfl,hkK,by omega,rfl⟩ (by omega)
 ·have h3:¬(i:Int)<((L.g.length:Nat):Int):=by omega
  have ei:i=L.g.length:=by omega
  subst ei
  rw[show T++(L.g.take L.g.length).flatMap (wP sgW L.s)=T++txP sgW L.s L.g from by rw[List.take_length];rfl]
  generalize T++txP sgW L.s L.g=T0 at*
  simp(disch:=first|assumption|omega)only[W_block,P3,seval,initFr,clsA,gl,lp,h3]
  refine hx 4 _ _ ?_
  exact hk _ _ ⟨_,_,_,_,_,_,_,_,_,_,_,rfl,hkK⟩
set_option maxHeartbeats 4000000 in
theorem pr4{H:AHeap}{u:V4}{xs:List RV}{L:Ly}{Q:AQ}{A:Value}{fr:List Value}{K:AHeap}{T:List UInt8}(h:LyR H u xs L)(ok:LyOK L)(hP:∀x∈L.p,x.1.length≤1000000)(hT:(T++txR L L.r).length≤140737488355328)(hm:PM A H u T fr K)
 (hk:∀fr K,PM A H u (T++txR L L.r) fr K→Q .normal fr K):W Tryz.prog 4 (cpre 1 (cpost 6 f11.body)) Q fr K:=by
 obtain⟨x5,x6,x7,x8,x9,x10,x11,x12,x13,x14,x15,rfl,hkK⟩:=hm
 have lp:=h.r.len
 rw[h.rlen]at lp
 have ip:=Sl.is h.r
 have ig:=Sl.is h.g
 have lg:=h.g.len
 have hrl:=ok.r.1
 simp(disch:=first|assumption|omega)only[f11,cpre,cpost,P3,seval,initFr,clsA]
 rw[W_block]
 refine W_loop2 (fun k fr K=>∃i x9 xc,fr=[A,ptr H.n 0,.string ⟨([]:List UInt8).toArray⟩,.int .i64 0,.string ⟨(T++(L.r.take i).flatMap (tx1 L)).toArray⟩,x5,x6,x7,.int .i64 ((i:Nat):Int),x9,x10,x11,x12,x13,xc,x15]∧Keeps (vB H u) K∧i≤L.r.length∧k=L.r.length-i) L.r.length
  ⟨0,x9,x14,by simp,hkK,by omega,rfl⟩ ?_
 clear hkK
 rintro Q' k fr K ⟨i,x9,xc,rfl,hkK,hi,rfl⟩ hn hx hret
 have gl:=hkK.at_ (vB_g H u)
 have hHK:=(vB_k H u).trans hkK
 by_cases hlt:i<L.r.length
 ·have h3:(i:Int)<((L.r.length:Nat):Int):=by omega
  have hlt':i<xs.length:=by rw[h.rlen];exact hlt
  obtain⟨na,ra⟩:=RL.at_ (h.r.keeps hHK) hlt'
  obtain⟨xok,xr⟩:=h.rat hlt
  have h1:(0:Int)≤(i:Int):=by omega
  have h2:(i:Int)<((lenS u.r:Nat):Int):=by omega
  have hw:IntKind.i64.wrap ((i:Int)+1)=((i+1:Nat):Int):=by rw[wrap_i64 (by omega) (by omega)];simp
  have hro:=ok.r.2 _ (getD_mem (d:=rv0.r) hlt)
  have hT2:=pre_le (tx1 L) rv0.r hlt
  have hnx:=pre_next (tx1 L) rv0.r hlt
  have hT':(T++L.r.flatMap (tx1 L)).length≤140737488355328:=hT
  rw[←xr]at hro hT2 hnx
  generalize xs.getD i rv0=y at*
  simp only[RV.row]at ra
  have o3:=one_isS (Sl.is xok.p)
  have o4:=one_isS (Sl.is xok.q)
  have o5:=one_isS (Sl.is xok.o)
  have o6:=one_isS (Sl.is xok.f)
  obtain⟨⟨g1,g2⟩,⟨p1,p2⟩,⟨q1,q2⟩,⟨v1,v2⟩,⟨f1,f2⟩⟩:=hro
  obtain⟨X,hX⟩:∃X,X=K.alloc (.cells true false 6 [.string ⟨y.r.n.toArray⟩,.int .i64 y.r.g,y.vp,y.vq,y.vo,y.vf] 44):=⟨_,rfl⟩
  have kX:Keeps K X:=by rw[hX];exact(Keeps.refl K).alloc _
  have gX:=kX.at_ gl
  have gr:X.get K.n=some (.cells true false 6 [.string ⟨y.r.n.toArray⟩,.int .i64 y.r.g,y.vp,y.vq,y.vo,y.vf] 44):=by rw[hX];exact AHeap.get_alloc_new K _
  have hHX:=hHK.trans kX
  obtain⟨ng,rg⟩:=(h.g.keeps hHX).at_ (i:=y.r.g.toNat) (by omega)
  have h4:(0:Int)≤y.r.g:=g1
  have h5:y.r.g<((lenS u.g:Nat):Int):=by omega
  have hgn:nmAt (L.g.map (·.1)) y.r.g=(L.g.getD y.r.g.toNat ([],0)).1 :=by
   simp only[nmAt,List.getD,List.getElem?_map]
   cases L.g[y.r.g.toNat]? <;>rfl
  rw[←hgn]at rg
  have tl:(tx1 L y.r).length=5+(y.r.n.length+1)+((nmAt (L.g.map (·.1)) y.r.g).length+1)+(txI L.s y.r.path).length+(txN L.p y.r.pts).length+(txI L.s y.r.ov).length+(txN L.p y.r.fl).length+1:=by
   simp only[tx1,rtW,List.length_append,List.length_cons,List.length_nil]
  have hTl:(T++(L.r.take i).flatMap (tx1 L)).length+(tx1 L y.r).length≤140737488355328:=by
   simp only[List.length_append]at*;omega
  rw[tl]at hTl
  have cP:=t22s (h.keeps hHX) (xok.p.keeps hHX) (by omega) p2 (by omega)
  have cQ:=t22n (h.keeps hHX) (xok.q.keeps hHX) (by omega) q2 (by omega) hP
  have cO:=t22s (h.keeps hHX) (xok.o.keeps hHX) (by omega) v2 (by omega)
  have cF:=t22n (h.keeps hHX) (xok.f.keeps hHX) (by omega) f2 (by omega) hP
  have e:(((((((((T++(L.r.take i).flatMap (tx1 L)++[114,111,117,116,101,32])++y.r.n)++[32])++nmAt (L.g.map (·.1)) y.r.g)++txI L.s y.r.path)++txN L.p y.r.pts)++txI L.s y.r.ov)++txN L.p y.r.fl)++[10])=T++(L.r.take (i+1)).flatMap (tx1 L):=by rw[hnx];simp[tx1,rtW]
  clear hT2 hnx tl hT' hT
  generalize(T++(L.r.take i).flatMap (tx1 L))=T0 at*
  generalize nmAt (L.g.map (·.1)) y.r.g=Gn at*
  generalize txI L.s y.r.path=Pn at*
  generalize txN L.p y.r.pts=Qn at*
  generalize txI L.s y.r.ov=On at*
  generalize txN L.p y.r.fl=Fn at*
  have hb1:=b_addS (a:=T0) (b:=[114,111,117,116,101,32]) (by simp only[List.length_append,List.length_cons,List.length_nil]at*;omega)
  have hb2:=b_addS (a:=(T0++[114,111,117,116,101,32])) (b:=y.r.n) (by simp only[List.length_append,List.length_cons,List.length_nil]at*;omega)
  have hb3:=b_addS (a:=((T0++[114,111,117,116,101,32])++y.r.n)) (b:=[32]) (by simp only[List.length_append,List.length_cons,List.length_nil]at*;omega)
  have hb4:=b_addS (a:=(((T0++[114,111,117,116,101,32])++y.r.n)++[32])) (b:=Gn) (by simp only[List.length_append,List.length_cons,List.length_nil]at*;omega)
  have hb5:=b_addS (a:=((((T0++[114,111,117,116,101,32])++y.r.n)++[32])++Gn)) (b:=Pn) (by simp only[List.length_append,List.length_cons,List.length_nil]at*;omega)
  have hb6:=b_addS (a:=(((((T0++[114,111,117,116,101,32])++y.r.n)++[32])++Gn)++Pn)) (b:=Qn) (by simp only[List.length_append,List.length_cons,List.length_nil]at*;omega)
  have hb7:=b_addS (a:=((((((T0++[114,111,117,116,101,32])++y.r.n)++[32])++Gn)++Pn)++Qn)) (b:=On) (by simp only[List.length_append,List.length_cons,List.length_nil]at*;omega)
  have hb8:=b_addS (a:=(((((((T0++[114,111,117,116,101,32])++y.r.n)++[32])++Gn)++Pn)++Qn)++On)) (b:=Fn) (by simp only[List.length_append,List.length_cons,List.length_nil]at*;omega)
  have hb9:=b_addS (a:=((((((((T0++[114,111,117,116,101,32])++y.r.n)++[32])++Gn)++Pn)++Qn)++On)++Fn)) (b:=[10]) (by simp only[List.length_append,List.length_cons,List.length_nil]at*;omega)
  obtain⟨us,up,ug,ur⟩:=u
  have ll:[us,up,ug,ur].length=4:=rfl
  simp only[V4.l]at*
  simp(disch:=first|assumption|omega|(simp only[LN]<;>omega)|(simp(disch:=first|assumption|omega|(simp only[LN]<;>omega))only[row_alloc,row_set];assumption))only[W_block,P3,seval,initFr,clsA,gl,lp,ip,ra,na,h1,h2,h3,a_loadnvf,o3,o4,o5,o6,←hX]
  simp(disch:=first|assumption|omega|(simp only[LN]<;>omega)|(simp(disch:=first|assumption|omega|(simp only[LN]<;>omega))only[row_alloc,row_set];assumption))only[W_block,P3,↓reduceIte,reduceAdd,reduceEqDiff,reduceCtorEq,initFr,reduceLT,clsA,reduceLeDiff,reduceMul,reduceSub,reduceIte,gX,gr,ig,lg,rg,ng,h4,h5,ll,a_load1v,hb1,hb2,hb3,hb4]
  refine callK cP ?_
  rintro _ _ ⟨rfl,rfl⟩
  simp(disch:=first|assumption|omega)only[W_block,P3,seval,initFr,clsA,gX,gr,ll,hb5]
  repeat (refine⟨by first|exact AHeap.get_lt gX|exact AHeap.get_lt gr|simp,?_⟩)
  refine callK cQ ?_
  rintro _ _ ⟨rfl,hZ⟩
  rw[hZ]
  simp(disch:=first|assumption|omega)only[W_block,P3,seval,initFr,clsA,gX,gr,ll,hb6]
  repeat (refine⟨by first|exact AHeap.get_lt gX|exact AHeap.get_lt gr|simp,?_⟩)
  refine callK cO ?_
  rintro _ _ ⟨rfl,hZ⟩
  rw[hZ]
  simp(disch:=first|assumption|omega)only[W_block,P3,seval,initFr,clsA,gX,gr,ll,hb7]
  repeat (refine⟨by first|exact AHeap.get_lt gX|exact AHeap.get_lt gr|simp,?_⟩)
  refine callK cF ?_
  rintro _ _ ⟨rfl,hZ⟩
  rw[hZ]
  simp(disch:=first|assumption|omega)only[W_block,P3,seval,initFr,clsA,hb8,hb9,hw]
  rw[e]
  refine⟨by simp,?_⟩
  refine hn _ _ _ ⟨i+1,_,_,rfl,hkK.trans kX,by omega,rfl⟩ (by omega)
 ·have h3:¬(i:Int)<((L.r.length:Nat):Int):=by omega
  have ei:i=L.r.length:=by omega
  subst ei
  rw[show T++(L.r.take L.r.length).flatMap (tx1 L)=T++txR L L.r from by rw[List.take_length];rfl]
  generalize T++txR L L.r=T0 at*
  simp only[V4.l]at gl
  simp(disch:=first|assumption|omega)only[W_block,P3,seval,initFr,clsA,gl,lp,h3]
  refine hx 6 _ _ ?_
  exact hk _ _ ⟨_,_,_,_,_,_,_,_,_,_,_,rfl,hkK⟩
end Go.AM.Fd

namespace Go.AM
def AO.unown:AO→AO
 | .dead=>.dead
 | .cells _ room esz c e=>.cells false room esz c e
 | .obj _ o=>.obj false o
 | .loop _ st pe L=>.loop false st pe L
def AHeap.unown(H:AHeap):AHeap:=⟨H.n,H.l.map AO.unown⟩
theorem AHeap.unown_n(H:AHeap):H.unown.n=H.n:=_root_.id rfl
theorem AHeap.unown_get(H:AHeap)(b:Nat):H.unown.get b=(H.get b).map AO.unown:=by
 unfold AHeap.get AHeap.unown
 split<;>simp
theorem AO.unown_own(o:AO):o.unown.own=false:=by cases o<;>rfl
theorem AHeap.unown_no(H:AHeap):NoOwn H.unown:=fun b o h=>by
 rw[AHeap.unown_get]at h
 cases hb:H.get b with
 |none=>rw[hb]at h;cases h
 |some x=>rw[hb]at h;cases h;exact AO.unown_own x
theorem OR.unown{σ:Sg}{w:World}{i:BI}{o:AO}(h:OR σ w i o):OR σ w i o.unown:=by
 cases o with
 |dead=>trivial
 |cells own room esz c e=>
  obtain⟨a1,a2,a3,a4,a5,c',fr,a6,a7,a8,a9⟩:=h
  exact⟨a1,a2,a3,a4,a5,c',fr,a6,a7,a8,fun h=>by cases h⟩
 |obj own o=>exact h
 |loop own st pe L=>exact h
theorem HR.unown{ng:Nat}{σ:Sg}{H:AHeap}{w:World}(h:HR ng σ H.get w):HR ng σ H.unown.get w:=by
 refine⟨fun b i hb=>?_,fun b1 b2 i1 i2 o1 o2 _ _ _ g1 _ hw=>?_,h.lt,h.glob⟩
 ·obtain⟨o,h1,h2⟩:=h.obj b i hb
  exact⟨o.unown,by rw[AHeap.unown_get,h1];rfl,h2.unown⟩
 ·rw[H.unown_no b1 o1 g1]at hw;cases hw
def over(H H':AHeap):AHeap:=⟨H'.n,(List.range (H'.n-H.n)).map (fun i=>(H'.l[i]?).getD .dead)++H.l⟩
theorem over_old{H H':AHeap}(hn:H.n≤H'.n){b:Nat}(hb:b<H.n):(over H H').get b=H.get b:=by
 unfold AHeap.get over
 simp only
 rw[if_pos (by omega),if_pos hb,List.getElem?_append_right (by simp;omega)]
 simp only[List.length_map,List.length_range]
 rw[show H'.n-1-b-(H'.n-H.n)=H.n-1-b by omega]
theorem over_new{H H':AHeap}{b:Nat}(hb:H.n≤b)(hb2:b<H'.n){o:AO}(h:H'.get b=some o):(over H H').get b=some o:=by
 unfold AHeap.get over at*
 simp only
 rw[if_pos hb2]at h ⊢
 rw[List.getElem?_append_left (by simp;omega)]
 simp only[List.getElem?_map]
 rw[List.getElem?_range (by omega)]
 simp[h]
theorem over_keeps{H H':AHeap}(hn:H.n≤H'.n):Keeps H (over H H'):=⟨hn,fun b hb=>over_old hn hb⟩
variable {P:Program} {ng:Nat} {f:FuncId} {args:List Value} {H H':AHeap} {v:Value}
theorem ARun.over(h:ARun P ng f args H.unown v H'):ARun P ng f args H v (AM.over H H')∧Keeps H (AM.over H H'):=by
 obtain⟨h0,h1,h2⟩:=h
 rw[AHeap.unown_n]at h1
 refine⟨⟨h0,h1,fun σ w args' hr ha=>?_⟩,over_keeps h1⟩
 refine(h2 σ w args' hr.unown ha).mono ?_
 rintro e w' ⟨v',σ',rfl,k1,k2,k3⟩
 have hk:∀k,k<w.heap.size→w'.heap[k]? =w.heap[k]? :=fun k hk=>k2.keep k hk (fun b i o hb ho hw=>by rw[H.unown_no b o ho]at hw;cases hw)
 have old:∀b i,σ b=some i→b<H.n:=fun b i hb=>by
  obtain⟨o,g,_⟩:=hr.obj b i hb
  exact AHeap.get_lt g
 have back:∀b i,b<H.n→σ' b=some i→σ b=some i:=fun b i hb hs=>by
  cases hsb:σ b with
  |none=>
   have:=(k2.new b i hsb hs).1.1
   rw[AHeap.unown_n]at this;omega
  |some j=>have:=k2.sub b j hsb;rw[hs]at this;exact this.symm
 have fresh:∀b i,H.n≤b→σ' b=some i→w.heap.size≤i.c:=fun b i hb hs=>by
  have hsb:σ b=none:=by
   cases hsb:σ b with
   |none=>rfl
   |some j=>have:=old b j hsb;omega
  rcases(k2.new b i hsb hs).2 with h|⟨b0,i0,o0,_,e2,e3,_⟩
  ·exact h
  ·rw[H.unown_no b0 o0 e2]at e3;cases e3
 have obj:∀b i,σ' b=some i→(b<H.n∧σ b=some i∧i.c<w.heap.size)∨(H.n≤b∧w.heap.size≤i.c∧∃o,H'.get b=some o∧(AM.over H H').get b=some o∧OR σ' w' i o):=fun b i hs=>by
  by_cases hb:b<H.n
  ·have:=back b i hb hs
   exact .inl ⟨hb,this,hr.lt b i this⟩
  ·obtain⟨o,g1,g2⟩:=k1.obj b i hs
   exact .inr ⟨by omega,fresh b i (by omega) hs,o,g1,over_new (by omega) (AHeap.get_lt g1) g1,g2⟩
 refine⟨v',σ',rfl,⟨?_,?_,k1.lt,k1.glob⟩,⟨k2.sub,?_,?_,?_,?_,k2.size,h1,k2.os,k2.tape,k2.output⟩,k3⟩
 ·intro b i hs
  rcases obj b i hs with⟨hb,hs0,_⟩|⟨_,_,o,_,g2,g3⟩
  ·obtain⟨o,g1,g2⟩:=hr.obj b i hs0
   exact⟨o,by rw[over_old h1 hb];exact g1,(g2.congr (fun _=>hk _ (hr.lt b i hs0))).mono k2.sub⟩
  ·exact⟨o,g2,g3⟩
 ·intro b1 b2 i1 i2 o1 o2 hne s1 s2 g1 g2 hw hl
  rcases obj b1 i1 s1 with⟨hb1,t1,l1⟩|⟨hb1,l1,p1,q1,q2,q3⟩
  ·rcases obj b2 i2 s2 with⟨hb2,t2,l2⟩|⟨hb2,l2,p2,r1,r2,r3⟩
   ·rw[over_old h1 hb1]at g1
    rw[over_old h1 hb2]at g2
    exact hr.inj b1 b2 i1 i2 o1 o2 hne t1 t2 g1 g2 hw hl
   ·omega
  ·rcases obj b2 i2 s2 with⟨hb2,t2,l2⟩|⟨hb2,l2,p2,r1,r2,r3⟩
   ·omega
   ·rw[q2]at g1;cases g1
    rw[r2]at g2;cases g2
    exact k1.inj b1 b2 i1 i2 _ _ hne s1 s2 q1 r1 hw hl
 ·intro b i hb hs
  have:=k2.new b i hb hs
  rw[AHeap.unown_n]at this
  rcases obj b i hs with⟨_,hs0,_⟩|⟨_,l,_⟩
  ·rw[hb]at hs0;cases hs0
  ·exact⟨this.1,.inl l⟩
 ·intro b i o' hb ho hw
  obtain⟨o,g1,_⟩:=hr.obj b i hb
  rw[over_old h1 (old b i hb),g1]at ho
  cases ho
  exact⟨_,g1,hw⟩
 ·intro b i o' hb ho hw
  obtain⟨o,g1,_⟩:=hr.obj b i hb
  rw[over_old h1 (old b i hb),g1]at ho
  cases ho
  exact⟨_,g1,hw⟩
 ·intro k hlt _
  exact hk k hlt
theorem ARun.pure(h:ARun P ng f args H.unown v H')(hv:plain1 v=true):ARun P ng f args H v H:=by
 obtain⟨h1,h2⟩:=h.over
 exact h1.gc0 h2 (.inr (NV.plain hv))
end Go.AM

namespace Go.AM.Ky
open Go.Proofs Go.Shelf Go.RowKit Go.AM.Fd
theorem addr_add(b o n:Nat):(Addr.add ⟨b,o,none⟩ n)=⟨b,o+n,none⟩:=by
 unfold Addr.add;split<;>simp_all
theorem sl_v{σ:Sg}{n:Nat}{a:Option Addr}{k:Nat}{v':Value}(hv:VR σ (.slice a n k) v'):∃a' c,v'=.slice a' n c∧n≤c∧(0<n→∃c o,a'=some ⟨c,o,none⟩):=by
 cases hv with
 |nilSl=>exact⟨_,_,rfl,Nat.le_refl _,fun h=>absurd h (by omega)⟩
 | @sl b o n k k' i hb hn hk=>
  refine⟨_,_,rfl,?_,fun _=>⟨_,_,rfl⟩⟩
  rcases hk with h|h
  ·omega
  ·omega
 |sl0 hb=>exact⟨_,_,rfl,Nat.le_refl _,fun h=>absurd h (by omega)⟩
 |slz hx=>exact⟨_,_,rfl,Nat.le_refl _,fun h=>absurd h (by omega)⟩
theorem sl_c{ng:Nat}{σ:Sg}{H:AHeap}{w:World}(hr:HR ng σ H.get w){esz:Nat}(hz:0<esz){v v':Value}{rows:List (List Value)}(h:Sl H esz v rows)(hv:VR σ v v'):
 ∃ad c,v'=.slice ad rows.length c∧rows.length≤c∧∀i r,rows[i]? =some r→∃r',VL σ r r'∧At w w.heap.size ad i esz r':=by
 obtain⟨a',n,k',l',e1,e2,e3,e4,e5,e6⟩:=elemsA_sound hr hv h.el
 have hf:=flat_len h.row
 obtain⟨a,k,rfl⟩:=h.sh
 obtain⟨a2,c,e7,hc,hpos⟩:=sl_v hv
 rw[e7]at e1
 injection e1 with q1 q2 q3
 subst q1
 refine⟨a2,c,e7,hc,fun j r hj=>?_⟩
 obtain⟨hjl,rfl⟩:=List.getElem?_eq_some_iff.1 hj
 obtain⟨B,o,rfl⟩:=hpos (by omega)
 have ef:=flat_at h.row j hjl
 have hm:(j+1)*esz≤rows.length*esz:=Nat.mul_le_mul_right esz hjl
 rw[Nat.add_mul,Nat.one_mul]at hm
 refine⟨(l'.drop (j*esz)).take esz,?_,?_⟩
 ·rw[←ef]
  exact(e3.drop _).take _
 ·rcases e6 with⟨e6,_⟩|⟨ad,e6,hcell⟩
  ·cases e6
  ·injection e6 with e6;subst e6
   refine⟨_,_,rfl,?_,?_⟩
   ·have hx:j*esz<l'.length:=by rw[e4,←q2];omega
    have:=hcell _ _ (List.getElem?_eq_getElem hx)
    rw[addr_add]at this
    exact World.block_lt_of_cell? w _ this
   ·intro t x ht
    have hx:l'[j*esz+t]? =some x:=by
     rw[List.getElem?_take]at ht
     split at ht
     ·rwa [List.getElem?_drop]at ht
     ·cases ht
    have:=hcell _ x hx
    rw[addr_add]at this
    rw[Nat.add_assoc]
    exact this
theorem ci_of{ng:Nat}{σ:Sg}{H:AHeap}{w:World}(hr:HR ng σ H.get w){v v':Value}{l:List Int}(h:Fd.IL H v l)(hv:VR σ v v'):CI w w.heap.size v' l:=by
 obtain⟨ad,c,rfl,h1,h2⟩:=sl_c hr (by omega) h hv
 simp only[List.length_map]at h1 ⊢
 refine⟨ad,c,rfl,h1,fun i x hx=>?_⟩
 obtain⟨r',h3,h4⟩:=h2 i (iRow x) (by rw[List.getElem?_map,hx];rfl)
 cases h3 with
 |cons a b=>
  cases b;cases a
  exact h4
theorem cn_of{ng:Nat}{σ:Sg}{H:AHeap}{w:World}(hr:HR ng σ H.get w){v v':Value}{l:List (Int×Bool)}(h:Fd.NL H v l)(hv:VR σ v v'):CN w w.heap.size v' l:=by
 obtain⟨ad,c,rfl,h1,h2⟩:=sl_c hr (by omega) h hv
 simp only[List.length_map]at h1 ⊢
 refine⟨ad,c,rfl,h1,fun i x hx=>?_⟩
 obtain⟨r',h3,h4⟩:=h2 i (nRow x) (by rw[List.getElem?_map,hx];rfl)
 cases h3 with
 |cons a b=>
  cases b with
  |cons b c=>cases c;cases a;cases b;exact h4
theorem cl_of{ng:Nat}{σ:Sg}{H:AHeap}{w:World}(hr:HR ng σ H.get w){u:V4}{xs:List RV}{L:Ly}(h:LyR H u xs L){args':List Value}(ha:VL σ [.agg u.l.toArray] args'):
 ∃sad pad gad rad sc pc gc rc,args'=[.agg #[.slice sad L.s.length sc,.slice pad L.p.length pc,.slice gad L.g.length gc,.slice rad L.r.length rc]]∧CL w w.heap.size L sad pad gad rad sc pc gc rc:=by
 cases ha with
 |cons a b=>
 cases b
 cases a with
 |agg _ X h1 h2=>
 have hl:=VL.of_arr h1 h2
 obtain⟨X⟩:=X
 obtain⟨us,up,ug,ur⟩:=u
 simp only[V4.l]at hl
 cases hl with
 |cons a1 t=>
 cases t with
 |cons a2 t=>
 cases t with
 |cons a3 t=>
 cases t with
 |cons a4 t=>
 cases t
 obtain⟨sad,sc,rfl,s1,s2⟩:=sl_c hr (by omega) h.s a1
 obtain⟨pad,pc,rfl,p1,p2⟩:=sl_c hr (by omega) h.p a2
 obtain⟨gad,gc,rfl,g1,g2⟩:=sl_c hr (by omega) h.g a3
 obtain⟨rad,rc,rfl,r1,r2⟩:=sl_c hr (by omega) h.r a4
 have hrl:xs.length=L.r.length:=by rw[←h.e,List.length_map]
 simp only[List.length_map,txs]at s1 s2 p1 g1 r1 ⊢
 rw[hrl]at r1 ⊢
 refine⟨_,_,_,_,_,_,_,_,rfl,s1,fun i x hx=>?_,p1,fun i x hx=>?_,g1,fun i x hx=>?_,r1,fun i x hx=>?_⟩
 ·obtain⟨r',h3,h4⟩:=s2 i (tRow x) (by rw[List.getElem?_map,hx];rfl)
  cases h3 with
  |cons a b=>cases b;cases a;exact h4
 ·obtain⟨r',h3,h4⟩:=p2 i (pRow x) (by rw[List.getElem?_map,hx];rfl)
  cases h3 with
  |cons a b=>
   cases b with
   |cons b c=>cases c;cases a;cases b;exact h4
 ·obtain⟨r',h3,h4⟩:=g2 i (pRow x) (by rw[List.getElem?_map,hx];rfl)
  cases h3 with
  |cons a b=>
   cases b with
   |cons b c=>cases c;cases a;cases b;exact h4
 ·rw[←h.e,List.getElem?_map,Option.map_eq_some_iff]at hx
  obtain⟨y,hy,rfl⟩:=hx
  have ok:=h.ok y (List.mem_of_getElem? hy)
  obtain⟨r',h3,h4⟩:=r2 i y.row (by rw[List.getElem?_map,hy];rfl)
  unfold RV.row at h3
  cases h3 with
  |cons b1 t=>
  cases t with
  |cons b2 t=>
  cases t with
  |cons b3 t=>
  cases t with
  |cons b4 t=>
  cases t with
  |cons b5 t=>
  cases t with
  |cons b6 t=>
  cases t
  cases b1;cases b2
  exact⟨_,_,_,_,h4,ci_of hr ok.p b3,cn_of hr ok.q b4,ci_of hr ok.o b5,cn_of hr ok.f b6⟩
theorem Sl.un{H:AHeap}{esz:Nat}{v:Value}{rows:List (List Value)}(h:Sl H esz v rows):Sl H.unown esz v rows:=by
 refine⟨h.sh,h.row,?_⟩
 have h2:=h.el
 unfold elemsA at h2 ⊢
 split at h2
 ·exact h2
 ·rename_i b o n k
  rw[AHeap.unown_get]
  split at h2
  ·rename_i own room z c e hg
   rw[hg]
   exact h2
  ·cases h2
 ·exact h2
 ·cases h2
theorem LyR.un{H:AHeap}{u:V4}{xs:List RV}{L:Ly}(h:LyR H u xs L):LyR H.unown u xs L:=
 ⟨Sl.un h.s,Sl.un h.p,Sl.un h.g,Sl.un h.r,h.e,fun x hx=>have k:=h.ok x hx;⟨Sl.un k.p,Sl.un k.q,Sl.un k.o,Sl.un k.f⟩⟩
def prV(L:Ly):Value:=if mayB L then(if(printT L).length≤16384 then .tuple #[.string (sB (printT L)),.int .i64 0]else .tuple #[.string (sB []),.int .i64 3])else .tuple #[.string (sB []),.int .i64 2]
theorem prV_r(σ:Sg)(L:Ly):VR σ (prV L) (prV L):=by
 have two:∀(s:ByteArray) (n:Int),VR σ (.tuple #[.string s,.int .i64 n]) (.tuple #[.string s,.int .i64 n]):=fun s n=>.tuple _ _ rfl fun i a b=>by
  match i,a with
  |0,_=>exact .string _
  |1,_=>exact .int _ _
 unfold prV
 split
 ·split<;>exact two _ _
 ·exact two _ _
theorem lPrintA{H:AHeap}{u:V4}{xs:List RV}{L:Ly}(h:LyR H u xs L)(hf:LyIn 9223372036854775807 L):∃w H',ARun Tryz.prog 4 17 [.agg u.l.toArray] H w H'∧w=prV L∧H'=H:=by
 have B16:Bodied Tryz.prog 17:=bodied_of (by kernel_rfl)
 have B13:Bodied Tryz.prog 18:=bodied_of (by kernel_rfl)
 refine⟨_,_,⟨⟨_,B16.choose_spec.1⟩,Nat.le_refl _,fun σ w args' hr ha=>?_⟩,rfl,rfl⟩
 obtain⟨sad,pad,gad,rad,sc,pc,gc,rc,e,hC⟩:=cl_of hr h ha
 refine .body B16 ?_
 subst e
 refine(print_c join_c L sad pad gad rad sc pc gc rc w hC (mayB L) (fun W hW=>?_) may_ok).mono ?_
 ·obtain⟨_,_,⟨a1,a2,a3⟩,rfl,rfl⟩:=lMayA (LyR.un h) hf
  have hr2:HR 4 σ H.unown.get W:=hr.unown.other hW.size (fun b i hb=>hW.block _ (hr.lt b i hb))
  refine((a3 σ W _ hr2 ha).calls B13).mono ?_
  rintro e W' ⟨v',σ',rfl,k1,k2,k3⟩
  cases k3
  exact⟨rfl,k2.os,k2.tape,k2.output,k2.size,fun k hk=>k2.keep k hk (fun b i o hb ho hw=>by rw[H.unown_no b o ho]at hw;cases hw)⟩
 ·rintro e w' ⟨rfl,b⟩
  have hr2:HR 4 σ H.get w':=hr.other b.size (fun c i hb=>b.block _ (hr.lt c i hb))
  refine⟨prV L,σ,rfl,hr2,⟨Sg.le.refl σ,(fun b i h h'=>by rw[h]at h';cases h'),fun _ _ o' _ h h'=>⟨o',h,h'⟩,fun _ _ o' _ h h'=>⟨o',h,h'⟩,fun k hk _=>b.block k hk,b.size,Nat.le_refl _,b.os,b.tape,b.output⟩,prV_r σ L⟩
end Go.AM.Ky

namespace Go.AM.Fd
open Nat (reduceAdd reduceEqDiff reduceLT reduceLeDiff reduceMul reduceSub)
open Go.Proofs Go.AM.F Go.AM.Ky
theorem may_names{L:Ly}(h:mayB L=true):∀x∈L.p,x.1.length≤1000000:=by
 unfold mayB at h
 simp only[Bool.and_eq_true,okN,List.all_eq_true]at h
 intro x hx
 have:=rightB_len (h.2.1.1 x.1 (by simp only[namesL,List.mem_append,List.mem_map];exact .inl (.inl (.inr ⟨x,hx,rfl⟩))))
 omega
theorem prV_n(ρ:Nat→Option Nat)(L:Ly):Go.AM.NV ρ (prV L) (prV L):=by
 have two:∀(s:ByteArray) (n:Int),Go.AM.NV ρ (.tuple #[.string s,.int .i64 n]) (.tuple #[.string s,.int .i64 n]):=fun s n=>.tuple _ _ rfl fun i a b=>by
  match i,a with
  |0,_=>exact .string _
  |1,_=>exact .int _ _
 unfold prV
 split
 ·split<;>exact two _ _
 ·exact two _ _
set_option maxHeartbeats 2000000 in
theorem t11{H:AHeap}{u:V4}{xs:List RV}{L:Ly}(h:LyR H u xs L)(hf:LyIn 9223372036854775807 L):∃w H',ARun Tryz.prog 4 11 [.agg u.l.toArray] H w H'∧w=prV L∧H'=H:=by
 suffices h':∃w H',ARun Tryz.prog 4 11 [.agg u.l.toArray] H w H'∧w=prV L∧Keeps H H' by
  obtain⟨_,_,a,rfl,k⟩:=h'
  exact⟨_,_,a.gc0 k (.inr (prV_n _ L)),rfl,rfl⟩
 refine walk2 f11_ok f11_n ?_
 intro Q hq1 hq2
 have os:=Sl.one h.s
 have op:=Sl.one h.p
 have og:=Sl.one h.g
 have or:=Sl.one h.r
 have kv:=vB_k H u
 have hv:=h.keeps kv
 have gv:=vB_g H u
 cases hma:mayB L with
 |false=>
  unfold vB at*
  obtain⟨us,up,ug,ur⟩:=u
  have ll:[us,up,ug,ur].length=4:=rfl
  simp only[V4.l]at*
  simp(disch:=first|assumption|omega)only[f11,W_block,P3,seval,initFr,clsA,os,op,og,or,ll]
  refine callK (rMayA hv hf) ?_
  rintro _ X ⟨rfl,hX⟩
  rw[hX,hma]
  simp(disch:=first|assumption|omega)only[W_block,P3,seval,initFr,clsA]
  exact hq2 _ _ ⟨_,rfl,by simp[prV,hma,tupV],kv⟩
 |true=>
  have ok:=may_ok hma
  have hP:=may_names hma
  have t0:=ok.t
  unfold printT at t0
  simp only[List.length_append]at t0
  refine W_part 3 (PM (.agg u.l.toArray) H u []) (by kernel_rfl) ?_ (fun fr K m=>?_)
  ·intro Q' a _ _
   unfold PM vB at*
   obtain⟨us,up,ug,ur⟩:=u
   have ll:[us,up,ug,ur].length=4:=rfl
   simp only[V4.l]at*
   simp(disch:=first|assumption|omega)only[f11,cpre,W_block,P3,seval,initFr,clsA,os,op,og,or,ll]
   refine callK (rMayA hv hf) ?_
   rintro _ X ⟨rfl,hX⟩
   rw[hX,hma]
   simp(disch:=first|assumption|omega)only[W_block,P3,seval,initFr,clsA]
   exact a _ _ ⟨_,_,_,_,_,_,_,_,_,_,_,rfl,Keeps.refl _⟩
  refine W_part 1 (PM (.agg u.l.toArray) H u ([]++txS L.s)) (by kernel_rfl) (fun Q' a _ _=>pr1 h (by have:=ok.s;omega) (by simp only[List.length_append,List.length_nil];omega) m a) (fun fr K m=>?_)
  refine W_part 1 (PM (.agg u.l.toArray) H u ([]++txS L.s++txP ptW L.s L.p)) (by kernel_rfl) (fun Q' a _ _=>pr2 h (by have:=ok.p.1;omega) ok.p.2 (by simp only[List.length_append,List.length_nil];omega) m a) (fun fr K m=>?_)
  refine W_part 1 (PM (.agg u.l.toArray) H u ([]++txS L.s++txP ptW L.s L.p++txP sgW L.s L.g)) (by kernel_rfl) (fun Q' a _ _=>pr3 h (by have:=ok.g.1;omega) ok.g.2 (by simp only[List.length_append,List.length_nil];omega) m a) (fun fr K m=>?_)
  refine W_part 1 (PM (.agg u.l.toArray) H u ([]++txS L.s++txP ptW L.s L.p++txP sgW L.s L.g++txR L L.r)) (by kernel_rfl) (fun Q' a _ _=>pr4 h ok hP (by simp only[List.length_append,List.length_nil];omega) m a) (fun fr K m=>?_)
  obtain⟨x5,x6,x7,x8,x9,x10,x11,x12,x13,x14,x15,rfl,hkK⟩:=m
  have et:([]++txS L.s++txP ptW L.s L.p++txP sgW L.s L.g++txR L L.r)=printT L:=rfl
  rw[et]
  have hr:prV L=if(printT L).length≤16384 then .tuple #[.string ⟨(printT L).toArray⟩,.int .i64 0]else .tuple #[.string ⟨([]:List UInt8).toArray⟩,.int .i64 3]:=by unfold prV;rw[hma];rfl
  rw[hr]at hq2
  generalize printT L=T at*
  by_cases hlen:T.length≤16384
  ·have h1:¬(16384:Int)<((T.length:Nat):Int):=by omega
   rw[if_pos hlen]at hq2
   simp(disch:=first|assumption|omega)only[f11,cpost,W_block,P3,seval,initFr,clsA,a_lens,h1]
   exact hq2 _ _ ⟨_,rfl,by simp[tupV],kv.trans hkK⟩
  ·have h1:(16384:Int)<((T.length:Nat):Int):=by omega
   rw[if_neg hlen]at hq2
   simp(disch:=first|assumption|omega)only[f11,cpost,W_block,P3,seval,initFr,clsA,a_lens,h1]
   exact hq2 _ _ ⟨_,rfl,by simp[tupV],kv.trans hkK⟩
end Go.AM.Fd
