/- Part of the proof. -/
import Derived.Test.YtfneppahknoaoaaGreatDoorGLK01
import Derived.OpenShut
import Derived.Carry
import Derived.ChangeSame
import Derived.WalkKit
import Derived.ProofKit
import Derived.Laws.Externs
set_option linter.unusedSimpArgs false
set_option linter.unusedVariables false
namespace Go.AM
section
variable {P:Program} {ng:Nat} {H:AHeap} {KF:List Value→AHeap→Prop} {fr tm:List Value} {tr:List TE} {Q:AQ}
def boolIs(v:Value)(b:Bool):Bool:=wantA (some (.c v,b)) [] []
def stR(P:Program)(ng:Nat)(op:AOp Value)(d:D)(r:List AOper)(fr tm:List Value)(H:AHeap)(KF:List Value→AHeap→Prop):Prop:=
 stepA P ng op H fun v H'=>RW P ng r (d.frame v fr) (d.temps v tm) H' KF
def goR(P:Program)(ng:Nat)(o:Option (Value×AHeap))(d:D)(r:List AOper)(fr tm:List Value)(KF:List Value→AHeap→Prop):Prop:=
 ∃v H',o=some (v,H')∧RW P ng r (d.frame v fr) (d.temps v tm) H' KF
def gdR(P:Program)(ng:Nat)(c:Bool)(op:AOp AX)(d:D)(r:List AOper)(fr tm:List Value)(H:AHeap)(KF:List Value→AHeap→Prop):Prop:=
 if c then RW P ng (⟨op,d,none⟩::r) fr tm H KF else RW P ng r (d.frame undef fr) (d.temps undef tm) H KF
abbrev callR(P:Program)(ng:Nat)(f:FuncId)(xs:List Value)(d:D)(r:List AOper)(fr tm:List Value)(H:AHeap)(KF:List Value→AHeap→Prop):Prop:=
 ∃v H',ARun P ng f xs H v H'∧RW P ng r (d.frame v fr) (d.temps v tm) H' KF
theorem r_nil:RW P ng [] fr tm H KF=KF fr H:=_root_.id rfl
theorem r_cons(op:AOp AX)(d:D)(r:List AOper):RW P ng (⟨op,d,none⟩::r) fr tm H KF=stR P ng (op.map (AX.ev fr tm)) d r fr tm H KF:=RW_cons op d r
theorem r_consg(op:AOp AX)(d:D)(x:AX)(b:Bool)(r:List AOper):RW P ng (⟨op,d,some (x,b)⟩::r) fr tm H KF=gdR P ng (wantA (some (x,b)) fr tm) op d r fr tm H KF:=by
 rw[RW_consg];unfold gdR;rw[RW_cons]
theorem gd_true(op:AOp AX)(d:D)(r:List AOper):gdR P ng true op d r fr tm H KF=stR P ng (op.map (AX.ev fr tm)) d r fr tm H KF:=by unfold gdR;rw[if_pos rfl];exact RW_cons op d r
theorem gd_false(op:AOp AX)(d:D)(r:List AOper):gdR P ng false op d r fr tm H KF=RW P ng r (d.frame undef fr) (d.temps undef tm) H KF:=by unfold gdR;rw[if_neg (by simp)]
theorem go_some(v:Value)(d:D)(r:List AOper):goR P ng (some (v,H)) d r fr tm KF=RW P ng r (d.frame v fr) (d.temps v tm) H KF:=
 propext ⟨fun⟨v,H',e,k⟩=>by cases e;exact k,fun k=>⟨_,_,rfl,k⟩⟩
theorem st_call(f:FuncId)(xs:List Value)(d:D)(r:List AOper):stR P ng (.callf f xs) d r fr tm H KF=callR P ng f xs d r fr tm H KF:=_root_.id rfl
theorem st_callv(g:FuncId)(first cap:Array Value)(xs:List Value)(d:D)(r:List AOper):stR P ng (.callv (.func (.func g) first cap) xs) d r fr tm H KF=callR P ng g (first.toList++xs++cap.toList) d r fr tm H KF:=_root_.id rfl
theorem at_n(K:List Value→AHeap→Prop):Q.andThen K .normal fr H=K fr H:=_root_.id rfl
theorem at_e(K:List Value→AHeap→Prop)(i:Nat):Q.andThen K (.exit i) fr H=Q (.exit i) fr H:=_root_.id rfl
theorem at_r(K:List Value→AHeap→Prop):Q.andThen K .ret fr H=Q .ret fr H:=_root_.id rfl
theorem ib_n(i:Nat):Q.inBlock i .normal fr H=Q .normal fr H:=_root_.id rfl
theorem ib_r(i:Nat):Q.inBlock i .ret fr H=Q .ret fr H:=_root_.id rfl
theorem ib_e(i:Nat):Q.inBlock i (.exit i) fr H=Q .normal fr H:=by simp[AQ.inBlock]
theorem ib_x{i j:Nat}(h:¬j=i):Q.inBlock i (.exit j) fr H=Q (.exit j) fr H:=by simp[AQ.inBlock,h]
theorem want_x(x:AX)(b:Bool):wantA (some (x,b)) fr tm=boolIs (x.ev fr tm) b:=by
 simp only[boolIs,wantA,AX.ev]
theorem bi_tt:boolIs (.bool true) true=true:=by simp[boolIs,wantA,AX.ev]
theorem bi_tf:boolIs (.bool true) false=false:=by simp[boolIs,wantA,AX.ev]
theorem bi_ft:boolIs (.bool false) true=false:=by simp[boolIs,wantA,AX.ev]
theorem bi_ff:boolIs (.bool false) false=true:=by simp[boolIs,wantA,AX.ev]
theorem pk_t(a b:Value):asem (.pick (.bool true) a b) H=some (a,H):=_root_.id rfl
theorem pk_f(a b:Value):asem (.pick (.bool false) a b) H=some (b,H):=_root_.id rfl
theorem walk2{f:Nat}{sl:List Nat}{af:AFunc}(hc:compF P ng sl f=some af){args:List Value}{R:Value→AHeap→Prop}(hargs:argsOK P f args.length=true)
 (h:∀Q:AQ,(∀fr H2,(∃v,resO af.res fr H2=some v∧R v H2)→Q .normal fr H2)→(∀fr H2,(∃v,resO af.res fr H2=some v∧R v H2)→Q .ret fr H2)→W P ng af.body Q (initFr af.sl args) H):∃v H',ARun P ng f args H v H'∧R v H':=
 walk hc hargs (h _ (fun _ _ h=>h) (fun _ _ h=>h))
def stD(P:Program)(ng:Nat)(op:AOp Value)(d:D)(un:List Nat)(r:List (AOper×List Nat))(fr tm:List Value)(H:AHeap)(tr:List TE)(KF:List Value→AHeap→Prop):Prop:=
 stepA P ng op H fun v H'=>oblA (clsA op) (touchA op H) H H' tr un∧RD P ng r (d.frame v fr) (d.temps v tm) H' (tr++[⟨clsA op,touchA op H,H,H'⟩]) KF
def goD(P:Program)(ng:Nat)(op:AOp Value)(o:Option (Value×AHeap))(d:D)(un:List Nat)(r:List (AOper×List Nat))(fr tm:List Value)(H:AHeap)(tr:List TE)(KF:List Value→AHeap→Prop):Prop:=
 ∃v H',o=some (v,H')∧oblA (clsA op) (touchA op H) H H' tr un∧RD P ng r (d.frame v fr) (d.temps v tm) H' (tr++[⟨clsA op,touchA op H,H,H'⟩]) KF
def gdD(P:Program)(ng:Nat)(c:Bool)(op:AOp AX)(d:D)(un:List Nat)(r:List (AOper×List Nat))(fr tm:List Value)(H:AHeap)(tr:List TE)(KF:List Value→AHeap→Prop):Prop:=
 if c then stD P ng (op.map (AX.ev fr tm)) d un r fr tm H tr KF else RD P ng r (d.frame undef fr) (d.temps undef tm) H (tr++[⟨9,[],H,H⟩]) KF
abbrev callD(P:Program)(ng:Nat)(f:FuncId)(xs:List Value)(d:D)(un:List Nat)(r:List (AOper×List Nat))(fr tm:List Value)(H:AHeap)(tr:List TE)(KF:List Value→AHeap→Prop):Prop:=
 ∃v H',ARun P ng f xs H v H'∧oblA 3 [] H H' tr un∧RD P ng r (d.frame v fr) (d.temps v tm) H' (tr++[⟨3,[],H,H'⟩]) KF
theorem d_nil:RD P ng [] fr tm H tr KF=KF fr H:=_root_.id rfl
theorem cls_ev(op:AOp AX):clsA (op.map (AX.ev fr tm))=clsA op:=cls_map _ _
theorem d_cons(op:AOp AX)(d:D)(un:List Nat)(r:List (AOper×List Nat)):RD P ng ((⟨op,d,none⟩,un)::r) fr tm H tr KF=stD P ng (op.map (AX.ev fr tm)) d un r fr tm H tr KF:=by
 rw[RD_cons];unfold stD;rw[cls_ev]
theorem d_consg(op:AOp AX)(d:D)(x:AX)(b:Bool)(un:List Nat)(r:List (AOper×List Nat)):RD P ng ((⟨op,d,some (x,b)⟩,un)::r) fr tm H tr KF=gdD P ng (wantA (some (x,b)) fr tm) op d un r fr tm H tr KF:=by
 rw[RD_consg];unfold gdD stD;rw[cls_ev]
theorem gdD_true(op:AOp AX)(d:D)(un:List Nat)(r:List (AOper×List Nat)):gdD P ng true op d un r fr tm H tr KF=stD P ng (op.map (AX.ev fr tm)) d un r fr tm H tr KF:=by unfold gdD;rw[if_pos rfl]
theorem gdD_false(op:AOp AX)(d:D)(un:List Nat)(r:List (AOper×List Nat)):gdD P ng false op d un r fr tm H tr KF=RD P ng r (d.frame undef fr) (d.temps undef tm) H (tr++[⟨9,[],H,H⟩]) KF:=by unfold gdD;rw[if_neg (by simp)]
theorem goD_some{H':AHeap}(op:AOp Value)(v:Value)(d:D)(r:List (AOper×List Nat)):goD P ng op (some (v,H')) d [] r fr tm H tr KF=RD P ng r (d.frame v fr) (d.temps v tm) H' (tr++[⟨clsA op,touchA op H,H,H'⟩]) KF:=by
 exact propext ⟨fun⟨v,H',e,_,k⟩=>by cases e;exact k,fun k=>⟨_,_,rfl,trivial,k⟩⟩
theorem goD_some'{H':AHeap}(op:AOp Value)(v:Value)(d:D)(u:Nat)(un:List Nat)(r:List (AOper×List Nat)):goD P ng op (some (v,H')) d (u::un) r fr tm H tr KF=
 (oblA (clsA op) (touchA op H) H H' tr (u::un)∧RD P ng r (d.frame v fr) (d.temps v tm) H' (tr++[⟨clsA op,touchA op H,H,H'⟩]) KF):=by
 exact propext ⟨fun⟨v,H',e,k⟩=>by cases e;exact k,fun k=>⟨_,_,rfl,k⟩⟩
theorem stD_call(f:FuncId)(xs:List Value)(d:D)(un:List Nat)(r:List (AOper×List Nat)):stD P ng (.callf f xs) d un r fr tm H tr KF=callD P ng f xs d un r fr tm H tr KF:=_root_.id rfl
def condW(P:Program)(ng:Nat)(v:Value)(t e:ACode)(Q:AQ)(fr:List Value)(H:AHeap):Prop:=match v with
 | .bool b=>if b then W P ng t Q fr H else W P ng e Q fr H
 |_=>False
theorem w_cond(c:AX)(t e:ACode):W P ng (.cond c t e) Q fr H=condW P ng (c.ev fr []) t e Q fr H:=_root_.id rfl
theorem cond_true(t e:ACode):condW P ng (.bool true) t e Q fr H=W P ng t Q fr H:=by simp[condW]
theorem cond_false(t e:ACode):condW P ng (.bool false) t e Q fr H=W P ng e Q fr H:=by simp[condW]
section
variable (d:D) (r:List AOper) (un:List Nat) (rd:List (AOper×List Nat))
theorem st_of{op:AOp Value}(h1:∀f xs,op≠.callf f xs)(h2:∀f xs,op≠.callv f xs)(h3:∀nm x xs,op≠.inv nm x xs):stR P ng op d r fr tm H KF=goR P ng (asem op H) d r fr tm KF:=by
 unfold stR goR
 cases op<;>first|rfl|exact absurd rfl (h1 _ _)|exact absurd rfl (h2 _ _)|exact absurd rfl (h3 _ _ _)
theorem stD_of{op:AOp Value}(h1:∀f xs,op≠.callf f xs)(h2:∀f xs,op≠.callv f xs)(h3:∀nm x xs,op≠.inv nm x xs):stD P ng op d un rd fr tm H tr KF=goD P ng op (asem op H) d un rd fr tm H tr KF:=by
 unfold stD goD
 cases op<;>first|rfl|exact absurd rfl (h1 _ _)|exact absurd rfl (h2 _ _)|exact absurd rfl (h3 _ _ _)
theorem st_mov(x:Value):stR P ng (.mov x) d r fr tm H KF=RW P ng r (d.frame x fr) (d.temps x tm) H KF:=by rw[st_of d r (by simp) (by simp) (by simp)];exact go_some x d r
theorem st_pick(c a b:Value):stR P ng (.pick c a b) d r fr tm H KF=goR P ng (asem (.pick c a b) H) d r fr tm KF:=st_of d r (by simp) (by simp) (by simp)
theorem sd_pick(c a b:Value):stD P ng (.pick c a b) d un rd fr tm H tr KF=goD P ng (.pick c a b) (asem (.pick c a b) H) d un rd fr tm H tr KF:=stD_of d un rd (by simp) (by simp) (by simp)
theorem st_new(e s:Nat)(z:List Value):stR P ng (.new e s z) d r fr tm H KF=goR P ng (asem (.new e s z) H) d r fr tm KF:=st_of d r (by simp) (by simp) (by simp)
theorem sd_new(e s:Nat)(z:List Value):stD P ng (.new e s z) d un rd fr tm H tr KF=goD P ng (.new e s z) (asem (.new e s z) H) d un rd fr tm H tr KF:=stD_of d un rd (by simp) (by simp) (by simp)
theorem st_box(e s:Nat)(x:Value):stR P ng (.box e s x) d r fr tm H KF=goR P ng (asem (.box e s x) H) d r fr tm KF:=st_of d r (by simp) (by simp) (by simp)
theorem sd_box(e s:Nat)(x:Value):stD P ng (.box e s x) d un rd fr tm H tr KF=goD P ng (.box e s x) (asem (.box e s x) H) d un rd fr tm H tr KF:=stD_of d un rd (by simp) (by simp) (by simp)
theorem st_build(z:List Value)(ps:List (Nat×Nat×Value)):stR P ng (.build z ps) d r fr tm H KF=goR P ng (asem (.build z ps) H) d r fr tm KF:=st_of d r (by simp) (by simp) (by simp)
theorem sd_build(z:List Value)(ps:List (Nat×Nat×Value)):stD P ng (.build z ps) d un rd fr tm H tr KF=goD P ng (.build z ps) (asem (.build z ps) H) d un rd fr tm H tr KF:=stD_of d un rd (by simp) (by simp) (by simp)
theorem st_bslice(e s n:Nat)(z:List Value)(ps:List (Nat×Nat×Value)):stR P ng (.bslice e s n z ps) d r fr tm H KF=goR P ng (asem (.bslice e s n z ps) H) d r fr tm KF:=st_of d r (by simp) (by simp) (by simp)
theorem sd_bslice(e s n:Nat)(z:List Value)(ps:List (Nat×Nat×Value)):stD P ng (.bslice e s n z ps) d un rd fr tm H tr KF=goD P ng (.bslice e s n z ps) (asem (.bslice e s n z ps) H) d un rd fr tm H tr KF:=stD_of d un rd (by simp) (by simp) (by simp)
theorem st_load1(x:Value):stR P ng (.load1 x) d r fr tm H KF=goR P ng (asem (.load1 x) H) d r fr tm KF:=st_of d r (by simp) (by simp) (by simp)
theorem sd_load1(x:Value):stD P ng (.load1 x) d un rd fr tm H tr KF=goD P ng (.load1 x) (asem (.load1 x) H) d un rd fr tm H tr KF:=stD_of d un rd (by simp) (by simp) (by simp)
theorem st_loadn(n:Nat)(x:Value):stR P ng (.loadn n x) d r fr tm H KF=goR P ng (asem (.loadn n x) H) d r fr tm KF:=st_of d r (by simp) (by simp) (by simp)
theorem sd_loadn(n:Nat)(x:Value):stD P ng (.loadn n x) d un rd fr tm H tr KF=goD P ng (.loadn n x) (asem (.loadn n x) H) d un rd fr tm H tr KF:=stD_of d un rd (by simp) (by simp) (by simp)
theorem st_store1(a x:Value):stR P ng (.store1 a x) d r fr tm H KF=goR P ng (asem (.store1 a x) H) d r fr tm KF:=st_of d r (by simp) (by simp) (by simp)
theorem sd_store1(a x:Value):stD P ng (.store1 a x) d un rd fr tm H tr KF=goD P ng (.store1 a x) (asem (.store1 a x) H) d un rd fr tm H tr KF:=stD_of d un rd (by simp) (by simp) (by simp)
theorem st_storen(n:Nat)(a x:Value):stR P ng (.storen n a x) d r fr tm H KF=goR P ng (asem (.storen n a x) H) d r fr tm KF:=st_of d r (by simp) (by simp) (by simp)
theorem sd_storen(n:Nat)(a x:Value):stD P ng (.storen n a x) d un rd fr tm H tr KF=goD P ng (.storen n a x) (asem (.storen n a x) H) d un rd fr tm H tr KF:=stD_of d un rd (by simp) (by simp) (by simp)
theorem st_nilck(x:Value):stR P ng (.nilck x) d r fr tm H KF=goR P ng (asem (.nilck x) H) d r fr tm KF:=st_of d r (by simp) (by simp) (by simp)
theorem sd_nilck(x:Value):stD P ng (.nilck x) d un rd fr tm H tr KF=goD P ng (.nilck x) (asem (.nilck x) H) d un rd fr tm H tr KF:=stD_of d un rd (by simp) (by simp) (by simp)
theorem st_bin(o:BinOp)(x y:Value):stR P ng (.bin o x y) d r fr tm H KF=goR P ng (asem (.bin o x y) H) d r fr tm KF:=st_of d r (by simp) (by simp) (by simp)
theorem sd_bin(o:BinOp)(x y:Value):stD P ng (.bin o x y) d un rd fr tm H tr KF=goD P ng (.bin o x y) (asem (.bin o x y) H) d un rd fr tm H tr KF:=stD_of d un rd (by simp) (by simp) (by simp)
theorem st_eqv(k:Nat)(n:Bool)(x y:Value):stR P ng (.eqv k n x y) d r fr tm H KF=goR P ng (asem (.eqv k n x y) H) d r fr tm KF:=st_of d r (by simp) (by simp) (by simp)
theorem sd_eqv(k:Nat)(n:Bool)(x y:Value):stD P ng (.eqv k n x y) d un rd fr tm H tr KF=goD P ng (.eqv k n x y) (asem (.eqv k n x y) H) d un rd fr tm H tr KF:=stD_of d un rd (by simp) (by simp) (by simp)
theorem st_un(o:UnOp)(x:Value):stR P ng (.un o x) d r fr tm H KF=goR P ng (asem (.un o x) H) d r fr tm KF:=st_of d r (by simp) (by simp) (by simp)
theorem sd_un(o:UnOp)(x:Value):stD P ng (.un o x) d un rd fr tm H tr KF=goD P ng (.un o x) (asem (.un o x) H) d un rd fr tm H tr KF:=stD_of d un rd (by simp) (by simp) (by simp)
theorem st_i2i(k:IntKind)(x:Value):stR P ng (.i2i k x) d r fr tm H KF=goR P ng (asem (.i2i k x) H) d r fr tm KF:=st_of d r (by simp) (by simp) (by simp)
theorem sd_i2i(k:IntKind)(x:Value):stD P ng (.i2i k x) d un rd fr tm H tr KF=goD P ng (.i2i k x) (asem (.i2i k x) H) d un rd fr tm H tr KF:=stD_of d un rd (by simp) (by simp) (by simp)
theorem st_s2s(x:Value):stR P ng (.s2s x) d r fr tm H KF=goR P ng (asem (.s2s x) H) d r fr tm KF:=st_of d r (by simp) (by simp) (by simp)
theorem sd_s2s(x:Value):stD P ng (.s2s x) d un rd fr tm H tr KF=goD P ng (.s2s x) (asem (.s2s x) H) d un rd fr tm H tr KF:=stD_of d un rd (by simp) (by simp) (by simp)
theorem st_s2b(e:Nat)(x:Value):stR P ng (.s2b e x) d r fr tm H KF=goR P ng (asem (.s2b e x) H) d r fr tm KF:=st_of d r (by simp) (by simp) (by simp)
theorem sd_s2b(e:Nat)(x:Value):stD P ng (.s2b e x) d un rd fr tm H tr KF=goD P ng (.s2b e x) (asem (.s2b e x) H) d un rd fr tm H tr KF:=stD_of d un rd (by simp) (by simp) (by simp)
theorem st_b2s(x:Value):stR P ng (.b2s x) d r fr tm H KF=goR P ng (asem (.b2s x) H) d r fr tm KF:=st_of d r (by simp) (by simp) (by simp)
theorem sd_b2s(x:Value):stD P ng (.b2s x) d un rd fr tm H tr KF=goD P ng (.b2s x) (asem (.b2s x) H) d un rd fr tm H tr KF:=stD_of d un rd (by simp) (by simp) (by simp)
theorem st_iface(t:TypeId)(x:Value):stR P ng (.iface t x) d r fr tm H KF=goR P ng (asem (.iface t x) H) d r fr tm KF:=st_of d r (by simp) (by simp) (by simp)
theorem sd_iface(t:TypeId)(x:Value):stD P ng (.iface t x) d un rd fr tm H tr KF=goD P ng (.iface t x) (asem (.iface t x) H) d un rd fr tm H tr KF:=stD_of d un rd (by simp) (by simp) (by simp)
theorem st_mkfn(f:Fn)(xs ys:List Value):stR P ng (.mkfn f xs ys) d r fr tm H KF=goR P ng (asem (.mkfn f xs ys) H) d r fr tm KF:=st_of d r (by simp) (by simp) (by simp)
theorem sd_mkfn(f:Fn)(xs ys:List Value):stD P ng (.mkfn f xs ys) d un rd fr tm H tr KF=goD P ng (.mkfn f xs ys) (asem (.mkfn f xs ys) H) d un rd fr tm H tr KF:=stD_of d un rd (by simp) (by simp) (by simp)
theorem st_mksl(e s b:Nat)(z:List Value)(l c:Value):stR P ng (.mksl e s b z l c) d r fr tm H KF=goR P ng (asem (.mksl e s b z l c) H) d r fr tm KF:=st_of d r (by simp) (by simp) (by simp)
theorem sd_mksl(e s b:Nat)(z:List Value)(l c:Value):stD P ng (.mksl e s b z l c) d un rd fr tm H tr KF=goD P ng (.mksl e s b z l c) (asem (.mksl e s b z l c) H) d un rd fr tm H tr KF:=stD_of d un rd (by simp) (by simp) (by simp)
theorem st_slstr(x:Value)(lo hi:Option Value):stR P ng (.slstr x lo hi) d r fr tm H KF=goR P ng (asem (.slstr x lo hi) H) d r fr tm KF:=st_of d r (by simp) (by simp) (by simp)
theorem sd_slstr(x:Value)(lo hi:Option Value):stD P ng (.slstr x lo hi) d un rd fr tm H tr KF=goD P ng (.slstr x lo hi) (asem (.slstr x lo hi) H) d un rd fr tm H tr KF:=stD_of d un rd (by simp) (by simp) (by simp)
theorem st_slsl(s:Nat)(x:Value)(lo hi mx:Option Value):stR P ng (.slsl s x lo hi mx) d r fr tm H KF=goR P ng (asem (.slsl s x lo hi mx) H) d r fr tm KF:=st_of d r (by simp) (by simp) (by simp)
theorem sd_slsl(s:Nat)(x:Value)(lo hi mx:Option Value):stD P ng (.slsl s x lo hi mx) d un rd fr tm H tr KF=goD P ng (.slsl s x lo hi mx) (asem (.slsl s x lo hi mx) H) d un rd fr tm H tr KF:=stD_of d un rd (by simp) (by simp) (by simp)
theorem st_faddr(o:Nat)(x:Value):stR P ng (.faddr o x) d r fr tm H KF=goR P ng (asem (.faddr o x) H) d r fr tm KF:=st_of d r (by simp) (by simp) (by simp)
theorem sd_faddr(o:Nat)(x:Value):stD P ng (.faddr o x) d un rd fr tm H tr KF=goD P ng (.faddr o x) (asem (.faddr o x) H) d un rd fr tm H tr KF:=stD_of d un rd (by simp) (by simp) (by simp)
theorem st_fld1(o:Nat)(x:Value):stR P ng (.fld1 o x) d r fr tm H KF=goR P ng (asem (.fld1 o x) H) d r fr tm KF:=st_of d r (by simp) (by simp) (by simp)
theorem sd_fld1(o:Nat)(x:Value):stD P ng (.fld1 o x) d un rd fr tm H tr KF=goD P ng (.fld1 o x) (asem (.fld1 o x) H) d un rd fr tm H tr KF:=stD_of d un rd (by simp) (by simp) (by simp)
theorem st_fldn(o n:Nat)(x:Value):stR P ng (.fldn o n x) d r fr tm H KF=goR P ng (asem (.fldn o n x) H) d r fr tm KF:=st_of d r (by simp) (by simp) (by simp)
theorem sd_fldn(o n:Nat)(x:Value):stD P ng (.fldn o n x) d un rd fr tm H tr KF=goD P ng (.fldn o n x) (asem (.fldn o n x) H) d un rd fr tm H tr KF:=stD_of d un rd (by simp) (by simp) (by simp)
theorem st_iaddr(s:Nat)(x i:Value):stR P ng (.iaddr s x i) d r fr tm H KF=goR P ng (asem (.iaddr s x i) H) d r fr tm KF:=st_of d r (by simp) (by simp) (by simp)
theorem sd_iaddr(s:Nat)(x i:Value):stD P ng (.iaddr s x i) d un rd fr tm H tr KF=goD P ng (.iaddr s x i) (asem (.iaddr s x i) H) d un rd fr tm H tr KF:=stD_of d un rd (by simp) (by simp) (by simp)
theorem st_idxs(x i:Value):stR P ng (.idxs x i) d r fr tm H KF=goR P ng (asem (.idxs x i) H) d r fr tm KF:=st_of d r (by simp) (by simp) (by simp)
theorem sd_idxs(x i:Value):stD P ng (.idxs x i) d un rd fr tm H tr KF=goD P ng (.idxs x i) (asem (.idxs x i) H) d un rd fr tm H tr KF:=stD_of d un rd (by simp) (by simp) (by simp)
theorem st_assert(t:TypeId)(z:Value)(ok:Bool)(x:Value):stR P ng (.assert t z ok x) d r fr tm H KF=goR P ng (asem (.assert t z ok x) H) d r fr tm KF:=st_of d r (by simp) (by simp) (by simp)
theorem sd_assert(t:TypeId)(z:Value)(ok:Bool)(x:Value):stD P ng (.assert t z ok x) d un rd fr tm H tr KF=goD P ng (.assert t z ok x) (asem (.assert t z ok x) H) d un rd fr tm H tr KF:=stD_of d un rd (by simp) (by simp) (by simp)
theorem st_extract(x:Value)(i:Nat):stR P ng (.extract x i) d r fr tm H KF=goR P ng (asem (.extract x i) H) d r fr tm KF:=st_of d r (by simp) (by simp) (by simp)
theorem sd_extract(x:Value)(i:Nat):stD P ng (.extract x i) d un rd fr tm H tr KF=goD P ng (.extract x i) (asem (.extract x i) H) d un rd fr tm H tr KF:=stD_of d un rd (by simp) (by simp) (by simp)
theorem st_len(s:Bool)(x:Value):stR P ng (.len s x) d r fr tm H KF=goR P ng (asem (.len s x) H) d r fr tm KF:=st_of d r (by simp) (by simp) (by simp)
theorem sd_len(s:Bool)(x:Value):stD P ng (.len s x) d un rd fr tm H tr KF=goD P ng (.len s x) (asem (.len s x) H) d un rd fr tm H tr KF:=stD_of d un rd (by simp) (by simp) (by simp)
theorem st_mark(x:Value):stR P ng (.mark x) d r fr tm H KF=goR P ng (asem (.mark x) H) d r fr tm KF:=st_of d r (by simp) (by simp) (by simp)
theorem sd_mark(x:Value):stD P ng (.mark x) d un rd fr tm H tr KF=goD P ng (.mark x) (asem (.mark x) H) d un rd fr tm H tr KF:=stD_of d un rd (by simp) (by simp) (by simp)
theorem sd_mov(x:Value):stD P ng (.mov x) d un rd fr tm H tr KF=goD P ng (.mov x) (asem (.mov x) H) d un rd fr tm H tr KF:=stD_of d un rd (by simp) (by simp) (by simp)
theorem sd_app(e s b:Nat)(x y:Value):stD P ng (.app e s b x y) d un rd fr tm H tr KF=goD P ng (.app e s b x y) (asem (.app e s b x y) H) d un rd fr tm H tr KF:=stD_of d un rd (by simp) (by simp) (by simp)
end
theorem a_mov(x:Value):asem (.mov x) H=some (x,H):=_root_.id rfl
theorem a_pick(t:Bool)(a b:Value):asem (.pick (.bool t) a b) H=some (if t then a else b,H):=_root_.id rfl
theorem a_new(e esz:Nat)(z:List Value):asem (.new e esz z) H=if z.all Value.oneCell' then some (ptr H.n 0,H.alloc (.cells true false esz z e))else none:=_root_.id rfl
theorem a_box(e esz:Nat)(x:Value):asem (.box e esz x) H=if x.cells.toList.all Value.oneCell' then some (ptr H.n 0,H.alloc (.cells true false esz x.cells.toList e))else none:=_root_.id rfl
theorem a_build(z:List Value)(ps:List (Nat×Nat×Value)):asem (.build z ps) H=(fillA z ps).map fun c=>(.agg c.toArray,H):=_root_.id rfl
theorem a_load1(b o:Nat):asem (.load1 (ptr b o)) H=(cellA H b o).map fun v=>(v,H):=_root_.id rfl
theorem a_loadn(n b o:Nat):asem (.loadn n (ptr b o)) H=(rangeA H b o n).map fun c=>(.agg c.toArray,H):=_root_.id rfl
theorem a_nilck(b o:Nat):asem (.nilck (ptr b o)) H=some (ptr b o,H):=_root_.id rfl
theorem a_bin(op:BinOp)(x y:Value):asem (.bin op x y) H=(binA op x y).map fun v=>(v,H):=_root_.id rfl
theorem a_eqv(k:Nat)(neg:Bool)(x y:Value):asem (.eqv k neg x y) H=(eqA k x y).map fun b=>(.bool (if neg then !b else b),H):=_root_.id rfl
theorem a_not(b:Bool):asem (.un .not (.bool b)) H=some (.bool (!b),H):=_root_.id rfl
theorem a_neg(k:IntKind)(n:Int):asem (.un .neg (.int k n)) H=some (.int k (k.wrap (0-n)),H):=_root_.id rfl
theorem a_i2i(k k':IntKind)(n:Int):asem (.i2i k (.int k' n)) H=some (.int k (k.wrap n),H):=_root_.id rfl
theorem a_s2s(s:ByteArray):asem (.s2s (.string s)) H=some (.string s,H):=_root_.id rfl
theorem a_s2b(e:Nat)(l:List UInt8):asem (.s2b e (.string ⟨l.toArray⟩)) H=some (slc H.n 0 l.length l.length,H.alloc (.cells true true 1 (cellsOf l) e)):=by
 simp only[asem,cellsOf]
 simp[ByteArray.size]
theorem a_iface(t:TypeId)(x:Value):asem (.iface t x) H=some (.iface t x,H):=_root_.id rfl
theorem a_mkfn(fn:Fn)(xs ys:List Value):asem (.mkfn fn xs ys) H=some (.func fn xs.toArray ys.toArray,H):=_root_.id rfl
theorem a_faddr(off b o:Nat):asem (.faddr off (ptr b o)) H=some (ptr b (o+off),H):=_root_.id rfl
theorem a_fld1(off:Nat)(cs:Array Value):asem (.fld1 off (.agg cs)) H=cs.toList[off]?.map fun v=>(v,H):=_root_.id rfl
theorem a_iaddr(esz b o n k:Nat)(kd:IntKind)(i:Int):asem (.iaddr esz (slc b o n k) (.int kd i)) H=if 0≤i∧i<(n:Int)then some (ptr b (o+i.toNat*esz),H)else none:=_root_.id rfl
theorem a_assert(t u:TypeId)(z v:Value)(ok:Bool):asem (.assert t z ok (.iface u v)) H=if u=t then some (if ok then .tuple #[v,.bool true]else v,H)else if ok then some (.tuple #[z,.bool false],H)else none:=_root_.id rfl
theorem a_extract(vs:Array Value)(i:Nat):asem (.extract (.tuple vs) i) H=vs.toList[i]?.map fun v=>(v,H):=_root_.id rfl
theorem a_len(a:Option Addr)(n k:Nat):asem (.len false (.slice a n k)) H=some (.int .i64 n,H):=_root_.id rfl
theorem a_lenc(b o n k:Nat):asem (.len false (slc b o n k)) H=some (.int .i64 n,H):=_root_.id rfl
theorem a_lens(l:List UInt8):asem (.len true (.string ⟨l.toArray⟩)) H=some (.int .i64 l.length,H):=by
 simp[asem,lenA,ByteArray.size]
theorem a_slsl_nil{esz:Nat}{lo hi mx:Option Value}(h:∃m hh l,bndA mx 0 0=some m∧bndA hi 0 m=some hh∧bndA lo 0 hh=some l):asem (.slsl esz (.slice none 0 0) lo hi mx) H=some (.slice none 0 0,H):=by
 obtain⟨m,hh,l,h1,h2,h3⟩:=h
 simp only[asem,h1,h2,h3]
theorem a_slsl{esz b o n k m hh l e:Nat}{own room:Bool}{c:List Value}{lo hi mx:Option Value}(hb:H.get b=some (.cells own room esz c e))(h1:bndA mx k k=some m)(h2:bndA hi n m=some hh)(h3:bndA lo 0 hh=some l):
 asem (.slsl esz (slc b o n k) lo hi mx) H=some (slc b (o+l*esz) (hh-l) (m-l),H):=by
 simp only[asem,slc,h1,h2,h3,hb,true_or,if_true]
theorem one_int(k:IntKind)(n:Int):(Value.int k n).oneCell'=true:=_root_.id rfl
theorem one_bool(b:Bool):(Value.bool b).oneCell'=true:=_root_.id rfl
theorem one_str(b:ByteArray):(Value.string b).oneCell'=true:=_root_.id rfl
theorem one_sl(a:Option Addr)(n k:Nat):(Value.slice a n k).oneCell'=true:=_root_.id rfl
theorem one_slc(b o n k:Nat):(slc b o n k).oneCell'=true:=_root_.id rfl
theorem one_ptr(b o:Nat):(ptr b o).oneCell'=true:=_root_.id rfl
theorem one_pn(a:Option Addr):(Value.pointer a).oneCell'=true:=_root_.id rfl
theorem one_if(t:TypeId)(v:Value):(Value.iface t v).oneCell'=true:=_root_.id rfl
theorem one_map(t:Option Nat):(Value.map t).oneCell'=true:=_root_.id rfl
def one1(x:Value):Prop:=x.oneCell'=true
theorem o_int(k:IntKind)(n:Int):one1 (Value.int k n)=True:=by simp[one1,one_int]
theorem o_bool(b:Bool):one1 (Value.bool b)=True:=by simp[one1,one_bool]
theorem o_str(b:ByteArray):one1 (Value.string b)=True:=by simp[one1,one_str]
theorem o_sl(a:Option Addr)(n k:Nat):one1 (Value.slice a n k)=True:=by simp[one1,one_sl]
theorem o_slc(b o n k:Nat):one1 (slc b o n k)=True:=by simp[one1,one_slc]
theorem o_ptr(b o:Nat):one1 (ptr b o)=True:=by simp[one1,one_ptr]
theorem o_pn(a:Option Addr):one1 (Value.pointer a)=True:=by simp[one1,one_pn]
theorem o_if(t:TypeId)(v:Value):one1 (Value.iface t v)=True:=by simp[one1,one_if]
theorem o_map(t:Option Nat):one1 (Value.map t)=True:=by simp[one1,one_map]
theorem appR{d:D}{r:List AOper}{e esz bytes:Nat}{s x:Value}{n m:Nat}{c news:List Value}(h:AP H e esz s n c)(hx:∃a k,x=.slice a m k)(h1:elemsA H esz x=some news)(hm:news.length=m*esz)
 (hs:(n+m)*bytes≤140737488355328∧n+m≤140737488355328)
 (hk:∀v' H',AP H' e esz v' (n+m) (c++news)→Chg (blkL s) H H'→(blk v'=blk s∨blk v'=some H.n)→RW P ng r (d.frame v' fr) (d.temps v' tm) H' KF):stR P ng (.app e esz bytes s x) d r fr tm H KF:=
 s_appAP h hx h1 hm hs hk
end
end Go.AM

namespace Go.AM
inductive HT
 |leaf
 |node (v:AO) (l r:HT)
def HT.look(t:HT):Nat→Option AO:=match t with
 | .leaf=>fun _=>none
 | .node v l r=>fun k=>match k with
  |0=>some v
  |m+1=>if m % 2=0 then l.look (m / 2)else r.look (m / 2)
noncomputable def HT.getK(t:HT):Nat→(AO→Bool)→Bool:=
 HT.rec (motive:=fun _=>Nat→(AO→Bool)→Bool) (fun _ _=>false)
  (fun v _ _ gl gr k K=>Nat.rec (motive:=fun _=>Bool) (K v) (fun m _=>Nat.rec (motive:=fun _=>Bool) (gl (Nat.div m 2) K) (fun _ _=>gr (Nat.div m 2) K) (Nat.mod m 2)) k) t
noncomputable def HT.setK(t:HT):Nat→AO→(HT→Bool)→Bool:=
 HT.rec (motive:=fun _=>Nat→AO→(HT→Bool)→Bool) (fun k o K=>Nat.rec (motive:=fun _=>Bool) (K (.node o .leaf .leaf)) (fun _ _=>false) k)
  (fun v l r sl sr k o K=>Nat.rec (motive:=fun _=>Bool) (K (.node o l r)) (fun m _=>
   Nat.rec (motive:=fun _=>Bool) (sl (Nat.div m 2) o fun l'=>K (.node v l' r)) (fun _ _=>sr (Nat.div m 2) o fun r'=>K (.node v l r')) (Nat.mod m 2)) k) t
theorem natrec_c{α:Type}(a b:α)(n:Nat):Nat.rec (motive:=fun _=>α) a (fun _ _=>b) n=if n=0 then a else b:=by
 cases n<;>rfl
theorem HT.getK_spec:∀(t:HT) (k:Nat) (K:AO→Bool),t.getK k K=match t.look k with|some o=>K o|none=>false
 | .leaf,k,K=>rfl
 | .node v l r,0,K=>rfl
 | .node v l r,m+1,K=>by
  have h1:=HT.getK_spec l (m / 2) K
  have h2:=HT.getK_spec r (m / 2) K
  have:(HT.node v l r).getK (m+1) K=Nat.rec (motive:=fun _=>Bool) (l.getK (Nat.div m 2) K) (fun _ _=>r.getK (Nat.div m 2) K) (Nat.mod m 2):=rfl
  rw[this,natrec_c]
  show(if m % 2=0 then l.getK (m / 2) K else r.getK (m / 2) K)=_
  rw[h1,h2]
  simp only[HT.look]
  split<;>rfl
theorem HT.setK_spec:∀(t:HT) (k:Nat) (o:AO) (K:HT→Bool),t.setK k o K=true→∃t',K t'=true∧∀j,t'.look j=if j=k then some o else t.look j
 | .leaf,0,o,K,h=>⟨.node o .leaf .leaf,h,fun j=>by
   cases j with
   |zero=>rfl
   |succ m=>simp[HT.look]⟩
 | .leaf,k+1,o,K,h=>by cases h
 | .node v l r,0,o,K,h=>⟨.node o l r,h,fun j=>by cases j<;>simp[HT.look]⟩
 | .node v l r,m+1,o,K,h=>by
  have e:(HT.node v l r).setK (m+1) o K=Nat.rec (motive:=fun _=>Bool) (l.setK (Nat.div m 2) o fun l'=>K (.node v l' r)) (fun _ _=>r.setK (Nat.div m 2) o fun r'=>K (.node v l r')) (Nat.mod m 2):=rfl
  rw[e,natrec_c]at h
  change (if m % 2=0 then l.setK (m / 2) o (fun l'=>K (.node v l' r))else r.setK (m / 2) o (fun r'=>K (.node v l r')))=true at h
  split at h
  ·rename_i hm
   obtain⟨t',h1,h2⟩:=HT.setK_spec l (m / 2) o _ h
   refine⟨_,h1,fun j=>?_⟩
   cases j with
   |zero=>simp[HT.look]
   |succ i=>
    simp only[HT.look,h2]
    by_cases hi:i % 2=0
    ·simp only[hi,if_true]
     by_cases hj:i / 2=m / 2
     ·rw[if_pos hj,if_pos (by omega)]
     ·rw[if_neg hj,if_neg (by omega)]
    ·simp only[hi,if_false]
     rw[if_neg (by omega)]
  ·rename_i hm
   obtain⟨t',h1,h2⟩:=HT.setK_spec r (m / 2) o _ h
   refine⟨_,h1,fun j=>?_⟩
   cases j with
   |zero=>simp[HT.look]
   |succ i=>
    simp only[HT.look,h2]
    by_cases hi:i % 2=0
    ·simp only[hi,if_true]
     rw[if_neg (by omega)]
    ·simp only[hi,if_false]
     by_cases hj:i / 2=m / 2
     ·rw[if_pos hj,if_pos (by omega)]
     ·rw[if_neg hj,if_neg (by omega)]
noncomputable def forceN(n:Nat)(K:Nat→Bool):Bool:=Nat.rec (motive:=fun _=>Bool) (K 0) (fun m _=>K (m+1)) n
theorem forceN_eq(n:Nat)(K:Nat→Bool):forceN n K=K n:=by cases n<;>rfl
noncomputable def forceI(i:Int)(K:Int→Bool):Bool:=Int.rec (motive:=fun _=>Bool) (fun n=>forceN n fun n=>K (.ofNat n)) (fun n=>forceN n fun n=>K (.negSucc n)) i
theorem forceI_eq(i:Int)(K:Int→Bool):forceI i K=K i:=by cases i<;>simp only[forceI,forceN_eq]
noncomputable def forceB(b:Bool)(K:Bool→Bool):Bool:=Bool.rec (motive:=fun _=>Bool) (K false) (K true) b
theorem forceB_eq(b:Bool)(K:Bool→Bool):forceB b K=K b:=by cases b<;>rfl
noncomputable def nthK(l:List Value):Nat→(Value→Bool)→Bool:=
 List.rec (motive:=fun _=>Nat→(Value→Bool)→Bool) (fun _ K=>K undef) (fun x _ ih i K=>Nat.rec (motive:=fun _=>Bool) (K x) (fun m _=>ih m K) i) l
theorem nthK_eq:∀(l:List Value) (i:Nat) (K:Value→Bool),nthK l i K=K (l.getD i undef)
 |[],i,K=>rfl
 |x::l,0,K=>rfl
 |x::l,i+1,K=>(nthK_eq l i K).trans (by simp[List.getD])
noncomputable def nthO(l:List Value):Nat→(Value→Bool)→Bool:=
 List.rec (motive:=fun _=>Nat→(Value→Bool)→Bool) (fun _ K=>false) (fun x _ ih i K=>Nat.rec (motive:=fun _=>Bool) (K x) (fun m _=>ih m K) i) l
theorem nthO_eq:∀(l:List Value) (i:Nat) (K:Value→Bool),nthO l i K=match l[i]? with|some v=>K v|none=>false
 |[],i,K=>rfl
 |x::l,0,K=>rfl
 |x::l,i+1,K=>(nthO_eq l i K).trans (by simp)
noncomputable def updK(v:Value)(l:List Value):Nat→(List Value→Bool)→Bool:=
 List.rec (motive:=fun _=>Nat→(List Value→Bool)→Bool) (fun _ K=>K []) (fun x r ih i K=>Nat.rec (motive:=fun _=>Bool) (K (v::r)) (fun m _=>ih m fun r'=>K (x::r')) i) l
theorem updK_eq(v:Value):∀(l:List Value) (i:Nat) (K:List Value→Bool),updK v l i K=K (l.set i v)
 |[],i,K=>rfl
 |x::l,0,K=>rfl
 |x::l,i+1,K=>updK_eq v l i _
noncomputable def evX(x:AX)(fr tm:List Value)(K:Value→Bool):Bool:=match x with
 | .fr i=>nthK fr i K
 | .tm i=>nthK tm i K
 | .c v=>K v
 | .g n=>K (.pointer (some ⟨n,0,none⟩))
 | .fn f=>K (.func (.func f) #[] #[])
theorem evX_eq(x:AX)(fr tm:List Value)(K:Value→Bool):evX x fr tm K=K (x.ev fr tm):=by
 cases x<;>simp only[evX,AX.ev,nthK_eq]
noncomputable def evXs(l:List AX)(fr tm:List Value):(List Value→Bool)→Bool:=
 List.rec (motive:=fun _=>(List Value→Bool)→Bool) (fun K=>K []) (fun x _ ih K=>evX x fr tm fun v=>ih fun vs=>K (v::vs)) l
theorem evXs_eq:∀(l:List AX) (fr tm:List Value) (K:List Value→Bool),evXs l fr tm K=K (l.map (AX.ev fr tm))
 |[],fr,tm,K=>rfl
 |x::l,fr,tm,K=>by
  have:evXs (x::l) fr tm K=evX x fr tm fun v=>evXs l fr tm fun vs=>K (v::vs):=rfl
  rw[this,evX_eq,evXs_eq l];rfl
noncomputable def evO(x:Option AX)(fr tm:List Value)(K:Option Value→Bool):Bool:=match x with
 |none=>K none
 |some x=>evX x fr tm fun v=>K (some v)
theorem evO_eq(x:Option AX)(fr tm:List Value)(K:Option Value→Bool):evO x fr tm K=K (x.map (AX.ev fr tm)):=by
 cases x<;>simp only[evO,evX_eq,Option.map]
noncomputable def evPs(l:List (Nat×Nat×AX))(fr tm:List Value):(List (Nat×Nat×Value)→Bool)→Bool:=
 List.rec (motive:=fun _=>(List (Nat×Nat×Value)→Bool)→Bool) (fun K=>K []) (fun p _ ih K=>evX p.2.2 fr tm fun v=>ih fun vs=>K ((p.1,p.2.1,v)::vs)) l
theorem evPs_eq:∀(l:List (Nat×Nat×AX)) (fr tm:List Value) (K:List (Nat×Nat×Value)→Bool),evPs l fr tm K=K (l.map fun p=>(p.1,p.2.1,p.2.2.ev fr tm))
 |[],fr,tm,K=>rfl
 |x::l,fr,tm,K=>by
  have:evPs (x::l) fr tm K=evX x.2.2 fr tm fun v=>evPs l fr tm fun vs=>K ((x.1,x.2.1,v)::vs):=rfl
  rw[this,evX_eq,evPs_eq l];rfl
def kNum:IntKind→Nat
 | .i8=>0| .i16=>1| .i32=>2| .i64=>3| .u8=>4| .u16=>5| .u32=>6| .u64=>7
theorem kNum_inj{a b:IntKind}(h:Nat.beq (kNum a) (kNum b)=true):a=b:=by
 have:=Nat.eq_of_beq_eq_true h
 cases a<;>cases b<;>first|rfl|(exact absurd this (by decide))
def kMax:IntKind→Nat
 | .i8=>128| .i16=>32768| .i32=>2147483648| .i64=>9223372036854775808| .u8=>256| .u16=>65536| .u32=>4294967296| .u64=>18446744073709551616
noncomputable def wrapT(k:IntKind)(n:Int)(K:Int→Bool):Bool:=
 Int.rec (motive:=fun _=>Bool) (fun m=>forceB (Nat.ble (kMax k) m) fun b=>Bool.rec (motive:=fun _=>Bool) (forceN m fun m=>K (.ofNat m)) (forceI (k.wrap (.ofNat m)) K) b)
  (fun m=>forceI (k.wrap (.negSucc m)) K) n
theorem wrap_fit{k:IntKind}{m:Nat}(h:m<kMax k):k.wrap (m:Int)=m:=by
 cases k<;>simp[kMax,IntKind.wrap,IntKind.bits,IntKind.signed]at h ⊢ <;>omega
theorem wrapT_eq(k:IntKind)(n:Int)(K:Int→Bool):wrapT k n K=K (k.wrap n):=by
 cases n with
 |negSucc m=>simp only[wrapT,forceI_eq]
 |ofNat m=>
  simp only[wrapT,forceB_eq,forceN_eq,forceI_eq]
  cases h:Nat.ble (kMax k) m
  ·have:¬kMax k≤m:=fun h2=>by rw[Nat.ble_eq_true_of_le h2]at h;cases h
   have:=wrap_fit (k:=k) (m:=m) (by omega)
   show K (Int.ofNat m)=_
   rw[show Int.ofNat m=(m:Int)from rfl,this]
  ·rfl
def iLt:Int→Int→Bool
 | .ofNat a,.ofNat b=>Nat.ble (a+1) b
 | .ofNat _,.negSucc _=>false
 | .negSucc _,.ofNat _=>true
 | .negSucc a,.negSucc b=>Nat.ble (b+1) a
theorem iLt_eq(a b:Int):iLt a b=decide (a<b):=by
 cases a<;>cases b<;>simp only[iLt]<;>rw[Bool.eq_iff_iff]<;>simp<;>omega
def iEq:Int→Int→Bool
 | .ofNat a,.ofNat b=>Nat.beq a b
 | .negSucc a,.negSucc b=>Nat.beq a b
 |_,_=>false
theorem iEq_eq(a b:Int):iEq a b=(a==b):=by
 cases a<;>cases b<;>simp only[iEq]<;>rw[Bool.eq_iff_iff]<;>simp[Nat.beq_eq]<;>omega
noncomputable def bitT(k:IntKind)(f:Nat→Nat→Nat)(slow:Int)(a b:Int)(K:Int→Bool):Bool:=
 match a,b with
 | .ofNat m,.ofNat n=>forceB (Nat.ble (kMax k) m) fun x=>forceB (Nat.ble (kMax k) n) fun y=>match x,y with
  |false,false=>forceN (f m n) fun r=>K (.ofNat r)
  |_,_=>forceI slow K
 |_,_=>forceI slow K
theorem kMax_le(k:IntKind):kMax k≤2 ^ k.bits:=by cases k<;>decide
theorem kMax_pow(k:IntKind):∃j,kMax k=2 ^ j:=by
 cases k
 ·exact⟨7,rfl⟩
 ·exact⟨15,rfl⟩
 ·exact⟨31,rfl⟩
 ·exact⟨63,rfl⟩
 ·exact⟨8,rfl⟩
 ·exact⟨16,rfl⟩
 ·exact⟨32,rfl⟩
 ·exact⟨64,rfl⟩
theorem bitT_eq{k:IntKind}{f:Nat→Nat→Nat}{slow a b:Int}{K:Int→Bool}(h:∀m n:Nat,m<kMax k→n<kMax k→a=m→b=n→slow=(f m n:Nat)):bitT k f slow a b K=K slow:=by
 cases a with
 |negSucc m=>simp only[bitT,forceI_eq]
 |ofNat m=>
  cases b with
  |negSucc n=>simp only[bitT,forceI_eq]
  |ofNat n=>
   simp only[bitT,forceB_eq]
   cases h1:Nat.ble (kMax k) m<;>cases h2:Nat.ble (kMax k) n<;>simp only[forceI_eq,forceN_eq]
   have a1:¬kMax k≤m:=fun h2=>by rw[Nat.ble_eq_true_of_le h2]at h1;cases h1
   have a2:¬kMax k≤n:=fun h3=>by rw[Nat.ble_eq_true_of_le h3]at h2;cases h2
   rw[h m n (by omega) (by omega) rfl rfl]
   rfl
theorem ofInt_fit{k:IntKind}{m:Nat}(h:m<kMax k):(BitVec.ofInt k.bits (m:Int)).toNat=m:=by
 rw[BitVec.ofInt_natCast,BitVec.toNat_ofNat]
 exact Nat.mod_eq_of_lt (Nat.lt_of_lt_of_le h (kMax_le k))
theorem and_fit{k:IntKind}{m n:Nat}(h1:m<kMax k)(h2:n<kMax k):k.wrap ((BitVec.ofInt k.bits (m:Int)&&& BitVec.ofInt k.bits (n:Int)).toNat:Int)=((Nat.land m n:Nat):Int):=by
 rw[BitVec.toNat_and,ofInt_fit h1,ofInt_fit h2]
 exact wrap_fit (Nat.lt_of_le_of_lt Nat.and_le_left h1)
theorem or_fit{k:IntKind}{m n:Nat}(h1:m<kMax k)(h2:n<kMax k):k.wrap ((BitVec.ofInt k.bits (m:Int)|||BitVec.ofInt k.bits (n:Int)).toNat:Int)=((Nat.lor m n:Nat):Int):=by
 rw[BitVec.toNat_or,ofInt_fit h1,ofInt_fit h2]
 obtain⟨j,hj⟩:=kMax_pow k
 exact wrap_fit (by rw[hj]at h1 h2 ⊢;exact Nat.or_lt_two_pow h1 h2)
theorem xor_fit{k:IntKind}{m n:Nat}(h1:m<kMax k)(h2:n<kMax k):k.wrap ((BitVec.ofInt k.bits (m:Int) ^^^ BitVec.ofInt k.bits (n:Int)).toNat:Int)=((Nat.xor m n:Nat):Int):=by
 rw[BitVec.toNat_xor,ofInt_fit h1,ofInt_fit h2]
 obtain⟨j,hj⟩:=kMax_pow k
 exact wrap_fit (by rw[hj]at h1 h2 ⊢;exact Nat.xor_lt_two_pow h1 h2)
theorem andNot_eq{w:Nat}(x y:BitVec w):x&&& ~~~y=x ^^^ (x&&& y):=by
 apply BitVec.eq_of_getLsbD_eq
 intro i hi
 simp only[BitVec.getLsbD_and,BitVec.getLsbD_not,BitVec.getLsbD_xor,hi,decide_true,Bool.true_and]
 cases x.getLsbD i<;>cases y.getLsbD i<;>rfl
theorem andNot_fit{k:IntKind}{m n:Nat}(h1:m<kMax k)(h2:n<kMax k):k.wrap ((BitVec.ofInt k.bits (m:Int)&&& ~~~ BitVec.ofInt k.bits (n:Int)).toNat:Int)=((Nat.xor m (Nat.land m n):Nat):Int):=by
 rw[andNot_eq,BitVec.toNat_xor,BitVec.toNat_and,ofInt_fit h1,ofInt_fit h2]
 obtain⟨j,hj⟩:=kMax_pow k
 exact wrap_fit (by rw[hj]at h1 h2 ⊢;exact Nat.xor_lt_two_pow h1 (Nat.lt_of_le_of_lt Nat.and_le_left h1))
noncomputable def shT(k:IntKind)(b:Int)(K:Nat→Bool):Bool:=match b with
 | .ofNat s=>Bool.rec (motive:=fun _=>Bool) (K k.bits) (forceN s K) (Nat.ble s k.bits)
 | .negSucc _=>false
theorem shT_true{k:IntKind}{b:Int}{K:Nat→Bool}(h:shT k b K=true):0≤b∧K (min b.toNat k.bits)=true:=by
 cases b with
 |negSucc _=>cases h
 |ofNat s=>
  refine⟨Int.natCast_nonneg _,?_⟩
  simp only[shT]at h
  cases e:Nat.ble s k.bits<;>rw[e]at h<;>simp only[forceN_eq]at h
  ·have:¬s≤k.bits:=fun h2=>by rw[Nat.ble_eq_true_of_le h2]at e;cases e
   rw[show min (Int.ofNat s).toNat k.bits=k.bits from by simp;omega];exact h
  ·have:=Nat.le_of_ble_eq_true e
   rw[show min (Int.ofNat s).toNat k.bits=s from by simp;omega];exact h
def upT(a:Int)(s:Nat):Int:=match a with
 | .ofNat m=>.ofNat (Nat.mul m (Nat.pow 2 s))
 |a=>a*2 ^ s
def downT(a:Int)(s:Nat):Int:=match a with
 | .ofNat m=>.ofNat (Nat.div m (Nat.pow 2 s))
 |a=>a.fdiv (2 ^ s)
theorem upT_eq(a:Int)(s:Nat):upT a s=a*2 ^ s:=by
 cases a with
 |negSucc m=>rfl
 |ofNat m=>
  show((m*2 ^ s:Nat):Int)=(m:Int)*2 ^ s
  push_cast;rfl
theorem downT_eq(a:Int)(s:Nat):downT a s=a.fdiv (2 ^ s):=by
 cases a with
 |negSucc m=>rfl
 |ofNat m=>
  show((m / 2 ^ s:Nat):Int)=(m:Int).fdiv (2 ^ s)
  rw[show((2:Int) ^ s)=((2 ^ s:Nat):Int) by push_cast;rfl,Int.fdiv_eq_ediv_of_nonneg _ (Int.natCast_nonneg _)]
  push_cast;rfl
noncomputable def intT(op:BinOp)(k:IntKind)(a b:Int)(K:Value→Bool):Bool:=match op with
 | .add=>wrapT k (a+b) fun r=>K (.int k r)
 | .sub=>wrapT k (a-b) fun r=>K (.int k r)
 | .mul=>wrapT k (a*b) fun r=>K (.int k r)
 | .quo=>Bool.rec (motive:=fun _=>Bool) (wrapT k (a.tdiv b) fun r=>K (.int k r)) false (iEq b 0)
 | .rem=>Bool.rec (motive:=fun _=>Bool) (forceI (a.tmod b) fun r=>K (.int k r)) false (iEq b 0)
 | .and=>bitT k Nat.land (k.wrap (BitVec.ofInt k.bits a&&& BitVec.ofInt k.bits b).toNat) a b fun r=>K (.int k r)
 | .or=>bitT k Nat.lor (k.wrap (BitVec.ofInt k.bits a|||BitVec.ofInt k.bits b).toNat) a b fun r=>K (.int k r)
 | .xor=>bitT k Nat.xor (k.wrap (BitVec.ofInt k.bits a ^^^ BitVec.ofInt k.bits b).toNat) a b fun r=>K (.int k r)
 | .andNot=>bitT k (fun m n=>Nat.xor m (Nat.land m n)) (k.wrap (BitVec.ofInt k.bits a&&& ~~~ BitVec.ofInt k.bits b).toNat) a b fun r=>K (.int k r)
 | .eql=>forceB (iEq a b) fun r=>K (.bool r)
 | .neq=>forceB (iEq a b) fun r=>K (.bool (!r))
 | .lss=>forceB (iLt a b) fun r=>K (.bool r)
 | .leq=>forceB (iLt b a) fun r=>K (.bool (!r))
 | .gtr=>forceB (iLt b a) fun r=>K (.bool r)
 | .geq=>forceB (iLt a b) fun r=>K (.bool (!r))
 |_=>false
theorem iEq_zero{b:Int}:iEq b 0=decide (b=0):=by rw[iEq_eq,Bool.eq_iff_iff];simp
theorem intT_true{op:BinOp}{k:IntKind}{a b:Int}{K:Value→Bool}(h:intT op k a b K=true):∃v,intA op k a b=some v∧K v=true:=by
 cases op<;>simp only[intT,wrapT_eq,forceB_eq,forceI_eq,iLt_eq,iEq_zero]at h<;>simp only[intA]
 case quo=>
  by_cases hb:b=0
  ·subst hb;cases h
  ·rw[if_neg hb];simp only[hb,decide_false]at h;exact⟨_,rfl,h⟩
 case rem=>
  by_cases hb:b=0
  ·subst hb;cases h
  ·rw[if_neg hb];simp only[hb,decide_false]at h;exact⟨_,rfl,h⟩
 case and=>rw[bitT_eq (fun m n h1 h2 e1 e2=>by subst e1 e2;exact and_fit h1 h2)]at h;exact⟨_,rfl,h⟩
 case or=>rw[bitT_eq (fun m n h1 h2 e1 e2=>by subst e1 e2;exact or_fit h1 h2)]at h;exact⟨_,rfl,h⟩
 case xor=>rw[bitT_eq (fun m n h1 h2 e1 e2=>by subst e1 e2;exact xor_fit h1 h2)]at h;exact⟨_,rfl,h⟩
 case andNot=>rw[bitT_eq (fun m n h1 h2 e1 e2=>by subst e1 e2;exact andNot_fit h1 h2)]at h;exact⟨_,rfl,h⟩
 case eql=>rw[iEq_eq]at h;exact⟨_,rfl,h⟩
 case neq=>rw[iEq_eq]at h;exact⟨_,rfl,by rw[show(a != b)= !(a==b)from rfl];exact h⟩
 case leq=>exact⟨_,rfl,by rw[show decide (a≤b)= !decide (b<a)from by rw[Bool.eq_iff_iff];simp];exact h⟩
 case geq=>exact⟨_,rfl,by rw[show decide (b≤a)= !decide (a<b)from by rw[Bool.eq_iff_iff];simp];exact h⟩
 all_goals first|exact⟨_,rfl,h⟩|(cases h;done)
noncomputable def bEq(a b:List UInt8):Bool:=
 List.rec (motive:=fun _=>List UInt8→Bool) (fun b=>List.rec (motive:=fun _=>Bool) true (fun _ _ _=>false) b)
  (fun x _ ih b=>List.rec (motive:=fun _=>Bool) false (fun y r _=>Bool.rec (motive:=fun _=>Bool) false (ih r) (Nat.beq x.toNat y.toNat)) b) a b
theorem bEq_eq:∀a b:List UInt8,bEq a b=decide (a=b)
 |[],[]=>by simp[bEq]
 |[],y::b=>by simp[bEq]
 |x::a,[]=>by simp[bEq]
 |x::a,y::b=>by
  have h:bEq (x::a) (y::b)=Bool.rec (motive:=fun _=>Bool) false (bEq a b) (Nat.beq x.toNat y.toNat):=rfl
  rw[h,bEq_eq a b]
  cases e:Nat.beq x.toNat y.toNat
  ·have:x≠y:=fun h=>by subst h;rw[Nat.beq_refl]at e;cases e
   simp[this]
  ·have:x=y:=UInt8.toNat_inj.1 (Nat.eq_of_beq_eq_true e)
   simp[this]
theorem bstr_eq(a b:ByteArray):decide (a=b)=bEq a.data.toList b.data.toList:=by
 rw[bEq_eq,Bool.eq_iff_iff]
 simp only[decide_eq_true_eq]
 constructor
 ·intro h;rw[h]
 ·intro h
  have:a.data=b.data:=Array.toList_inj.1 h
  cases a;cases b;simp_all
def bCat(a b:ByteArray):ByteArray:=⟨⟨a.data.toList++b.data.toList⟩⟩
theorem bCat_eq(a b:ByteArray):bCat a b=a++b:=by
 have:(a++b).data.toList=a.data.toList++b.data.toList:=by rw[ByteArray.data_append];simp
 have h2:(bCat a b).data=(a++b).data:=Array.toList_inj.1 (by rw[this];rfl)
 cases h:bCat a b;cases h3:a++b;rw[h,h3]at h2;simp_all
def bSub(s:ByteArray)(l h:Nat):ByteArray:=⟨⟨(s.data.toList.take h).drop l⟩⟩
theorem bSub_eq(s:ByteArray)(l h:Nat):bSub s l h=s.extract l h:=by
 have:(s.extract l h).data.toList=(s.data.toList.take h).drop l:=by
  rw[ByteArray.data_extract];simp[List.extract_eq_take_drop,List.drop_take]
 have h2:(bSub s l h).data=(s.extract l h).data:=Array.toList_inj.1 (by rw[this];rfl)
 cases h3:bSub s l h;cases h4:s.extract l h;rw[h3,h4]at h2;simp_all
def bLen(s:ByteArray):Nat:=s.data.toList.length
theorem bLen_eq(s:ByteArray):bLen s=s.size:=by simp[bLen]
noncomputable def strT(op:BinOp)(a b:ByteArray)(K:Value→Bool):Bool:=match op with
 | .add=>Bool.rec (motive:=fun _=>Bool) false (K (.string (bCat a b))) (Nat.ble (bLen a+bLen b) 140737488355328)
 | .eql=>forceB (bEq a.data.toList b.data.toList) fun r=>K (.bool r)
 | .neq=>forceB (bEq a.data.toList b.data.toList) fun r=>K (.bool (!r))
 | .lss=>forceB (Op.bytesLess a.data.toList b.data.toList) fun r=>K (.bool r)
 | .leq=>forceB (Op.bytesLess a.data.toList b.data.toList||bEq a.data.toList b.data.toList) fun r=>K (.bool r)
 | .gtr=>forceB (!(Op.bytesLess a.data.toList b.data.toList||bEq a.data.toList b.data.toList)) fun r=>K (.bool r)
 | .geq=>forceB (!Op.bytesLess a.data.toList b.data.toList) fun r=>K (.bool r)
 |_=>false
theorem strT_true{op:BinOp}{a b:ByteArray}{K:Value→Bool}(h:strT op a b K=true):∃v,strA op a b=some v∧K v=true:=by
 cases op<;>simp only[strT,forceB_eq,bCat_eq,bLen_eq,←bstr_eq]at h<;>simp only[strA]
 case add=>
  cases e:Nat.ble (a.size+b.size) 140737488355328
  ·rw[e]at h;cases h
  ·rw[e]at h
   rw[if_pos (Nat.le_of_ble_eq_true e)];exact⟨_,rfl,h⟩
 all_goals first|exact⟨_,rfl,h⟩|(cases h;done)
noncomputable def binT(op:BinOp)(x y:Value)(K:Value→Bool):Bool:=match x,y with
 | .int k a,.int k' b=>match op with
  | .shl=>shT k b fun s=>wrapT k (upT a s) fun r=>K (.int k r)
  | .shr=>shT k b fun s=>forceI (downT a s) fun r=>K (.int k r)
  |op=>Bool.rec (motive:=fun _=>Bool) false (intT op k a b K) (Nat.beq (kNum k) (kNum k'))
 | .string a,.string b=>strT op a b K
 |_,_=>false
theorem binT_true{op:BinOp}{x y:Value}{K:Value→Bool}(h:binT op x y K=true):∃v,binA op x y=some v∧K v=true:=by
 unfold binT at h
 split at h
 ·rename_i k a k' b
  split at h
  ·obtain⟨h1,h2⟩:=shT_true h
   rw[wrapT_eq,upT_eq]at h2
   exact⟨_,by simp only[binA,h1,if_true],h2⟩
  ·obtain⟨h1,h2⟩:=shT_true h
   rw[forceI_eq,downT_eq]at h2
   exact⟨_,by simp only[binA,h1,if_true],h2⟩
  ·rename_i n1 n2
   cases e:Nat.beq (kNum k) (kNum k')
   ·rw[e]at h;cases h
   ·rw[e]at h
    have:=kNum_inj e
    subst this
    obtain⟨v,h1,h2⟩:=intT_true h
    refine⟨v,?_,h2⟩
    cases op<;>first|exact absurd rfl n1|exact absurd rfl n2|(simp only[binA,if_true];exact h1)
 ·obtain⟨v,h1,h2⟩:=strT_true h
  exact⟨v,h1,h2⟩
 ·cases h
end Go.AM

namespace Go.AM
def valEq:Value→Value→Bool
 | .bool a,.bool b=>match a,b with
  |true,true=>true
  |false,false=>true
  |_,_=>false
 | .int k a,.int k' b=>match Nat.beq (kNum k) (kNum k')with
  |true=>iEq a b
  |false=>false
 | .string a,.string b=>decide (a=b)
 | .pointer a,.pointer b=>decide (a=b)
 | .slice a n k,.slice b m l=>match Nat.beq n m,Nat.beq k l with
  |true,true=>decide (a=b)
  |_,_=>false
 | .map a,.map b=>decide (a=b)
 | .nilFunc,.nilFunc=>true
 | .nilIface,.nilIface=>true
 |_,_=>false
theorem valEq_true{a b:Value}(h:valEq a b=true):a=b:=by
 unfold valEq at h
 split at h
 ·split at h<;>first|rfl|cases h
 ·split at h
  ·rename_i e
   have:=kNum_inj e
   subst this
   rw[iEq_eq]at h
   rw[eq_of_beq h]
  ·cases h
 ·rw[of_decide_eq_true h]
 ·rw[of_decide_eq_true h]
 ·split at h
  ·rename_i e1 e2
   rw[of_decide_eq_true h,Nat.eq_of_beq_eq_true e1,Nat.eq_of_beq_eq_true e2]
  ·cases h
 ·rw[of_decide_eq_true h]
 ·rfl
 ·rfl
 ·cases h
def vals0:List Value→List Value→Bool
 |[],[]=>true
 |a::l,b::m=>match valEq a b with
  |true=>vals0 l m
  |false=>false
 |_,_=>false
theorem vals0_true:∀{a b:List Value},vals0 a b=true→a=b
 |[],[],_=>rfl
 |a::l,b::m,h=>by
  simp only[vals0]at h
  split at h
  ·rename_i e;rw[valEq_true e,vals0_true h]
  ·cases h
 |[],_::_,h=>by cases h
 |_::_,[],h=>by cases h
def valEq1:Value→Value→Bool
 | .iface t a,.iface u b=>match Nat.beq t u,a,b with
  |true,.agg xs,.agg ys=>vals0 xs.toList ys.toList
  |true,a,b=>valEq a b
  |false,_,_=>false
 | .func (.func f) xs ys,.func (.func g) us vs=>match Nat.beq f g with
  |true=>match vals0 xs.toList us.toList with
   |true=>vals0 ys.toList vs.toList
   |false=>false
  |false=>false
 |a,b=>valEq a b
theorem valEq1_true{a b:Value}(h:valEq1 a b=true):a=b:=by
 unfold valEq1 at h
 split at h
 ·split at h
  ·rename_i e
   rw[Nat.eq_of_beq_eq_true e,Array.toList_inj.1 (vals0_true h)]
  ·rename_i e _
   rw[Nat.eq_of_beq_eq_true e,valEq_true h]
  ·cases h
 ·split at h
  ·rename_i e
   split at h
   ·rename_i e2
    rw[Nat.eq_of_beq_eq_true e,Array.toList_inj.1 (vals0_true e2),Array.toList_inj.1 (vals0_true h)]
   ·cases h
  ·cases h
 ·exact valEq_true h
def valsEq:List Value→List Value→Bool
 |[],[]=>true
 |a::l,b::m=>match valEq1 a b with
  |true=>valsEq l m
  |false=>false
 |_,_=>false
theorem valsEq_true:∀{a b:List Value},valsEq a b=true→a=b
 |[],[],_=>rfl
 |a::l,b::m,h=>by
  simp only[valsEq]at h
  split at h
  ·rename_i e;rw[valEq1_true e,valsEq_true h]
  ·cases h
 |[],_::_,h=>by cases h
 |_::_,[],h=>by cases h
def aoEq:AO→AO→Bool
 | .cells o r z c e,.cells o' r' z' c' e'=>match o==o',r==r',Nat.beq z z',Nat.beq e e' with
  |true,true,true,true=>valsEq c c'
  |_,_,_,_=>false
 |_,_=>false
theorem aoEq_true{a b:AO}(h:aoEq a b=true):a=b:=by
 unfold aoEq at h
 split at h
 ·split at h
  ·rename_i e1 e2 e3 e4
   rw[eq_of_beq e1,eq_of_beq e2,Nat.eq_of_beq_eq_true e3,Nat.eq_of_beq_eq_true e4,valsEq_true h]
  ·cases h
 ·cases h
noncomputable def allocT(o:AO)(n:Nat)(t:HT)(K:Nat→HT→Bool):Bool:=t.setK n o fun t'=>forceN (n+1) fun n'=>K n' t'
def allOne:List Value→Bool
 |[]=>true
 |v::l=>match v.oneCell' with
  |true=>allOne l
  |false=>false
theorem allOne_eq:∀l:List Value,allOne l=l.all Value.oneCell'
 |[]=>rfl
 |v::l=>by simp only[allOne,List.all_cons,allOne_eq l];cases v.oneCell'<;>rfl
noncomputable def asT(b:Bool)(K:Bool):Bool:=Bool.rec (motive:=fun _=>Bool) false K b
theorem asT_true{b K:Bool}(h:asT b K=true):b=true∧K=true:=by cases b<;>simp_all[asT]
noncomputable def elemsT(t:HT)(esz:Nat)(x:Value)(K:List Value→Bool):Bool:=match x with
 | .slice none _ _=>K []
 | .slice (some ⟨b,o,none⟩) n _=>t.getK b fun ao=>match ao with
  | .cells _ _ _ c _=>asT (Nat.ble (o+n*esz) c.length) (K ((c.drop o).take (n*esz)))
  |_=>false
 |_=>false
def plainT(op:AOp Value):Option Value:=match op with
 | .mov x=>some x
 | .pick c a b=>match c with
  | .bool t=>some (if t then a else b)
  |_=>none
 | .build z ps=>(fillA z ps).map fun c=>.agg c.toArray
 | .nilck x=>match x with
  | .pointer (some _)=>some x
  | .iface _ _=>some x
  | .func (.func _) _ _=>some x
  |_=>none
 | .eqv k neg x y=>(eqA k x y).map fun b=>.bool (if neg then !b else b)
 | .un op x=>match op,x with
  | .not,.bool b=>some (.bool (!b))
  | .neg,.int k n=>some (.int k (k.wrap (0-n)))
  | .xor,.int k n=>some (.int k (k.wrap (BitVec.ofInt k.bits (if k.signed then-1 else k.max) ^^^ BitVec.ofInt k.bits n).toNat))
  |_,_=>none
 | .s2s x=>match x with
  | .string s=>some (.string s)
  |_=>none
 | .iface t x=>some (.iface t x)
 | .mkfn fn xs ys=>some (.func fn xs.toArray ys.toArray)
 | .fldn off n x=>match x with
  | .agg cs=>if off+n≤cs.size then some (.agg ((cs.toList.drop off).take n).toArray)else none
  |_=>none
 | .idxs x i=>match x,i with
  | .string s,.int _ i=>if 0≤i∧i<(s.size:Int)then(s.data.toList[i.toNat]?).map fun b=>.int .u8 b.toNat else none
  |_,_=>none
 | .idxa agg esz n x i=>match x,i with
  | .agg cs,.int _ i=>if 0≤i∧i<(n:Int)then
    (if agg then(if i.toNat*esz+esz≤cs.size then some (.agg ((cs.toList.drop (i.toNat*esz)).take esz).toArray)else none)
    else cs.toList[i.toNat*esz]?)else none
  |_,_=>none
 | .eqs cs neg x y=>match x,y with
  | .agg xs,.agg ys=>(eqCs cs xs.toList ys.toList).map fun b=>.bool (if neg then !b else b)
  |_,_=>none
 | .mm mx x y=>match x,y with
  | .int k a,.int k' b=>if k=k' then some (.int k (if mx then(if b>a then b else a)else(if b<a then b else a)))else none
  |_,_=>none
 | .i2str x=>match x with
  | .int _ n=>some (.string (Utf8.encode n))
  |_=>none
 | .assert t z ok x=>match x with
  | .iface u v=>if u=t then some (if ok then .tuple #[v,.bool true]else v)else if ok then some (.tuple #[z,.bool false])else none
  | .nilIface=>if ok then some (.tuple #[z,.bool false])else none
  |_=>none
 |_=>none
theorem plainT_sound{op:AOp Value}{H:AHeap}{v:Value}(h:plainT op=some v):asem op H=some (v,H):=by
 cases op<;>simp only[plainT]at h<;>simp only[asem]<;>try (cases h;done)
 case mov=>cases h;rfl
 case pick=>split at h<;>first|(cases h;rfl)|cases h
 case build=>simp only[Option.map_eq_some_iff]at h ⊢;obtain⟨c,h1,h2⟩:=h;exact⟨c,h1,by rw[h2]⟩
 case nilck=>split at h<;>first|(cases h;rfl)|cases h
 case eqv=>simp only[Option.map_eq_some_iff]at h ⊢;obtain⟨c,h1,h2⟩:=h;exact⟨c,h1,by rw[h2]⟩
 case un=>split at h<;>first|(cases h;rfl)|cases h
 case s2s=>split at h<;>first|(cases h;rfl)|cases h
 case iface=>cases h;rfl
 case mkfn=>cases h;rfl
 case fldn=>
  split at h
  ·split at h
   ·rename_i hh;cases h;dsimp only;rw[if_pos hh]
   ·cases h
  ·cases h
 case idxs=>
  split at h
  ·split at h
   ·rename_i hh;dsimp only;rw[if_pos hh];simp only[Option.map_eq_some_iff]at h ⊢;obtain⟨c,h1,h2⟩:=h;exact⟨c,h1,by rw[h2]⟩
   ·cases h
  ·cases h
 case idxa agg esz n x i=>
  split at h
  ·split at h
   ·rename_i hh
    dsimp only
    rw[if_pos hh]
    cases agg
    ·simp only[Bool.false_eq_true,if_false]at h ⊢;rw[h];rfl
    ·simp only[if_true]at h ⊢
     split at h
     ·rename_i hle;cases h;rw[if_pos hle]
     ·cases h
   ·cases h
  ·cases h
 case eqs=>
  split at h
  ·simp only[Option.map_eq_some_iff]at h ⊢;obtain⟨c,h1,h2⟩:=h;exact⟨c,h1,by rw[h2]⟩
  ·cases h
 case mm=>
  split at h
  ·split at h
   ·rename_i hh;cases h;dsimp only;rw[if_pos hh]
   ·cases h
  ·cases h
 case i2str=>split at h<;>first|(cases h;rfl)|cases h
 case assert=>
  split at h
  ·split at h
   ·rename_i hh;dsimp only;rw[if_pos hh];cases h;rfl
   ·rename_i hh;dsimp only;rw[if_neg hh];split at h
    ·rename_i h2;rw[if_pos h2];cases h;rfl
    ·cases h
  ·split at h
   ·rename_i h2;dsimp only;rw[if_pos h2];cases h;rfl
   ·cases h
  ·cases h
noncomputable def optK(o:Option Value)(K:Value→Bool):Bool:=match o with
 |some v=>K v
 |none=>false
theorem optK_true{o:Option Value}{K:Value→Bool}(h:optK o K=true):∃v,o=some v∧K v=true:=by
 cases o with
 |none=>cases h
 |some v=>exact⟨v,rfl,h⟩
noncomputable def bndT(x:Option Value)(dflt top:Nat)(K:Nat→Bool):Bool:=match x with
 |none=>K dflt
 |some (.int _ (.ofNat i))=>asT (Nat.ble i top) (forceN i K)
 |_=>false
theorem bndT_true{x:Option Value}{dflt top:Nat}{K:Nat→Bool}(h:bndT x dflt top K=true):∃i,bndA x dflt top=some i∧K i=true:=by
 unfold bndT at h
 split at h
 ·exact⟨_,rfl,h⟩
 ·rename_i k i
  obtain⟨h1,h2⟩:=asT_true h
  rw[forceN_eq]at h2
  have:=Nat.le_of_ble_eq_true h1
  refine⟨i,?_,h2⟩
  simp only[bndA]
  rw[if_pos ⟨Int.natCast_nonneg _,by simpa using this⟩]
  rfl
 ·cases h
noncomputable def appT(e:TypeId)(esz bytes:Nat)(s:Value)(m:Nat)(news:List Value)(n:Nat)(t:HT)(K:Value→Nat→HT→Bool):Bool:=match s with
 | .slice none a b=>asT (Nat.beq a 0) (asT (Nat.beq b 0) (match Nat.beq m 0 with
  |false=>asT (Nat.ble (m*bytes) 140737488355328) (asT (Nat.ble m 140737488355328) (allocT (.cells true true esz news e) n t fun n' t'=>K (slc n 0 m m) n' t'))
  |true=>K (.slice none 0 0) n t))
 | .slice (some ⟨b,o,none⟩) a k=>match Nat.beq m 0 with
  |false=>asT (Nat.ble ((a+m)*bytes) 140737488355328) (asT (Nat.ble (a+m) 140737488355328) (t.getK b fun ao=>match ao with
   | .cells own room esz' c e'=>asT (Nat.beq esz' esz) (asT (Nat.beq e' e) (asT (Nat.ble (o+k*esz) c.length) (forceN (a+m) fun am=>match Nat.ble am k with
    |true=>asT own (t.setK b (.cells true room esz (c.take (o+a*esz)++news++c.drop (o+a*esz+news.length)) e) fun t'=>K (slc b o am k) n t')
    |false=>match !room||Nat.ble (o+k*esz+1) c.length with
    |false=>match own with
     |true=>t.setK b .dead fun t1=>allocT (.cells true true esz ((c.drop o).take (a*esz)++news) e) n t1 fun n' t'=>K (slc n 0 am am) n' t'
     |false=>false
    |true=>allocT (.cells true true esz ((c.drop o).take (a*esz)++news) e) n t fun n' t'=>K (slc n 0 am am) n' t')))
   |_=>false))
  |true=>K s n t
 |_=>false
noncomputable def stepT(op:AOp Value)(n:Nat)(t:HT)(K:Value→Nat→HT→Bool):Bool:=match op with
 | .new e esz z=>asT (allOne z) (allocT (.cells true false esz z e) n t fun n' t'=>K (ptr n 0) n' t')
 | .box e esz x=>asT (allOne x.cells.toList) (allocT (.cells true false esz x.cells.toList e) n t fun n' t'=>K (ptr n 0) n' t')
 | .bslice e esz m z ps=>match fillA z ps with
  |some c=>asT (allOne c) (asT (Nat.beq c.length (m*esz)) (allocT (.cells true false esz c e) n t fun n' t'=>K (slc n 0 m m) n' t'))
  |none=>false
 | .load1 x=>match x with
  | .pointer (some ⟨b,o,none⟩)=>t.getK b fun ao=>match ao with
   | .cells _ _ _ c _=>nthO c o fun v=>K v n t
   |_=>false
  |_=>false
 | .loadn m x=>match x with
  | .pointer (some ⟨b,o,none⟩)=>t.getK b fun ao=>match ao with
   | .cells _ _ _ c _=>asT (Nat.ble (o+m) c.length) (K (.agg ((c.drop o).take m).toArray) n t)
   |_=>false
  |_=>false
 | .store1 a x=>match a with
  | .pointer (some ⟨b,o,none⟩)=>t.getK b fun ao=>match ao with
   | .cells true room esz c e=>asT (Nat.ble (o+1) c.length) (asT x.oneCell' (updK x c o fun c'=>t.setK b (.cells true room esz c' e) fun t'=>K undef n t'))
   |_=>false
  |_=>false
 | .storen m a x=>match a with
  | .pointer (some ⟨b,o,none⟩)=>t.getK b fun ao=>match ao with
   | .cells true room esz c e=>asT (Nat.ble (o+m) c.length) (asT (Nat.beq x.cells.toList.length m) (asT (allOne x.cells.toList) (t.setK b (.cells true room esz (c.take o++x.cells.toList++c.drop (o+m)) e) fun t'=>K undef n t')))
   |_=>false
  |_=>false
 | .bin op x y=>binT op x y fun v=>K v n t
 | .i2i k x=>match x with
  | .int _ i=>wrapT k i fun r=>K (.int k r) n t
  |_=>false
 | .s2b e x=>match x with
  | .string s=>forceN (bLen s) fun m=>allocT (.cells true true 1 (s.data.toList.map fun b=>.int .u8 b.toNat) e) n t fun n' t'=>K (slc n 0 m m) n' t'
  |_=>false
 | .b2s x=>elemsT t 1 x fun c=>match bytesOf c with
  |some l=>K (.string ⟨l.toArray⟩) n t
  |none=>false
 | .mksl e esz bytes z l c=>match l,c with
  | .int .i64 (.ofNat l),.int .i64 (.ofNat c)=>asT (Nat.ble l c) (asT (Nat.ble (bytes*c) 140737488355328) (asT (Nat.ble c 140737488355328) (asT (Nat.beq z.length esz) (asT (allOne z)
    (forceN l fun l=>forceN c fun c=>allocT (.cells true false esz (List.replicate c z).flatten e) n t fun n' t'=>K (slc n 0 l c) n' t')))))
  |_,_=>false
 | .slstr x lo hi=>match x with
  | .string s=>bndT hi (bLen s) (bLen s) fun h=>bndT lo 0 h fun l=>K (.string (bSub s l h)) n t
  |_=>false
 | .slsl esz x lo hi mx=>match x with
  | .slice a m k=>bndT mx k k fun mm=>bndT hi m mm fun h=>bndT lo 0 h fun l=>match a with
   |none=>K (.slice none 0 0) n t
   |some ⟨b,o,none⟩=>t.getK b fun ao=>match ao with
    | .cells _ room esz' _ _=>asT (Nat.beq esz' esz|| !room) (forceN (o+l*esz) fun o'=>forceN (h-l) fun m'=>forceN (mm-l) fun k'=>K (slc b o' m' k') n t)
    |_=>false
   |_=>false
  |_=>false
 | .faddr off x=>match x with
  | .pointer (some ⟨b,o,none⟩)=>forceN (o+off) fun o'=>K (ptr b o') n t
  |_=>false
 | .fld1 off x=>match x with
  | .agg cs=>nthO cs.toList off fun v=>K v n t
  |_=>false
 | .iaddr esz x i=>match x,i with
  | .slice (some ⟨b,o,none⟩) m _,.int _ (.ofNat i)=>asT (Nat.ble (i+1) m) (forceN (o+i*esz) fun o'=>K (ptr b o') n t)
  |_,_=>false
 | .extract x i=>match x with
  | .tuple vs=>nthO vs.toList i fun v=>K v n t
  |_=>false
 | .len str x=>match str,x with
  |false,.slice _ m _=>K (.int .i64 (.ofNat m)) n t
  |true,.string s=>forceN (bLen s) fun m=>K (.int .i64 (.ofNat m)) n t
  |_,_=>false
 | .app e esz bytes s x=>match x with
  | .slice _ m _=>elemsT t esz x fun news=>appT e esz bytes s m news n t K
  |_=>false
 | .iaddrp esz m x i=>match x,i with
  | .pointer (some ⟨b,o,none⟩),.int _ (.ofNat i)=>asT (Nat.ble (i+1) m) (forceN (o+i*esz) fun o'=>K (ptr b o') n t)
  |_,_=>false
 | .slarr esz len x lo hi mx=>match x with
  | .pointer (some ⟨b,o,none⟩)=>bndT mx len len fun mm=>bndT hi len mm fun h=>bndT lo 0 h fun l=>forceN (o+l*esz) fun o'=>forceN (h-l) fun m'=>forceN (mm-l) fun k'=>K (slc b o' m' k') n t
  |_=>false
 | .rng x=>match x with
  | .string s=>allocT (.obj true (.stringIter s 0)) n t fun n' t'=>K (ptr n 0) n' t'
  |_=>false
 | .next x=>match x with
  | .pointer (some ⟨b,0,none⟩)=>t.getK b fun ao=>match ao with
   | .obj true (.stringIter s pos)=>match Nat.ble (pos+1) (bLen s)with
    |true=>forceI (Utf8.decode s pos).1 fun c=>forceN (pos+(Utf8.decode s pos).2) fun q=>t.setK b (.obj true (.stringIter s q)) fun t'=>K (.tuple #[.bool true,.int .i64 pos,.int .i32 c]) n t'
    |false=>K (.tuple #[.bool false]) n t
   |_=>false
  |_=>false
 | .copy esz d x=>match d,x with
  | .slice none a k,.slice _ _ _=>asT (Nat.beq a 0) (asT (Nat.beq k 0) (K (.int .i64 0) n t))
  | .slice (some ⟨b,o,none⟩) a _,.slice _ m _=>elemsT t esz x fun l=>t.getK b fun ao=>match ao with
   | .cells own room esz' c e=>forceN (min m a) fun q=>match Nat.beq q 0 with
    |true=>K (.int .i64 0) n t
    |false=>asT own (asT (Nat.ble (o+q*esz) c.length) (t.setK b (.cells own room esz' (c.take o++l.take (q*esz)++c.drop (o+q*esz)) e) fun t'=>K (.int .i64 (.ofNat q)) n t'))
   |_=>false
  |_,_=>false
 | .clr esz z x=>match x with
  | .slice none a k=>asT (Nat.beq a 0) (asT (Nat.beq k 0) (K (.tuple #[]) n t))
  | .slice (some ⟨b,o,none⟩) a _=>match Nat.beq a 0 with
   |true=>K (.tuple #[]) n t
   |false=>t.getK b fun ao=>match ao with
    | .cells own room esz' c e=>asT own (asT (Nat.ble (o+a*esz) c.length) (asT (Nat.beq z.length esz) (asT (allOne z) (t.setK b (.cells own room esz' (c.take o++(List.replicate a z).flatten++c.drop (o+a*esz)) e) fun t'=>K (.tuple #[]) n t'))))
    |_=>false
  |_=>false
 | .apps e bytes s x=>match x with
  | .string tx=>forceN (bLen tx) fun m=>appT e 1 bytes s m (tx.data.toList.map fun b=>.int .u8 b.toNat) n t K
  |_=>false
 | .mark x=>match x with
  | .slice (some ⟨b,_,none⟩) _ _=>t.getK b fun ao=>match ao with
   | .cells true _ _ _ _=>K x n t
   |_=>false
  |_=>false
 | .callf _ _=>false
 | .callv _ _=>false
 | .bad=>false
 |op=>optK (plainT op) fun v=>K v n t
end Go.AM

namespace Go.AM
structure EF where
 na:Nat
 sl:List Nat
 res:List RX
 body:ACode
def simpC:ACode→ACode
 | .dreg ops=>if ops.all (fun p=>p.2.isEmpty)then .reg (ops.map (·.1))else .dreg ops
 | .seq a b=>.seq (simpC a) (simpC b)
 | .cond c t e=>.cond c (simpC t) (simpC e)
 | .block id c=>.block id (simpC c)
 | .loop c=>.loop (simpC c)
 |c=>c
theorem RD_RW{P:Program}{ng:Nat}:∀{l:List (AOper×List Nat)} {fr tm:List Value} {H:AHeap} {tr:List TE} {K:List Value→AHeap→Prop},l.all (fun p=>p.2.isEmpty)=true→RW P ng (l.map (·.1)) fr tm H K→RD P ng l fr tm H tr K
 |[],fr,tm,H,tr,K,_,h=>h
 |(o,un)::l,fr,tm,H,tr,K,hl,h=>by
  simp only[List.all_cons,Bool.and_eq_true,List.isEmpty_iff]at hl
  obtain⟨h1,h2⟩:=hl
  subst h1
  simp only[RD,List.map_cons,RW]at h ⊢
  split at h
  ·rename_i hw
   rw[if_pos hw]
   refine stepA_mono ?_ h
   intro v H' hh
   exact⟨trivial,RD_RW h2 hh⟩
  ·rename_i hw
   rw[if_neg hw]
   exact RD_RW h2 h
theorem W_simp{P:Program}{ng:Nat}:∀(c:ACode) {Q:AQ} {fr:List Value} {H:AHeap},W P ng (simpC c) Q fr H→W P ng c Q fr H:=by
 intro c
 induction c with
 |dreg ops=>
  intro Q fr H h
  simp only[simpC]at h
  split at h
  ·rename_i hh
   exact RD_RW hh h
  ·exact h
 |seq a b iha ihb=>
  intro Q fr H h
  have h1:=iha h
  show W P ng a (Q.andThen (W P ng b Q)) fr H
  refine W_mono ?_ h1
  intro e fr H hh
  cases e<;>first|exact ihb hh|exact hh
 |cond c t e iht ihe=>
  intro Q fr H h
  simp only[simpC,W]at h ⊢
  split at h
  ·rename_i b hb
   cases b
   ·simpa using ihe (by simpa using h)
   ·simpa using iht (by simpa using h)
  ·exact h
 |block id c ih=>intro Q fr H h;exact ih h
 |loop c ih=>
  intro Q fr H h
  simp only[simpC,W]at h ⊢
  obtain⟨I,n,h0,hs⟩:=h
  exact⟨I,n,h0,fun k fr H hI=>ih (hs k fr H hI)⟩
 |skip=>intro Q fr H h;exact h
 |reg ops=>intro Q fr H h;exact h
 |exit id=>intro Q fr H h;exact h
 |ret=>intro Q fr H h;exact h
 |rangeF g N sl ps a b=>intro Q fr H h;exact h
abbrev CK:=Value→Nat→HT→Bool
abbrev Caller:=FuncId→List Value→Nat→HT→CK→Bool
noncomputable def wantK(g:Option (AX×Bool))(fr tm:List Value)(K:Bool→Bool):Bool:=match g with
 |none=>K true
 |some (x,b)=>evX x fr tm fun v=>match v with
  | .bool t=>match t,b with
   |true,true=>K true
   |false,false=>K true
   |_,_=>K false
  |_=>K false
theorem wantK_eq(g:Option (AX×Bool))(fr tm:List Value)(K:Bool→Bool):wantK g fr tm K=K (wantA g fr tm):=by
 cases g with
 |none=>rfl
 |some p=>
  obtain⟨x,b⟩:=p
  simp only[wantK,evX_eq,wantA]
  cases x.ev fr tm<;>try rfl
  rename_i t
  cases t<;>cases b<;>rfl
noncomputable def dstK(d:D)(v:Value)(fr tm:List Value)(K:List Value→List Value→Bool):Bool:=match d with
 | .no=>K fr tm
 | .fr i=>updK v fr i fun fr=>K fr tm
 | .tm=>K fr (v::tm)
theorem dstK_eq(d:D)(v:Value)(fr tm:List Value)(K:List Value→List Value→Bool):dstK d v fr tm K=K (d.frame v fr) (d.temps v tm):=by
 cases d<;>simp only[dstK,updK_eq,D.frame,D.temps]
abbrev FK:=List Value→Nat→HT→Bool
structure TT where
 k:Nat
 bs:List Nat
 n:Nat
 t:HT
 t':HT
noncomputable def keepsT:List Nat→HT→HT→Bool
 |[],_,_=>true
 |b::l,t,t'=>asT (t.getK b fun o=>t'.getK b fun o'=>aoEq o' o) (keepsT l t t')
def olderT:List Nat→Nat→Bool
 |[],_=>true
 |b::l,n=>match Nat.ble (b+1) n with
  |true=>olderT l n
  |false=>false
theorem olderT_true{n:Nat}{H:AHeap}(hn:H.n=n):∀{l:List Nat},olderT l n=true→olderB l H
 |[],_=>trivial
 |b::l,h=>by
  simp only[olderT]at h
  split at h
  ·rename_i e
   exact⟨by rw[hn];exact Nat.le_of_ble_eq_true e,olderT_true hn h⟩
  ·cases h
noncomputable def oblT(k:Nat)(bs:List Nat)(t t':HT)(tr:List TT):List Nat→Bool
 |[]=>true
 |i::un=>match tr[i]? with
  |some e=>match Nat.beq k 1&&Nat.beq e.k 3,Nat.beq k 3&&(Nat.beq e.k 1||Nat.beq e.k 2)with
   |true,_=>asT (olderT bs e.n) (asT (keepsT bs e.t e.t') (oblT k bs t t' tr un))
   |false,true=>asT (keepsT e.bs t t') (oblT k bs t t' tr un)
   |false,false=>oblT k bs t t' tr un
  |none=>false
noncomputable def initK(sl:List Nat)(args:List Value):(List Value→Bool)→Bool:=
 List.rec (motive:=fun _=>(List Value→Bool)→Bool) (fun K=>K []) (fun s _ ih K=>nthK args s fun v=>ih fun vs=>K (v::vs)) sl
theorem initK_eq:∀(sl:List Nat) (args:List Value) (K:List Value→Bool),initK sl args K=K (initFr sl args)
 |[],args,K=>rfl
 |s::sl,args,K=>by
  have:initK (s::sl) args K=nthK args s fun v=>initK sl args fun vs=>K (v::vs):=rfl
  rw[this,nthK_eq,initK_eq sl];rfl
noncomputable def cell1K(v:Value)(t:HT)(K:Value→Bool):Bool:=match v with
 | .pointer (some ⟨b,o,none⟩)=>t.getK b fun ao=>match ao with
  | .cells _ _ _ c _=>nthO c o K
  |_=>false
 |_=>false
noncomputable def cellnK(m:Nat)(v:Value)(t:HT)(K:Value→Bool):Bool:=match v with
 | .pointer (some ⟨b,o,none⟩)=>t.getK b fun ao=>match ao with
  | .cells _ _ _ c _=>asT (Nat.ble (o+m) c.length) (K (.agg ((c.drop o).take m).toArray))
  |_=>false
 |_=>false
noncomputable def rxK(x:RX)(fr:List Value)(t:HT)(K:Value→Bool):Bool:=match x with
 | .t i=>nthK fr i K
 | .c1 i=>nthK fr i fun v=>cell1K v t K
 | .cn m i=>nthK fr i fun v=>cellnK m v t K
noncomputable def rxsK(l:List RX)(fr:List Value)(t:HT):(List Value→Bool)→Bool:=
 List.rec (motive:=fun _=>(List Value→Bool)→Bool) (fun K=>K []) (fun x _ ih K=>rxK x fr t fun v=>ih fun vs=>K (v::vs)) l
noncomputable def resK(res:List RX)(fr:List Value)(t:HT)(K:Value→Bool):Bool:=rxsK res fr t fun vs=>K (tupV vs)
abbrev EK:=Exit→List Value→Nat→HT→Bool
noncomputable def seqK(ihb:List Value→Nat→HT→EK→Bool)(K:EK):EK:=fun e fr n t=>match e with
 | .normal=>ihb fr n t K
 |e=>K e fr n t
noncomputable def blockK(id:Nat)(K:EK):EK:=fun e fr n t=>match e with
 | .exit id'=>Bool.rec (motive:=fun _=>Bool) (K (.exit id') fr n t) (K .normal fr n t) (Nat.beq id' id)
 |e=>K e fr n t
noncomputable def condK(v:Value)(a b:Bool):Bool:=match v with
 | .bool t=>Bool.rec (motive:=fun _=>Bool) b a t
 |_=>false
theorem W_again{P:Program}{ng:Nat}{c:ACode}{Q:AQ}{fr:List Value}{H:AHeap}(h:W P ng c (Q.andThen (W P ng (.loop c) Q)) fr H):W P ng (.loop c) Q fr H:=by
 obtain⟨e,fr1,H1,h1,h2⟩:=W_out c h
 by_cases he:e=.normal
 ·subst he
  obtain⟨I1,n1,g0,gs⟩:∃(I:Nat→List Value→AHeap→Prop) (n:Nat),I n fr1 H1∧∀k fr H,I k fr H→W P ng c (Q.andThen fun fr H=>∃k',k'<k∧I k' fr H) fr H:=h1
  refine⟨fun k f h=>(k=n1+1∧f=fr∧h=H)∨(k≤n1∧I1 k f h),n1+1,.inl ⟨rfl,rfl,rfl⟩,?_⟩
  rintro k f h (⟨rfl,rfl,rfl⟩|⟨hk1,hI1⟩)
  ·refine W_mono ?_ h2
   rintro e' fr' H' ⟨rfl,rfl,rfl⟩
   exact⟨n1,by omega,.inr ⟨Nat.le_refl _,g0⟩⟩
  ·refine W_mono ?_ (gs k f h hI1)
   intro e' fr' H' hh
   cases e' with
   |normal=>obtain⟨k2,a,b⟩:=hh;exact⟨k2,a,.inr ⟨by omega,b⟩⟩
   |exit id=>exact hh
   |ret=>exact hh
   |goto l=>exact hh
   |panic ch=>exact hh
   |outgrown=>exact hh
 ·refine⟨fun k f h=>f=fr∧h=H,0,⟨rfl,rfl⟩,?_⟩
  rintro k f h ⟨rfl,rfl⟩
  refine W_mono ?_ h2
  rintro e' fr' H' ⟨rfl,rfl,rfl⟩
  cases e'<;>first|exact absurd rfl he|exact h1
noncomputable def isTrue:CK:=fun v _ _=>match v with
 | .bool b=>b
 |_=>false
end Go.AM

namespace Go.AM
def okFs(P:Program)(f:TypeId→Bool):List Field→Nat→Nat→Bool
 |[],off,tot=>off==tot
 |fd::r,off,tot=>fd.offset==off&&f fd.type&&okFs P f r (off+P.cellsOf fd.type) tot
def okT(P:Program):Nat→TypeId→Bool
 |0,_=>false
 |d+1,t=>match P.underlying t with
  |some .bool=>P.cellsOf t==1
  |some (.int _)=>P.cellsOf t==1
  |some .string=>P.cellsOf t==1
  |some (.slice e)=>P.cellsOf t==1&&decide (0<P.cellsOf e)&&okT P d e
  |some (.struct fs)=>okFs P (okT P d) fs.toList 0 (P.cellsOf t)
  |some (.array n e)=>n*P.cellsOf e==P.cellsOf t&&okT P d e
  |_=>false
inductive AR (P:Program) (G:Gf):TypeId→List Value→Prop
 |bool {t:TypeId} {b:Bool} (h:P.underlying t=some .bool):AR P G t [.bool b]
 |int {t:TypeId} {k:IntKind} {n:Int} (h:P.underlying t=some (.int k)) (hw:(Lit.int k n).wf=true):AR P G t [.int k n]
 |str {t:TypeId} {s:ByteArray} (h:P.underlying t=some .string) (hs:s.size≤maxLen∧s.size≤reachBytes):AR P G t [.string s]
 |nil {t e:TypeId} (h:P.underlying t=some (.slice e)):AR P G t [.slice none 0 0]
 |zero {t e:TypeId} {x:Addr} (h:P.underlying t=some (.slice e)) (hx:x.spot.isSome=true):AR P G t [.slice (some x) 0 0]
 |sl {t e:TypeId} {b n k:Nat} {c:List Value} {u:TypeId} (h:P.underlying t=some (.slice e)) (hk:0<k) (hn:n≤k) (hm:k≤maxLen∧k*P.bytesOf e≤reachBytes) (hb:G b=some (.cells false false (P.cellsOf e) c u)) (hc:c.length=k*P.cellsOf e)
  (hi:∀i,i<k→AR P G e ((c.drop (i*P.cellsOf e)).take (P.cellsOf e))):AR P G t [slc b 0 n k]
 |struct {t:TypeId} {fs:Array Field} {cs:List Value} (h:P.underlying t=some (.struct fs)) (hl:cs.length=P.cellsOf t)
  (hf:∀(i:Nat) (f:Field),fs[i]? =some f→AR P G f.type ((cs.drop f.offset).take (P.cellsOf f.type))):AR P G t cs
 |array {t e:TypeId} {n:Nat} {cs:List Value} (h:P.underlying t=some (.array n e)) (hl:cs.length=P.cellsOf t)
  (hi:∀i,i<n→AR P G e ((cs.drop (i*P.cellsOf e)).take (P.cellsOf e))):AR P G t cs
theorem AR.mono{P:Program}{G G':Gf}(hg:∀b o,G b=some o→G' b=some o){t:TypeId}{cs:List Value}(h:AR P G t cs):AR P G' t cs:=by
 induction h with
 |bool h=>exact .bool h
 |int h hw=>exact .int h hw
 |str h hs=>exact .str h hs
 |nil h=>exact .nil h
 |zero h hx=>exact .zero h hx
 |sl h hk hn hm hb hc _ ih=>exact .sl h hk hn hm (hg _ _ hb) hc ih
 |struct h hl _ ih=>exact .struct h hl ih
 |array h hl _ ih=>exact .array h hl ih
def NoOwn(H:AHeap):Prop:=∀b o,H.get b=some o→o.own=false
section
variable {H0:Type} {enc:TypeId×Value→H0} {P:Program} {w:World} {ng:Nat}
structure Opened (P:Program) (ng:Nat) (w:World) (σ:Sg) (H:AHeap) (σ':Sg) (H':AHeap):Prop where
 le:σ.le σ'
 keep:Keeps H H'
 hr:HR ng σ' H'.get w
 no:NoOwn H'
theorem Opened.refl{σ:Sg}{H:AHeap}(hr:HR ng σ H.get w)(no:NoOwn H):Opened P ng w σ H σ H:=⟨Sg.le.refl σ,Keeps.refl H,hr,no⟩
theorem Opened.trans{σ σ1 σ2:Sg}{H H1 H2:AHeap}(h:Opened P ng w σ H σ1 H1)(k:Opened P ng w σ1 H1 σ2 H2):Opened P ng w σ H σ2 H2:=⟨h.le.trans k.le,h.keep.trans k.keep,k.hr,k.no⟩
theorem Keeps.ar{H H':AHeap}(k:Keeps H H'){t:TypeId}{cs:List Value}(h:AR P H.get t cs):AR P H'.get t cs:=h.mono (fun b o hb=>k.at_ hb)
def OpenP(P:Program)(ng:Nat)(w:World)(t:TypeId)(cs:List Value):Prop:=∀σ H,HR ng σ H.get w→NoOwn H→∃σ' H' cs',Opened P ng w σ H σ' H'∧VL σ' cs' cs∧AR P H'.get t cs'∧∀v∈cs',v.oneCell'=true
theorem open_row{e:TypeId}{z:Nat}:∀(k:Nat) (css:Nat→List Value),(∀i,i<k→(css i).length=z∧OpenP P ng w e (css i))→∀σ H,HR ng σ H.get w→NoOwn H→
 ∃σ' H' c,Opened P ng w σ H σ' H'∧VL σ' c ((List.range k).flatMap css)∧c.length=k*z∧(∀v∈c,v.oneCell'=true)∧∀i,i<k→AR P H'.get e ((c.drop (i*z)).take z)
 |0,css,_,σ,H,hr,no=>⟨σ,H,[],Opened.refl hr no,.nil,by simp,by simp,fun i hi=>by omega⟩
 |k+1,css,h,σ,H,hr,no=>by
  obtain⟨σ1,H1,c,h1,h2,h3,h4,h5⟩:=open_row k css (fun i hi=>h i (by omega)) σ H hr no
  obtain⟨hz,hop⟩:=h k (by omega)
  obtain⟨σ2,H2,cs',g1,g2,g3,g4⟩:=hop σ1 H1 h1.hr h1.no
  have hl:cs'.length=z:=by rw[g2.length,hz]
  refine⟨σ2,H2,c++cs',h1.trans g1,?_,by rw[List.length_append,h3,hl,Nat.add_mul];omega,?_,?_⟩
  ·rw[List.range_succ,List.flatMap_append]
   simpa using(h2.mono g1.le).append g2
  ·intro v hv
   rcases List.mem_append.1 hv with hv|hv
   ·exact h4 v hv
   ·exact g4 v hv
  ·intro i hi
   by_cases hik:i<k
   ·have hle:i*z+z≤c.length:=by
     rw[h3]
     have:(i+1)*z≤k*z:=Nat.mul_le_mul_right _ hik
     rw[Nat.add_mul]at this
     omega
    rw[List.drop_append_of_le_length (by omega),List.take_append_of_le_length (by rw[List.length_drop];omega)]
    exact g1.keep.ar (h5 i hik)
   ·have:i=k:=by omega
    subst this
    rw[←h3,List.drop_left,←hl,List.take_length]
    exact g3
theorem open_fields{cs:List Value}{tot:Nat}{f:TypeId→Bool}:∀(fs:List Field) (off:Nat),okFs P f fs off tot=true→off≤cs.length→cs.length=tot→
 (∀fd∈fs,f fd.type=true→OpenP P ng w fd.type ((cs.drop fd.offset).take (P.cellsOf fd.type)))→(∀fd∈fs,f fd.type=true→((cs.drop fd.offset).take (P.cellsOf fd.type)).length=P.cellsOf fd.type)→∀σ H,HR ng σ H.get w→NoOwn H→
 ∃σ' H' c,Opened P ng w σ H σ' H'∧VL σ' c (cs.drop off)∧(∀v∈c,v.oneCell'=true)∧∀fd∈fs,off≤fd.offset∧AR P H'.get fd.type ((c.drop (fd.offset-off)).take (P.cellsOf fd.type))
 |[],off,hk,hle,ht,_,_,σ,H,hr,no=>by
  simp only[okFs,beq_iff_eq]at hk
  refine⟨σ,H,[],Opened.refl hr no,?_,by simp,by simp⟩
  rw[List.drop_eq_nil_of_le (by omega)];exact .nil
 |fd::fs,off,hk,hle,ht,hop,hfit,σ,H,hr,no=>by
  simp only[okFs,Bool.and_eq_true,beq_iff_eq]at hk
  obtain⟨⟨h1,h2⟩,h3⟩:=hk
  have hft0:=hfit fd (by simp) h2
  have hft:fd.offset+P.cellsOf fd.type≤cs.length:=by rw[List.length_take,List.length_drop]at hft0;omega
  obtain⟨σ1,H1,c1,g1,g2,g3,g4⟩:=hop fd (by simp) h2 σ H hr no
  obtain⟨σ2,H2,c2,k1,k2,k3,k4⟩:=open_fields fs (off+P.cellsOf fd.type) h3 (by omega) ht (fun x hx=>hop x (by simp[hx])) (fun x hx=>hfit x (by simp[hx])) σ1 H1 g1.hr g1.no
  have hl:c1.length=P.cellsOf fd.type:=by rw[g2.length,List.length_take,List.length_drop];omega
  refine⟨σ2,H2,c1++c2,g1.trans k1,?_,?_,?_⟩
  ·have e:cs.drop off=(cs.drop fd.offset).take (P.cellsOf fd.type)++cs.drop (off+P.cellsOf fd.type):=by
    rw[h1,←List.drop_drop,List.take_append_drop]
   rw[e]
   exact(g2.mono k1.le).append k2
  ·intro v hv
   rcases List.mem_append.1 hv with hv|hv
   ·exact g4 v hv
   ·exact k3 v hv
  ·intro x hx
   rcases List.mem_cons.1 hx with rfl|hx
   ·refine⟨by omega,?_⟩
    rw[h1,Nat.sub_self,List.drop_zero,←hl,List.take_left]
    exact k1.keep.ar g3
   ·obtain⟨a1,a2⟩:=k4 x hx
    refine⟨by omega,?_⟩
    rw[show x.offset-off=c1.length+(x.offset-(off+P.cellsOf fd.type)) by omega,List.drop_length_add_append]
    exact a2
theorem row_flat(l:List Value)(o z:Nat):∀k,(List.range k).flatMap (fun i=>(l.drop (o+i*z)).take z)=(l.drop o).take (k*z)
 |0=>by simp
 |k+1=>by
  rw[List.range_succ,List.flatMap_append,row_flat l o z k,Nat.add_mul,Nat.one_mul,List.take_add,List.drop_drop]
  simp
theorem cells_of{b:Nat}{a:Addr}{n:Nat}{l:List Value}(h:w.cells? b a n=some l):l.length=n∧∀i,i<n→w.cell? (a.add i)=l[i]? :=by
 unfold World.cells? at h
 split at h
 ·exact⟨by simpa using mapM_some_length h,fun i hi=>mapM_some_get h i i (by simp[hi])⟩
 ·cases h
def Rch(P:Program)(t:TypeId)(d:DataW H0):Prop:=∀m∈d.weights P t,m≤reachBytes
theorem rch_all{e:TypeId}:∀{l:List (DataW H0)},(∀m∈DataW.weightsAll P e l,m≤reachBytes)→∀d∈l,Rch P e d
 |[],_,d,hd=>by simp at hd
 |y::l,h,d,hd=>by
  simp only[DataW.weightsAll,List.mem_append]at h
  rcases List.mem_cons.1 hd with rfl|hd
  ·exact fun m hm=>h m (.inl hm)
  ·exact rch_all (fun m hm=>h m (.inr hm)) d hd
theorem mem_weightsAll{e:TypeId}{m:Nat}:∀{l:List (DataW H0×List MemPlace)} {y:DataW H0×List MemPlace},y∈l→m∈y.1.weights P e→m∈DataW.weightsAll P e (l.map (·.1))
 |[],_,hy,_=>by simp at hy
 |z::zs,y,hy,hm=>by
  simp only[List.map_cons,DataW.weightsAll,List.mem_append]
  rcases List.mem_cons.1 hy with rfl|hy
  ·exact .inl hm
  ·exact .inr (mem_weightsAll hy hm)
theorem rch_each:∀{ts:List TypeId} {l:List (DataW H0)},(∀m∈DataW.weightsEach P ts l,m≤reachBytes)→∀(i:Nat) t d,ts[i]? =some t→l[i]? =some d→Rch P t d
 |[],_,_,i,t,d,h1,_=>by simp at h1
 |_::_,[],_,i,t,d,_,h2=>by simp at h2
 |t0::ts,y::l,h,i,t,d,h1,h2=>by
  simp only[DataW.weightsEach,List.mem_append]at h
  cases i with
  |zero=>simp only[List.getElem?_cons_zero,Option.some.injEq]at h1 h2;subst h1 h2;exact fun m hm=>h m (.inl hm)
  |succ i=>exact rch_each (fun m hm=>h m (.inr hm)) i t d (by simpa using h1) (by simpa using h2)
theorem open_cells:∀(fuel:Nat) (d:Nat) (t:TypeId) (cs:List Value) (x:DataW H0×List MemPlace),okT P d t=true→Rch P t x.1→DataW.trod enc P w 0 (fun _=>true) true fuel t cs=some x→cs.length=P.cellsOf t∧OpenP P ng w t cs:=by
 intro fuel
 induction fuel with
 |zero=>intro d t cs x _ _ h;simp[DataW.trod]at h
 |succ fuel ih=>
  intro d t cs x hok hx h
  cases d with
  |zero=>simp[okT]at hok
  |succ d=>
   simp only[okT]at hok
   split at hok
   ·rename_i hu
    obtain⟨b,rfl,_⟩:=DataW.trod_bool hu h
    exact⟨by simpa using(beq_iff_eq.1 hok).symm,fun σ H hr no=>⟨σ,H,[.bool b],Opened.refl hr no,.cons (.bool b) .nil,.bool hu,by simp[Value.oneCell']⟩⟩
   ·rename_i k hu
    obtain⟨n,rfl,_,hw⟩:=DataW.trod_int hu h
    exact⟨by simpa using(beq_iff_eq.1 hok).symm,fun σ H hr no=>⟨σ,H,[.int k n],Opened.refl hr no,.cons (.int k n) .nil,.int hu hw,by simp[Value.oneCell']⟩⟩
   ·rename_i hu
    obtain⟨s,rfl,rfl,hs⟩:=DataW.trod_string hu h
    have hs2:s.size≤reachBytes:=hx _ (by simp only[DataW.weights,List.mem_singleton,Array.length_toList];rfl)
    exact⟨by simpa using(beq_iff_eq.1 hok).symm,fun σ H hr no=>⟨σ,H,[.string s],Opened.refl hr no,.cons (.string s) .nil,.str hu ⟨hs,hs2⟩,by simp[Value.oneCell']⟩⟩
   ·rename_i e hu
    simp only[Bool.and_eq_true,beq_iff_eq,decide_eq_true_eq]at hok
    obtain⟨⟨hc1,hz⟩,hoke⟩:=hok
    rcases DataW.trod_slice hu h with⟨rfl,_⟩|⟨a,len,cap,elems,rest,m,hfu,rfl,rfl,_,hlc,hcm,hel,helems,hrest,_⟩
    ·exact⟨by simpa using hc1.symm,fun σ H hr no=>⟨σ,H,[.slice none 0 0],Opened.refl hr no,.cons .nilSl .nil,.nil hu,by simp[Value.oneCell']⟩⟩
    ·cases hfu
     refine⟨by simpa using hc1.symm,fun σ H hr no=>?_⟩
     by_cases hcap:cap=0
     ·subst hcap
      have:len=0:=by omega
      subst this
      exact⟨σ,H,[.slice (some ⟨0,0,some 0⟩) 0 0],Opened.refl hr no,.cons (.slz rfl) .nil,.zero hu rfl,by simp[Value.oneCell']⟩
     ·obtain⟨hr1,hr2⟩:=hrest rfl
      have hx2:cap*P.bytesOf e≤reachBytes:=by
       refine hx _ ?_
       unfold DataW.weights
       rw[hu]
       simp only[List.length_map,hel,hr1,show len+(cap-len)=cap by omega]
       exact List.mem_cons_self
      have hx3:∀y∈elems,Rch P e y.1:=fun y hy m hm=>hx m (by
       unfold DataW.weights
       rw[hu]
       exact List.mem_cons_of_mem _ (List.mem_append.2 (.inl (mem_weightsAll hy hm))))
      have hx4:∀y∈rest,Rch P e y.1:=fun y hy m hm=>hx m (by
       unfold DataW.weights
       rw[hu]
       exact List.mem_cons_of_mem _ (List.mem_append.2 (.inr (mem_weightsAll hy hm))))
      have elem:∀i,i<cap→∃l,w.cells? 0 (a.add (i*P.cellsOf e)) (P.cellsOf e)=some l∧∃y,Rch P e y.1∧DataW.trod enc P w 0 (fun _=>true) true fuel e l=some y:=by
       intro i hi
       by_cases hil:i<len
       ·have:=helems i hil
        rw[List.getElem?_eq_getElem (by omega)]at this
        simp only[Option.bind_eq_some_iff]at this
        obtain⟨l,h1,h2⟩:=this
        exact⟨l,h1,_,hx3 _ (List.getElem_mem _),h2⟩
       ·have:=hr2 (i-len) (by omega)
        rw[List.getElem?_eq_getElem (by omega),show len+(i-len)=i by omega]at this
        simp only[Option.bind_eq_some_iff]at this
        obtain⟨l,h1,h2⟩:=this
        exact⟨l,h1,_,hx4 _ (List.getElem_mem _),h2⟩
      -- the block
      obtain⟨l0,hl0,_⟩:=elem 0 (by omega)
      obtain⟨hl0n,hl0c⟩:=cells_of hl0
      have hc0:=hl0c 0 hz
      rw[Nat.zero_mul,show a.add 0=a by simp[Addr.add],show a.add 0=a by simp[Addr.add],List.getElem?_eq_getElem (by omega)]at hc0
      obtain⟨cc,ty,fr,hblk,hspot,hc0'⟩:∃cc ty fr,w.heap[a.block]? =some (.cells cc ty fr)∧a.spot=none∧cc[a.off]? =some (l0[0]'(by omega)):=by
       unfold World.cell? at hc0
       split at hc0
       ·rename_i cc ty fr hb
        split at hc0
        ·cases hc0
        ·rename_i hs
         exact⟨cc,ty,fr,hb,by simpa using hs,hc0⟩
       ·cases hc0
      obtain⟨ab,ao,asp⟩:=a
      simp only at hspot hblk hc0'
      subst hspot
      have cell:∀j,w.cell? ⟨ab,j,none⟩=cc[j]? :=fun j=>by simp[World.cell?,hblk]
      have elem2:∀i,i<cap→((cc.toList.drop (ao+i*P.cellsOf e)).take (P.cellsOf e)).length=P.cellsOf e∧OpenP P ng w e ((cc.toList.drop (ao+i*P.cellsOf e)).take (P.cellsOf e)):=by
       intro i hi
       obtain⟨l,h1,y,hyr,h2⟩:=elem i hi
       obtain⟨hln,hlc⟩:=cells_of h1
       have hl:l=(cc.toList.drop (ao+i*P.cellsOf e)).take (P.cellsOf e):=by
        apply List.ext_getElem?
        intro j
        by_cases hj:j<P.cellsOf e
        ·rw[←hlc j hj,List.getElem?_take_of_lt hj,List.getElem?_drop,add_plain,add_plain,cell]
         simp
        ·rw[List.getElem?_eq_none (by omega),List.getElem?_eq_none (by rw[List.length_take];omega)]
       rw[←hl]
       have:=ih d e l y hoke hyr h2
       exact⟨hln,this.2⟩
      obtain⟨σ1,H1,c,g1,g2,g3,g4,g5⟩:=open_row cap (fun i=>(cc.toList.drop (ao+i*P.cellsOf e)).take (P.cellsOf e)) elem2 σ H hr no
      rw[row_flat]at g2
      have hsz:ao+cap*P.cellsOf e≤cc.size∧0<cap*P.cellsOf e:=by
       have h1:=g2.length
       have h2:0<cap*P.cellsOf e:=Nat.mul_pos (by omega) hz
       rw[g3,List.length_take,List.length_drop,Array.length_toList]at h1
       omega
      have hnone:=g1.hr.none_of_ge (Nat.le_refl H1.n)
      have hlt:ab<w.heap.size:=by
       by_cases hh:ab<w.heap.size
       ·exact hh
       ·rw[Array.getElem?_eq_none (by omega)]at hblk;cases hblk
      let bi:BI:=⟨ab,ao,cap*P.cellsOf e,cc.size-ao,P.cellsOf e,false⟩
      let o2:AO:=.cells false false (P.cellsOf e) c ty
      have hor:OR σ1 w bi o2:=⟨g3.symm,rfl,rfl,by show c.length≤cc.size-ao;omega,g4,cc,fr,hblk,by show cc.size=ao+(cc.size-ao);omega,by rw[g3];exact g2,by simp⟩
      have hadd:=HR.add (o2:=o2) (G':=(H1.alloc o2).get) g1.hr hnone (fun x hx=>AHeap.get_alloc_ne H1 o2 hx) (AHeap.get_alloc_new H1 o2) hlt hor (fun x j ox _ hox hh=>by
       have:=g1.no x ox hox
       rcases hh with⟨_,h2⟩|⟨h2,_⟩
       ·cases h2
       ·rw[this]at h2;cases h2)
      have hk:Keeps H1 (H1.alloc o2):=(Keeps.refl H1).alloc o2
      refine⟨σ1.up H1.n bi,H1.alloc o2,[slc H1.n 0 len cap],g1.trans ⟨Sg.le_up _ hnone,hk,hadd,fun b o hb=>?_⟩,.cons ?_ .nil,?_,by simp[slc,Value.oneCell']⟩
      ·rw[alloc_get]at hb
       split at hb
       ·cases hb;rfl
       ·exact g1.no b o hb
      ·exact VR.sl (i:=bi) (o:=0) (Sg.up_same _ _ _) hlc (.inl rfl)
      ·exact .sl hu (by omega) hlc ⟨hcm,hx2⟩ (AHeap.get_alloc_new H1 o2) g3 (fun i hi=>hk.ar (g5 i hi))
   ·rename_i fs hu
    obtain⟨xs,m,hfu,rfl,hl,hxl,hxs⟩:=DataW.trod_struct hu h
    cases hfu
    have hx2:=rch_each (P:=P) (ts:=fs.toList.map (·.type)) (l:=xs.map (·.1)) (fun m hm=>hx m (by unfold DataW.weights;rw[hu];exact hm))
    refine⟨hl,fun σ H hr no=>?_⟩
    have each:∀fd∈fs.toList,okT P d fd.type=true→((cs.drop fd.offset).take (P.cellsOf fd.type)).length=P.cellsOf fd.type∧OpenP P ng w fd.type ((cs.drop fd.offset).take (P.cellsOf fd.type)):=by
     intro fd hfd hokf
     obtain⟨i,hi,hfi⟩:=List.mem_iff_getElem.1 hfd
     have hi':i<fs.size:=by simpa using hi
     have h1:fs[i]? =some fd:=by
      rw[Array.getElem?_eq_getElem hi']
      rw[←hfi];simp
     have h2:=hxs i fd h1
     rw[List.getElem?_eq_getElem (by omega)]at h2
     exact ih d fd.type _ _ hokf (hx2 i fd.type _ (by simpa using⟨fd,h1,rfl⟩) (by simp[List.getElem?_eq_getElem (show i<xs.length by omega)])) h2
    obtain⟨σ',H',c,g1,g2,g3,g4⟩:=open_fields fs.toList 0 hok (Nat.zero_le _) hl (fun fd hfd hf=>(each fd hfd hf).2) (fun fd hfd hf=>(each fd hfd hf).1) σ H hr no
    rw[List.drop_zero]at g2
    refine⟨σ',H',c,g1,g2,.struct hu (by rw[g2.length,hl]) (fun i f hf=>?_),g3⟩
    have:=(g4 f (by
     have:fs.toList[i]? =some f:=by simpa using hf
     exact List.mem_of_getElem? this)).2
    simpa using this
   ·rename_i n e hu
    simp only[Bool.and_eq_true,beq_iff_eq]at hok
    obtain⟨hn,hoke⟩:=hok
    obtain⟨xs,m,hfu,rfl,hl,hxl,hxs⟩:=DataW.trod_array hu h
    cases hfu
    have hx2:=rch_all (P:=P) (e:=e) (l:=xs.map (·.1)) (fun m hm=>hx m (by unfold DataW.weights;rw[hu];exact hm))
    refine⟨hl,fun σ H hr no=>?_⟩
    obtain⟨σ',H',c,g1,g2,g3,g4,g5⟩:=open_row (P:=P) (ng:=ng) (w:=w) (e:=e) (z:=P.cellsOf e) n (fun i=>(cs.drop (0+i*P.cellsOf e)).take (P.cellsOf e)) (fun i hi=>by
     have h2:=hxs i hi
     rw[List.getElem?_eq_getElem (by omega)]at h2
     rw[Nat.zero_add]
     exact ih d e _ _ hoke (hx2 _ (List.mem_map_of_mem (List.getElem_mem _))) h2) σ H hr no
    rw[row_flat,List.drop_zero,hn,←hl,List.take_length]at g2
    exact⟨σ',H',c,g1,g2,.array hu (by rw[g3,hn]) g5,g4⟩
   ·cases hok
end
end Go.AM

namespace Go.AM
open Go.RowKit Go.WideShapes Go.ChangeShapes
section
variable {H0:Type} {enc:TypeId×Value→H0} {P:Program} {w:World} {ng:Nat}
def AV(P:Program)(G:Gf)(t:TypeId)(v:Value):Prop:=AR P G t v.cells.toList∧(isAggT P t=some true→∃cs,v=.agg cs)∧(isAggT P t=some false→v.oneCell'=true)
def AVs(P:Program)(G:Gf):List TypeId→List Value→Prop
 |[],[]=>True
 |t::ts,v::vs=>AV P G t v∧AVs P G ts vs
 |_,_=>False
theorem AV.mono{G G':Gf}(hg:∀b o,G b=some o→G' b=some o){t:TypeId}{v:Value}(h:AV P G t v):AV P G' t v:=⟨h.1.mono hg,h.2⟩
theorem okWide_shape{t:TypeId}{v:Value}{d:Nat}(hok:okT P d t=true)(hv:Value.okWide P w .any 0 t v):(∃cs,v=.agg cs∧isAggT P t=some true)∨(v.cells= #[v]∧isAggT P t=some false∧v.oneCell'=true):=by
 cases d with
 |zero=>simp[okT]at hok
 |succ d=>
  simp only[okT]at hok
  split at hok
  ·rename_i hu
   obtain⟨b,rfl⟩:=okWide_bool hu hv
   exact .inr ⟨rfl,by unfold isAggT;rw[hu];rfl,rfl⟩
  ·rename_i hu
   obtain⟨b,rfl⟩:=okWide_int hu hv
   exact .inr ⟨rfl,by unfold isAggT;rw[hu];rfl,rfl⟩
  ·rename_i hu
   obtain⟨b,rfl⟩:=okWide_string hu hv
   exact .inr ⟨rfl,by unfold isAggT;rw[hu];rfl,rfl⟩
  ·rename_i hu
   obtain⟨a,n,k,rfl⟩:=okWide_slice hu hv
   exact .inr ⟨rfl,by unfold isAggT;rw[hu];rfl,rfl⟩
  ·rename_i hu
   obtain⟨cs,rfl,_⟩:=okWide_struct hu hv
   exact .inl ⟨cs,rfl,by unfold isAggT;rw[hu];rfl⟩
  ·rename_i n e hu
   unfold Value.okWide at hv
   rw[hu]at hv
   obtain⟨cs,rfl,_⟩:=hv
   exact .inl ⟨cs,rfl,by unfold isAggT;rw[hu];rfl⟩
  ·cases hok
theorem open_arg{t:TypeId}{v:Value}{d:DataW H0}{ps:List MemPlace}(hok:okT P 20 t=true)(hv:Value.okWide P w .any 0 t v)(hx:Rch P t d)(h:DataW.Trod enc P w 0 (fun _=>true) true t v d ps){σ:Sg}{H:AHeap}(hr:HR ng σ H.get w)(no:NoOwn H):
 ∃σ' H' v',Opened P ng w σ H σ' H'∧VR σ' v' v∧AV P H'.get t v':=by
 obtain⟨fuel,hf⟩:=h
 obtain⟨hl,hop⟩:=open_cells (ng:=ng) fuel 20 t _ _ hok hx hf
 obtain⟨σ',H',cs',g1,g2,g3,g4⟩:=hop σ H hr no
 rcases okWide_shape hok hv with⟨cs,rfl,hag⟩|⟨hc,hag,hone⟩
 ·refine⟨σ',H',.agg cs'.toArray,g1,?_,g3,fun _=>⟨_,rfl⟩,(fun h=>by rw[hag]at h;cases h)⟩
  have:=VR.agg_of g2
  simpa[Value.cells]using this
 ·rw[hc]at g2
  match cs',g2 with
  |[u],.cons hu .nil=>
   have h1:=g4 u (by simp)
   refine⟨σ',H',u,g1,hu,?_,(fun h=>by rw[hag]at h;cases h),fun _=>h1⟩
   rw[cells_one h1];exact g3
theorem open_args:∀{ts:List TypeId} {vs:List Value} {ds:List (DataW H0)} {ps:List MemPlace},(∀t∈ts,okT P 20 t=true)→(∀(j:Nat) t v,ts[j]? =some t→vs[j]? =some v→Value.okWide P w .any 0 t v)→(∀m∈DataW.weightsEach P ts ds,m≤reachBytes)→DataW.TrodAll enc P w 0 (fun _=>true) true ts vs ds ps→
 ∀{σ:Sg} {H:AHeap},HR ng σ H.get w→NoOwn H→∃σ' H' vs',Opened P ng w σ H σ' H'∧VL σ' vs' vs∧AVs P H'.get ts vs'
 |[],vs,ds,ps,_,_,_,h,σ,H,hr,no=>by
  obtain⟨rfl,_,_⟩:=trodAll_nil h
  exact⟨σ,H,[],Opened.refl hr no,.nil,trivial⟩
 |t::ts,vs,ds,ps,hok,hv,hx,h,σ,H,hr,no=>by
  obtain⟨v,vs',d,ds',p,q,rfl,rfl,rfl,h1,h2⟩:=trodAll_cons h
  obtain⟨σ1,H1,u,g1,g2,g3⟩:=open_arg (ng:=ng) (hok t (by simp)) (hv 0 t v rfl rfl) (fun m hm=>hx m (List.mem_append.2 (.inl hm))) h1 hr no
  obtain⟨σ2,H2,us,k1,k2,k3⟩:=open_args (fun t ht=>hok t (by simp[ht])) (fun j t v a b=>hv (j+1) t v (by simpa using a) (by simpa using b)) (fun m hm=>hx m (List.mem_append.2 (.inr hm))) h2 g1.hr g1.no
  exact⟨σ2,H2,u::us,g1.trans k1,.cons (g2.mono k1.le) k2,g3.mono (fun b o hb=>k1.keep.at_ hb),k3⟩
def globsH(n:Nat):AHeap:=⟨n,List.replicate n .dead⟩
theorem globsH_get{n b:Nat}(h:b<n):(globsH n).get b=some .dead:=by
 unfold globsH AHeap.get
 simp only[h,if_true]
 rw[List.getElem?_replicate,if_pos (by omega)]
theorem HR.globs(n:Nat)(w:World)(h:n≤w.heap.size):HR n (fun b=>if b<n then some ⟨b,0,0,0,0,false⟩else none) (globsH n).get w:=by
 refine⟨fun b i hb=>?_,fun b1 b2 i1 i2 o1 o2 _ h1 _ g1 _ hw=>?_,fun b i hb=>?_,fun g hg=>⟨⟨g,0,0,0,0,false⟩,by simp[hg],rfl,rfl⟩⟩
 ·by_cases hn:b<n
  ·exact⟨.dead,globsH_get hn,trivial⟩
  ·simp[hn]at hb
 ·by_cases hn:b1<n
  ·rw[globsH_get hn]at g1;cases g1;cases hw
  ·simp[hn]at h1
 ·by_cases hn:b<n
  ·simp only[hn,if_true,Option.some.injEq]at hb;subst hb;exact Nat.lt_of_lt_of_le hn h
  ·simp[hn]at hb
theorem globsH_no(n:Nat):NoOwn (globsH n):=fun b o h=>by
 have hb:b<n:=AHeap.get_lt h
 rw[globsH_get hb]at h
 cases h;rfl
theorem law_calls{ng:Nat}{f:FuncId}{ts:List TypeId}(hts:∀t∈ts,okT P 20 t=true)(hlaw:∀H args,NoOwn H→AVs P H.get ts args→∃H',ARun P ng f args H (.bool true) H'){args:Array Value}{ds:List (DataW H0)}{ps:List MemPlace}
 (hA:DataW.TrodAll enc P w 0 (fun _=>true) true ts args.toList ds ps) (hws:(DataW.weightsEach P ts ds).all (· ≤reachBytes)=true) (hval:∀(j:Nat) t v,ts[j]? =some t→args[j]? =some v→Value.okWide P w .any 0 t v)
 (hng:ng≤w.heap.size:=by exact Nat.zero_le _) (hb:bodiedB P f=true:=by kernel_rfl):
 Calls P f args w fun e w'=>e=.returned (.bool true)∧Below w.heap.size w w':=by
 obtain⟨σ,H,args',g1,g2,g3⟩:=open_args (ng:=ng) hts (fun j t v a b=>hval j t v a (by simpa using b)) (fun m hm=>by simpa using List.all_eq_true.1 hws m hm) hA (HR.globs ng w hng) (globsH_no ng)
 obtain⟨H',_,_,hrun⟩:=hlaw H args' g1.no g3
 refine((hrun σ w args.toList g1.hr g2).calls (bodied_of hb)).mono ?_
 rintro e w' ⟨v',σ',rfl,k1,k2,k3⟩
 rw[k3.bool_inv]
 refine⟨rfl,k2.os,k2.tape,k2.output,k2.size,fun k hk=>k2.keep k hk (fun b i o hb ho hown=>?_)⟩
 rw[g1.no b o ho]at hown;cases hown
theorem trodAll_stays(hl:laidOutB P=true){W W':World}(hb:Below W.heap.size W W'){sp:Nat→Bool}:∀{ts:List TypeId} {vs:List Value} {ds:List (DataW H0)} {ps:List MemPlace},(∀t∈ts,P.readableRec t=true∧t<P.types.size)→
 DataW.TrodAll enc P W 0 (fun _=>true) true ts vs ds ps→(∀x∈ps,x.block<W.heap.size)→(∀p∈ps,sp p.block=true)→DataW.TrodAll enc P W' 0 sp true ts vs ds ps
 |[],vs,ds,ps,_,h,_,_=>by obtain⟨rfl,rfl,rfl⟩:=trodAll_nil h;rfl
 |t::ts,vs,ds,ps,hr,h,hlt,hsp=>by
  obtain⟨v,vs',d,ds',p,q,rfl,rfl,rfl,h1,h2⟩:=trodAll_cons h
  obtain⟨r1,r2⟩:=hr t (by simp)
  exact⟨p,q,WideElems.Trod_stays hl r1 r2 h1 (fun x hx=>hb.same (hlt x (by simp[hx]))) (fun x hx=>hsp x (by simp[hx])),
   trodAll_stays hl hb (fun t ht=>hr t (by simp[ht])) h2 (fun x hx=>hlt x (by simp[hx])) (fun x hx=>hsp x (by simp[hx])),rfl⟩
theorem post_of_below{H:Type}{enc:TypeId×Value→H}{f:Func}{s:ChangeSpec}{apart fresh handsOn again:Bool}{W W':World}{args:Array Value}{v:Value}{ds gs:List (DataW H)}{before pa pv:List MemPlace}
 (hW:DataW.Whole enc P f.params.toList s.vars apart W args.toList ds gs before)
 (hres:∀(b:Nat) (sp:Nat→Bool) (hd:Bool),DataW.TrodAll enc P W' b sp hd f.resultTypes.toList (v.resultList f.resultTypes.size) (s.fn H (ds++gs)).results [])
 (hargs:∀sp:Nat→Bool,(∀p∈before,sp p.block=true)→DataW.TrodAll enc P W' 0 sp true f.params.toList args.toList (s.fn H (ds++gs)).args pa)
 (hvars:∀sp:Nat→Bool,(∀p∈before,sp p.block=true)→DataW.TrodVars enc P W' sp s.vars (s.fn H (ds++gs)).vars pv)
 (hps:before=pa++pv) (hb:Below W.heap.size W W')
 (hok:∀(j:Nat) (t:TypeId) (r:Value),f.resultTypes[j]? =some t→(v.resultList f.resultTypes.size)[j]? =some r→Value.okWide P W' .any 0 t r):
 s.post enc P f apart fresh handsOn again W args v W':=by
 have hlt:∀p∈before,p.block<W.heap.size:=fun p hp=>hW.lt p hp
 have hold:∀p∈before,(fun b=>decide (b<W.heap.size)) p.block=true:=fun p hp=>by simpa using hlt p hp
 refine⟨ds,gs,before,[],pa,pv,hW,hres _ _ _,hargs _ hold,hvars _ hold,World.keptBut_mono (fun p hp=>⟨hp,?_⟩) (hb.frame (· ∈before)),fun _=>?_⟩
 ·rw[hps,List.mem_append]at hp
  exact Or.inr hp
 ·obtain⟨_,_,_,_,_,hz,hn⟩:=hW
  refine⟨hok,_,_,([]++pa)++pv,⟨[]++pa,pv,trodAll_append (hargs _ (fun _ _=>rfl)) (hres _ _ _),hvars _ (fun _ _=>rfl),rfl,?_,?_⟩,?_⟩
  ·intro b off hp
   have hin:MemPlace.cell b off∈before:=by rw[hps];simpa using hp
   rw[hb.frozen (hlt _ hin)]
   exact hz b off hin
  ·intro ha
   have:=hn ha
   rw[hps]at this
   simpa using this
  ·intro p hp _
   rw[hps]
   simpa using hp
end
end Go.AM

namespace Go.AM
section
variable {P:Program} {ng:Nat} {H:AHeap} {Q:AQ} {fr tm:List Value}
theorem W_loop2{c:ACode}(I:Nat→List Value→AHeap→Prop)(n:Nat)(h0:I n fr H)
 (hs:∀(Q':AQ) (k:Nat) (fr:List Value) (H:AHeap),I k fr H→(∀k' fr H,I k' fr H→k'<k→Q' .normal fr H)→(∀i fr H,Q (.exit i) fr H→Q' (.exit i) fr H)→(∀fr H,Q .ret fr H→Q' .ret fr H)→W P ng c Q' fr H):W P ng (.loop c) Q fr H:=
 ⟨I,n,h0,fun k fr H hI=>hs _ k fr H hI (fun k' fr H h1 h2=>⟨k',h2,h1⟩) (fun _ _ _ h=>h) (fun _ _ h=>h)⟩
theorem alloc_set(H:AHeap)(o o':AO):(H.alloc o).set H.n o'=H.alloc o':=by
 simp[AHeap.alloc,AHeap.set]
theorem bytes_append(p q:List UInt8):(⟨p.toArray⟩:ByteArray)++⟨q.toArray⟩=⟨(p++q).toArray⟩:=by
 rw[←bCat_eq];rfl
theorem bytes_eq(p q:List UInt8):decide ((⟨p.toArray⟩:ByteArray)=⟨q.toArray⟩)=decide (p=q):=by
 rw[bstr_eq,bEq_eq]
end
set_option linter.defProp false in
def ANs:=(And.intro (And.intro (And.intro (And.intro (And.intro (And.intro (And.intro @W_skip @W_reg) (And.intro @W_seq (And.intro @w_cond @cond_true))) (And.intro (And.intro @cond_false (And.intro @W_exit @W_ret)) (And.intro @W_dreg (And.intro @r_nil @r_cons)))) (And.intro (And.intro (And.intro @r_consg (And.intro @gd_true @gd_false)) (And.intro @go_some (And.intro @st_call @st_callv))) (And.intro (And.intro @d_nil (And.intro @d_cons @d_consg)) (And.intro @gdD_true (And.intro @gdD_false @goD_some))))) (And.intro (And.intro (And.intro (And.intro @goD_some' @stD_call) (And.intro @st_mov (And.intro @st_pick @st_new))) (And.intro (And.intro @st_box (And.intro @st_build @st_bslice)) (And.intro @st_load1 (And.intro @st_loadn @st_store1)))) (And.intro (And.intro (And.intro @st_storen (And.intro @st_nilck @st_bin)) (And.intro @st_eqv (And.intro @st_un @st_i2i))) (And.intro (And.intro @st_s2s (And.intro @st_s2b @st_b2s)) (And.intro @st_iface (And.intro @st_mkfn @st_mksl)))))) (And.intro (And.intro (And.intro (And.intro (And.intro @st_slstr @st_slsl) (And.intro @st_faddr (And.intro @st_fld1 @st_fldn))) (And.intro (And.intro @st_iaddr (And.intro @st_idxs @st_assert)) (And.intro @st_extract (And.intro @st_len @st_mark)))) (And.intro (And.intro (And.intro @sd_pick (And.intro @sd_new @sd_box)) (And.intro @sd_build (And.intro @sd_bslice @sd_load1))) (And.intro (And.intro @sd_loadn (And.intro @sd_store1 @sd_storen)) (And.intro @sd_nilck (And.intro @sd_bin @sd_eqv))))) (And.intro (And.intro (And.intro (And.intro @sd_un @sd_i2i) (And.intro @sd_s2s (And.intro @sd_s2b @sd_b2s))) (And.intro (And.intro @sd_iface (And.intro @sd_mkfn @sd_mksl)) (And.intro @sd_slstr (And.intro @sd_slsl @sd_faddr)))) (And.intro (And.intro (And.intro @sd_fld1 (And.intro @sd_fldn @sd_iaddr)) (And.intro @sd_idxs (And.intro @sd_assert @sd_extract))) (And.intro (And.intro @sd_len (And.intro @sd_mark @sd_mov)) (And.intro @a_mov (And.intro @a_pick @a_new))))))) (And.intro (And.intro (And.intro (And.intro (And.intro (And.intro @a_box @a_build) (And.intro @a_load1 (And.intro @a_loadn @a_nilck))) (And.intro (And.intro @a_bin (And.intro @a_eqv @a_not)) (And.intro @a_neg (And.intro @a_i2i @a_s2s)))) (And.intro (And.intro (And.intro @a_s2b (And.intro @a_iface @a_mkfn)) (And.intro @a_faddr (And.intro @a_fld1 @a_iaddr))) (And.intro (And.intro @a_assert (And.intro @a_extract @a_len)) (And.intro @a_lenc (And.intro @a_lens @AX_fr))))) (And.intro (And.intro (And.intro (And.intro @AX_tm @AX_c) (And.intro @AX_fn (And.intro @AX_g @D_no))) (And.intro (And.intro @D_no' (And.intro @D_tm @D_tm')) (And.intro @D_fr (And.intro @D_fr' @getD_nil')))) (And.intro (And.intro (And.intro @want_x (And.intro @bi_tt @bi_tf)) (And.intro @bi_ft (And.intro @bi_ff @pk_t))) (And.intro (And.intro @pk_f (And.intro @resO0 @resO1)) (And.intro @resO2 (And.intro @resO3 @e_sn)))))) (And.intro (And.intro (And.intro (And.intro (And.intro @e_ss @e_pn) (And.intro @e_ps (And.intro @e_bb @fill0))) (And.intro (And.intro @fill1 (And.intro @b_add @b_sub)) (And.intro @b_mul (And.intro @b_eql @b_neq)))) (And.intro (And.intro (And.intro @b_lss (And.intro @b_leq @b_gtr)) (And.intro @b_geq (And.intro @b_and @b_or))) (And.intro (And.intro @b_xor (And.intro @b_seql @b_sneq)) (And.intro @b_slss (And.intro @at_n @at_e))))) (And.intro (And.intro (And.intro (And.intro @at_r (And.intro @ib_n @ib_r)) (And.intro @ib_e (And.intro @ib_x @one_int))) (And.intro (And.intro @one_bool (And.intro @one_str @one_sl)) (And.intro @one_slc (And.intro @one_ptr @one_pn)))) (And.intro (And.intro (And.intro @one_if (And.intro @one_map @bnd_none)) (And.intro @o_int (And.intro @o_bool @o_str))) (And.intro (And.intro @o_sl (And.intro @o_slc @o_ptr)) (And.intro @o_pn (And.intro @o_if @o_map))))))))
set_option linter.defProp false in
def ANc:=(And.intro (And.intro (And.intro (And.intro (And.intro @List.getD_cons_zero.{0} @List.getD_cons_succ.{0}) (And.intro @List.set_cons_zero.{0} @List.set_cons_succ.{0})) (And.intro (And.intro @List.map_cons.{0,0} @List.map_nil.{0,0}) (And.intro @Option.map_some.{0,0} (And.intro @Option.map_none.{0,0} @beq_self_eq_true.{0})))) (And.intro (And.intro (And.intro @if_true.{1} @if_true.{0}) (And.intro @Bool.false_eq_true @if_false.{1})) (And.intro (And.intro @if_false.{0} @Bool.not_true) (And.intro @Bool.not_false (And.intro @Nat.add_zero @Nat.zero_add))))) (And.intro (And.intro (And.intro (And.intro @Nat.mul_one @Int.toNat_natCast) (And.intro @List.getElem?_cons_zero.{0} @List.getElem?_cons_succ.{0})) (And.intro (And.intro @true_and @and_true) (And.intro @false_and (And.intro @Exit.exit.injEq @Bool.true_beq)))) (And.intro (And.intro (And.intro @Bool.false_beq @beq_true) (And.intro @beq_false (And.intro @List.length_cons.{0} @List.length_nil.{0}))) (And.intro (And.intro @List.all_cons.{0} @List.all_nil.{0}) (And.intro @Bool.and_true (And.intro @Bool.true_and @and_self))))))
end Go.AM

namespace Go.AM
section
variable {P:Program} {ng:Nat} {H H':AHeap} {Q:AQ} {fr tm:List Value}
def cellO(g:Option AO)(o:Nat):Option Value:=match g with
 |some (.cells _ _ _ c _)=>c[o]?
 |_=>none
def rangeO(g:Option AO)(o n:Nat):Option (List Value):=match g with
 |some (.cells _ _ _ c _)=>if o+n≤c.length then some ((c.drop o).take n)else none
 |_=>none
theorem cellA_e(H:AHeap)(b o:Nat):cellA H b o=cellO (H.get b) o:=by unfold cellA cellO;rfl
theorem rangeA_e(H:AHeap)(b o n:Nat):rangeA H b o n=rangeO (H.get b) o n:=by unfold rangeA rangeO;rfl
theorem cellO_c(own room:Bool)(esz e:Nat)(c:List Value)(o:Nat):cellO (some (.cells own room esz c e)) o=c[o]? :=_root_.id rfl
theorem rangeO_c(own room:Bool)(esz e:Nat)(c:List Value)(o n:Nat):rangeO (some (.cells own room esz c e)) o n=if o+n≤c.length then some ((c.drop o).take n)else none:=_root_.id rfl
def st1O(H:AHeap)(b o:Nat)(x:Value)(g:Option AO):Option (Value×AHeap):=match g with
 |some (.cells true room esz c e)=>if o<c.length∧x.oneCell'=true then some (undef,H.set b (.cells true room esz (c.set o x) e))else none
 |_=>none
def stnO(H:AHeap)(b o n:Nat)(x:List Value)(g:Option AO):Option (Value×AHeap):=match g with
 |some (.cells true room esz c e)=>if o+n≤c.length∧x.length=n∧x.all Value.oneCell'=true then some (undef,H.set b (.cells true room esz (c.take o++x++c.drop (o+n)) e))else none
 |_=>none
theorem a_store1e(H:AHeap)(b o:Nat)(x:Value):asem (.store1 (ptr b o) x) H=st1O H b o x (H.get b):=by
 unfold st1O
 rfl
theorem a_storene(H:AHeap)(b o n:Nat)(x:Value):asem (.storen n (ptr b o) x) H=stnO H b o n x.cells.toList (H.get b):=by
 unfold stnO
 rfl
theorem st1O_c(b o:Nat)(x:Value)(room:Bool)(esz e:Nat)(c:List Value):st1O H b o x (some (.cells true room esz c e))=if o<c.length∧x.oneCell'=true then some (undef,H.set b (.cells true room esz (c.set o x) e))else none:=by
 unfold st1O;rfl
theorem stnO_c(b o n:Nat)(x:List Value)(room:Bool)(esz e:Nat)(c:List Value):stnO H b o n x (some (.cells true room esz c e))=if o+n≤c.length∧x.length=n∧x.all Value.oneCell'=true then some (undef,H.set b (.cells true room esz (c.take o++x++c.drop (o+n)) e))else none:=by
 unfold stnO;rfl
theorem rng_full{own room:Bool}{esz e n:Nat}{c:List Value}(h:c.length=n):rangeO (some (.cells own room esz c e)) 0 n=some c:=by
 rw[rangeO_c,if_pos (by omega),List.drop_zero,List.take_of_length_le (by omega)]
theorem rng_part{own room:Bool}{esz e o n:Nat}{c:List Value}(h:c.length≠n):rangeO (some (.cells own room esz c e)) o n=if o+n≤c.length then some ((c.drop o).take n)else none:=rangeO_c ..
theorem stn_full{b n:Nat}{x:List Value}{room:Bool}{esz e:Nat}{c:List Value}(h:c.length=n):stnO H b 0 n x (some (.cells true room esz c e))=if x.length=n∧x.all Value.oneCell'=true then some (undef,H.set b (.cells true room esz x e))else none:=by
 rw[stnO_c]
 by_cases hx:x.length=n∧x.all Value.oneCell'=true
 ·rw[if_pos ⟨by omega,hx⟩,if_pos hx,List.take_zero,List.nil_append,List.drop_of_length_le (by omega),List.append_nil]
 ·rw[if_neg (fun h=>hx h.2),if_neg hx]
theorem stn_part{b o n:Nat}{x:List Value}{room:Bool}{esz e:Nat}{c:List Value}(h:c.length≠n):stnO H b o n x (some (.cells true room esz c e))=if o+n≤c.length∧x.length=n∧x.all Value.oneCell'=true then some (undef,H.set b (.cells true room esz (c.take o++x++c.drop (o+n)) e))else none:=stnO_c ..
theorem cells_agg(l:List Value):(Value.agg l.toArray).cells.toList=l:=by simp[Value.cells]
theorem toList_arr(l:List Value):l.toArray.toList=l:=by simp
theorem size_arr(l:List Value):l.toArray.size=l.length:=by simp
theorem g_new{b:Nat}(o:AO)(h:b=H.n):(H.alloc o).get b=some o:=by subst h;exact AHeap.get_alloc_new H o
theorem g_old{b:Nat}(o:AO)(h:b<H.n):(H.alloc o).get b=H.get b:=AHeap.get_alloc_old H o h
theorem g_set(b:Nat)(o:AO):(H.set b o).get b=(H.get b).map fun _=>o:=by
 by_cases hb:b<H.n
 ·by_cases h:H.n-1-b<H.l.length
  ·simp[AHeap.get,AHeap.set,hb,h]
  ·simp only[AHeap.get,AHeap.set,hb,if_true,List.getElem?_eq_none (Nat.le_of_not_lt h),Option.map_none]
   exact List.getElem?_eq_none (by simpa using Nat.le_of_not_lt h)
 ·simp[AHeap.get,AHeap.set,hb]
theorem g_sets{b b':Nat}(o:AO)(h:b'≠b)(h2:b<H.n):(H.set b o).get b'=H.get b':=AHeap.get_set_other H h h2 o
theorem set_new{b:Nat}(o o':AO)(h:b=H.n):(H.alloc o).set b o'=H.alloc o':=by subst h;exact alloc_set H o o'
theorem set_old{b:Nat}(o o':AO)(h:b<H.n):(H.alloc o).set b o'=(H.set b o').alloc o:=by
 simp only[AHeap.alloc,AHeap.set,show H.n+1-1-b=(H.n-1-b)+1 by omega,List.set_cons_succ]
theorem set_set(b:Nat)(o o':AO):(H.set b o).set b o'=H.set b o':=by simp[AHeap.set]
theorem lt_yes{a b:Nat}(h:a<b):(a<b)=True:=by simp[h]
theorem le_yes{a b:Nat}(h:a≤b):(a≤b)=True:=by simp[h]
theorem eqn_yes{a b:Nat}(h:a=b):(a=b)=True:=by simp[h]
theorem lti_yes{a b:Int}(h:a<b):(a<b)=True:=by simp[h]
theorem lei_yes{a b:Int}(h:a≤b):(a≤b)=True:=by simp[h]
theorem lti_no{a b:Int}(h:¬a<b):(a<b)=False:=by simp[h]
theorem lei_no{a b:Int}(h:¬a≤b):(a≤b)=False:=by simp[h]
theorem beqi_no{a b:Int}(h:¬a=b):(a==b)=false:=by simp[h]
theorem beqi_yes{a b:Int}(h:a=b):(a==b)=true:=by simp[h]
theorem bnei_no{a b:Int}(h:a=b):(a != b)=false:=by simp[h]
theorem bnei_yes{a b:Int}(h:¬a=b):(a != b)=true:=by simp[h]
theorem bi_u(b:Bool):boolIs undef b=false:=by cases b<;>rfl
theorem boolIs_t(b:Bool):boolIs (.bool b) true=b:=by cases b<;>rfl
theorem boolIs_f(b:Bool):boolIs (.bool b) false= !b:=by cases b<;>rfl
theorem callK{f:FuncId}{xs:List Value}{R K:Value→AHeap→Prop}(h:∃v H',ARun P ng f xs H v H'∧R v H')(k:∀v H',R v H'→K v H'):∃v H',ARun P ng f xs H v H'∧K v H':=by
 obtain⟨v,H',h1,h2⟩:=h;exact⟨v,H',h1,k v H' h2⟩
theorem callQ{f:FuncId}{xs:List Value}{K:Value→AHeap→Prop}{x:Value}{H2:AHeap}(h:∃v H',ARun P ng f xs H v H'∧v=x∧H'=H2)(k:K x H2):∃v H',ARun P ng f xs H v H'∧K v H':=by
 obtain⟨v,H',h1,rfl,rfl⟩:=h;exact⟨_,_,h1,k⟩
def bn(v:Value):Nat:=match blk v with
 |some b=>b+1
 |none=>0
def elP(v:Value)(esz j off:Nat):Value:=match v with
 | .slice (some ⟨b,o,none⟩) _ _=>ptr b (o+j*esz+off)
 |_=>undef
def nnS(v:Value):Bool:=match v with
 | .slice (some ⟨_,_,none⟩) _ _=>true
 |_=>false
def lenS(v:Value):Nat:=match v with
 | .slice _ n _=>n
 |_=>0
def isS(v:Value):Bool:=match v with
 | .slice _ _ _=>true
 |_=>false
def rowA(H:AHeap)(esz:Nat)(v:Value)(j:Nat):Option (List Value):=match v with
 | .slice (some ⟨b,o,none⟩) _ _=>rangeA H b (o+j*esz) esz
 |_=>none
theorem nnS_inv{v:Value}(h:nnS v=true):∃b o n k,v=slc b o n k:=by
 unfold nnS at h
 split at h
 ·exact⟨_,_,_,_,rfl⟩
 ·cases h
theorem isS_inv{v:Value}(h:isS v=true):∃a n k,v=.slice a n k:=by
 unfold isS at h
 split at h
 ·exact⟨_,_,_,rfl⟩
 ·cases h
theorem a_lenv{v:Value}(h:isS v=true):asem (.len false v) H=some (.int .i64 (lenS v),H):=by
 obtain⟨a,n,k,rfl⟩:=isS_inv h;rfl
theorem a_iaddrv{v:Value}{esz:Nat}{kd:IntKind}{i:Int}(h:nnS v=true)(h1:0≤i)(h2:i<(lenS v:Int)):asem (.iaddr esz v (.int kd i)) H=some (elP v esz i.toNat 0,H):=by
 obtain⟨b,o,n,k,rfl⟩:=nnS_inv h
 rw[a_iaddr,if_pos ⟨h1,h2⟩];rfl
theorem a_faddrv{v:Value}{esz j off d:Nat}(h:nnS v=true):asem (.faddr d (elP v esz j off)) H=some (elP v esz j (off+d),H):=by
 obtain⟨b,o,n,k,rfl⟩:=nnS_inv h
 show asem (.faddr d (ptr b (o+j*esz+off))) H=_
 rw[a_faddr,Nat.add_assoc];rfl
theorem rowA_range{v:Value}{esz j:Nat}{r:List Value}(h:rowA H esz v j=some r):∃b o n k,v=slc b o n k∧r.length=esz∧∃own room z c e,H.get b=some (.cells own room z c e)∧o+j*esz+esz≤c.length∧r=(c.drop (o+j*esz)).take esz:=by
 unfold rowA at h
 split at h
 ·rename_i b o n k
  refine⟨b,o,n,k,rfl,?_⟩
  unfold rangeA at h
  split at h
  ·rename_i own room z c e hg
   split at h
   ·rename_i hl
    simp only[Option.some.injEq]at h;subst h
    exact⟨by rw[List.length_take,List.length_drop];omega,own,room,z,c,e,hg,hl,rfl⟩
   ·cases h
  ·cases h
 ·cases h
theorem a_load1v{v:Value}{esz j off:Nat}{r:List Value}(h:rowA H esz v j=some r)(ho:off<esz):asem (.load1 (elP v esz j off)) H=r[off]?.map fun x=>(x,H):=by
 obtain⟨b,o,n,k,rfl,h1,own,room,z,c,e,h2,h3,h4⟩:=rowA_range h
 show asem (.load1 (ptr b (o+j*esz+off))) H=_
 rw[a_load1,cellA_of h2,h4,List.getElem?_take_of_lt ho,List.getElem?_drop]
theorem a_loadnv{v:Value}{esz j off n:Nat}{r:List Value}(h:rowA H esz v j=some r)(ho:off+n≤esz):asem (.loadn n (elP v esz j off)) H=some (.agg ((r.drop off).take n).toArray,H):=by
 obtain⟨b,o,n',k,rfl,h1,own,room,z,c,e,h2,h3,h4⟩:=rowA_range h
 show asem (.loadn n (ptr b (o+j*esz+off))) H=_
 rw[a_loadn,rangeA_of h2,if_pos (by omega),h4,List.drop_take,List.take_take,List.drop_drop,Nat.min_eq_left (by omega)]
 rfl
theorem a_loadnvf{v:Value}{n j:Nat}{r:List Value}(h:rowA H n v j=some r):asem (.loadn n (elP v n j 0)) H=some (.agg r.toArray,H):=by
 obtain⟨_,_,_,_,_,hl,_⟩:=rowA_range h
 rw[a_loadnv h (by omega),List.drop_zero,List.take_of_length_le (by omega)]
theorem a_loadnvp{v:Value}{esz j off n:Nat}{r:List Value}(hne:n≠esz)(h:rowA H esz v j=some r)(ho:off+n≤esz):asem (.loadn n (elP v esz j off)) H=some (.agg ((r.drop off).take n).toArray,H):=a_loadnv h ho
theorem stD_callv{KF:List Value→AHeap→Prop}{tr:List TE}(g:FuncId)(first cap:Array Value)(xs:List Value)(d:D)(un:List Nat)(r:List (AOper×List Nat)):stD P ng (.callv (.func (.func g) first cap) xs) d un r fr tm H tr KF=callD P ng g (first.toList++xs++cap.toList) d un r fr tm H tr KF:=_root_.id rfl
theorem reads_el{v:Value}{esz j off:Nat}(h:nnS v=true):readsA (.load1 (elP v esz j off))=[bn v-1]:=by
 obtain⟨b,o,n',k,rfl⟩:=nnS_inv h;rfl
theorem readsn_el{v:Value}{esz j off n:Nat}(h:nnS v=true):readsA (.loadn n (elP v esz j off))=[bn v-1]:=by
 obtain⟨b,o,n',k,rfl⟩:=nnS_inv h;rfl
theorem nnS_bn{v:Value}(h:nnS v=true):0<bn v:=by
 obtain⟨b,o,n',k,rfl⟩:=nnS_inv h;simp[bn,blk,slc]
theorem rowA_get{esz:Nat}{v:Value}{j:Nat}(h:∀b,blk v=some b→H'.get b=H.get b):rowA H' esz v j=rowA H esz v j:=by
 unfold rowA
 split
 ·rename_i b o n k
  rw[rangeA_e,rangeA_e,h b rfl]
 ·rfl
theorem bn_lt{v:Value}{n b:Nat}(h:bn v≤n)(e:blk v=some b):b<n:=by
 unfold bn at h;rw[e]at h;exact h
theorem row_alloc{esz:Nat}{v:Value}{j:Nat}(o:AO)(h:bn v≤H.n):rowA (H.alloc o) esz v j=rowA H esz v j:=rowA_get fun b e=>g_old o (bn_lt h e)
theorem row_set{esz:Nat}{v:Value}{j b:Nat}(o:AO)(h:bn v≠b+1)(hb:b<H.n):rowA (H.set b o) esz v j=rowA H esz v j:=rowA_get fun x e=>g_sets o (by intro hx;subst hx;apply h;unfold bn;rw[e]) hb
theorem Keeps.row(k:Keeps H H'){esz:Nat}{v:Value}{j:Nat}(h:bn v≤H.n):rowA H' esz v j=rowA H esz v j:=rowA_get fun b e=>k.get b (bn_lt h e)
structure Sl (H:AHeap) (esz:Nat) (v:Value) (rows:List (List Value)):Prop where
 sh:∃a k,v=.slice a rows.length k
 row:∀r∈rows,r.length=esz
 el:elemsA H esz v=some rows.flatten
theorem Sl.len{esz:Nat}{v:Value}{rows:List (List Value)}(h:Sl H esz v rows):lenS v=rows.length:=by
 obtain⟨a,k,rfl⟩:=h.sh;rfl
theorem Sl.is{esz:Nat}{v:Value}{rows:List (List Value)}(h:Sl H esz v rows):isS v=true:=by
 obtain⟨a,k,rfl⟩:=h.sh;rfl
theorem Sl.one{esz:Nat}{v:Value}{rows:List (List Value)}(h:Sl H esz v rows):v.oneCell'=true:=by
 obtain⟨a,k,rfl⟩:=h.sh;rfl
theorem Sl.nil(H:AHeap)(esz:Nat):Sl H esz (.slice none 0 0) []:=⟨⟨_,_,rfl⟩,by simp,rfl⟩
theorem flat_len{esz:Nat}:∀{rows:List (List Value)},(∀r∈rows,r.length=esz)→rows.flatten.length=rows.length*esz
 |[],_=>by simp
 |r::rows,h=>by
  have h1:=h r (by simp)
  have h2:=flat_len (rows:=rows) (fun x hx=>h x (by simp[hx]))
  rw[List.flatten_cons,List.length_append,h1,h2,List.length_cons,Nat.add_mul];omega
theorem flat_at{esz:Nat}:∀{rows:List (List Value)},(∀r∈rows,r.length=esz)→∀(i:Nat) (hi:i<rows.length),(rows.flatten.drop (i*esz)).take esz=rows[i]
 |r::rows,h,0,_=>by
  have h1:=h r (by simp)
  rw[Nat.zero_mul,List.drop_zero,List.flatten_cons,List.take_append_of_le_length (by omega),List.take_of_length_le (by omega)];rfl
 |r::rows,h,i+1,hi=>by
  have h1:=h r (by simp)
  have h2:=flat_at (rows:=rows) (fun x hx=>h x (by simp[hx])) i (by simpa using hi)
  rw[Nat.add_mul,Nat.one_mul,Nat.add_comm,←List.drop_drop,List.flatten_cons]
  rw[show(r++rows.flatten).drop esz=rows.flatten by rw[←h1,List.drop_left],h2]
  rfl
theorem Sl.at_{esz:Nat}{v:Value}{rows:List (List Value)}(h:Sl H esz v rows)(hz:0<esz){i:Nat}(hi:i<rows.length):nnS v=true∧rowA H esz v i=some rows[i]:=by
 have h2:=h.el
 have hfl:=flat_len h.row
 have hpos:0<rows.flatten.length:=by rw[hfl];exact Nat.mul_pos (by omega) hz
 obtain⟨a,k,rfl⟩:=h.sh
 match a,h2 with
 |none,h2=>simp only[elemsA,Option.some.injEq]at h2;rw[←h2]at hpos;simp at hpos
 |some ⟨b,o,some q⟩,h2=>
  simp only[elemsA]at h2
  rw[if_neg (by omega)]at h2;cases h2
 |some ⟨b,o,none⟩,h2=>
  refine⟨rfl,?_⟩
  simp only[elemsA]at h2
  simp only[rowA,rangeA]
  split at h2
  ·rename_i own room z c e hg
   split at h2
   ·rename_i hl
    have hm:(i+1)*esz≤rows.length*esz:=Nat.mul_le_mul_right esz hi
    rw[Nat.add_mul,Nat.one_mul]at hm
    rw[if_pos (by omega)]
    simp only[Option.some.injEq]at h2
    have:=flat_at h.row i hi
    rw[←h2,List.drop_take,List.take_take,List.drop_drop,Nat.min_eq_left (by omega)]at this
    rw[this]
   ·cases h2
  ·cases h2
theorem Sl.bn_le{esz:Nat}{v:Value}{rows:List (List Value)}(h:Sl H esz v rows)(hr:rows≠[])(hz:0<esz):bn v≤H.n:=by
 have hl:0<rows.length:=List.length_pos_iff.2 hr
 obtain⟨h1,h2⟩:=h.at_ hz hl
 obtain⟨b,o,n,k,rfl,_,own,room,z,c,e,hg,_⟩:=rowA_range h2
 exact AHeap.get_lt hg
theorem Sl.get'{esz:Nat}{v:Value}{rows:List (List Value)}(h:Sl H esz v rows)(k:∀b,blk v=some b→b<H.n→H'.get b=H.get b):Sl H' esz v rows:=by
 refine⟨h.sh,h.row,?_⟩
 have h2:=h.el
 obtain⟨a,c,rfl⟩:=h.sh
 match a,h2 with
 |none,h2=>exact h2
 |some ⟨b,o,none⟩,h2=>
  simp only[elemsA]at h2 ⊢
  cases hg:H.get b with
  |none=>rw[hg]at h2;cases h2
  |some ob=>rw[k b rfl (AHeap.get_lt hg)];exact h2
 |some ⟨b,o,some _⟩,h2=>simpa[elemsA]using h2
theorem Sl.keeps{esz:Nat}{v:Value}{rows:List (List Value)}(h:Sl H esz v rows)(k:Keeps H H'):Sl H' esz v rows:=h.get' fun b _ hb=>k.get b hb
theorem AP.sl{e esz:Nat}{v:Value}{n:Nat}{rows:List (List Value)}(h:AP H e esz v n rows.flatten)(hr:∀r∈rows,r.length=esz)(hn:n=rows.length):Sl H esz v rows:=by
 obtain⟨a,ha⟩:=h.shape
 exact⟨⟨a,n,by rw[←hn];exact ha⟩,hr,h.elems⟩
section
variable {KF:List Value→AHeap→Prop} {tr:List TE} (d:D) (r:List AOper) (un:List Nat) (rd:List (AOper×List Nat))
theorem st_app(e s b:Nat)(x y:Value):stR P ng (.app e s b x y) d r fr tm H KF=goR P ng (asem (.app e s b x y) H) d r fr tm KF:=st_of d r (by simp) (by simp) (by simp)
theorem st_apps(e b:Nat)(x y:Value):stR P ng (.apps e b x y) d r fr tm H KF=goR P ng (asem (.apps e b x y) H) d r fr tm KF:=st_of d r (by simp) (by simp) (by simp)
theorem sd_apps(e b:Nat)(x y:Value):stD P ng (.apps e b x y) d un rd fr tm H tr KF=goD P ng (.apps e b x y) (asem (.apps e b x y) H) d un rd fr tm H tr KF:=stD_of d un rd (by simp) (by simp) (by simp)
theorem st_iaddrp(s n:Nat)(x i:Value):stR P ng (.iaddrp s n x i) d r fr tm H KF=goR P ng (asem (.iaddrp s n x i) H) d r fr tm KF:=st_of d r (by simp) (by simp) (by simp)
theorem sd_iaddrp(s n:Nat)(x i:Value):stD P ng (.iaddrp s n x i) d un rd fr tm H tr KF=goD P ng (.iaddrp s n x i) (asem (.iaddrp s n x i) H) d un rd fr tm H tr KF:=stD_of d un rd (by simp) (by simp) (by simp)
theorem st_idxa(a:Bool)(s n:Nat)(x i:Value):stR P ng (.idxa a s n x i) d r fr tm H KF=goR P ng (asem (.idxa a s n x i) H) d r fr tm KF:=st_of d r (by simp) (by simp) (by simp)
theorem sd_idxa(a:Bool)(s n:Nat)(x i:Value):stD P ng (.idxa a s n x i) d un rd fr tm H tr KF=goD P ng (.idxa a s n x i) (asem (.idxa a s n x i) H) d un rd fr tm H tr KF:=stD_of d un rd (by simp) (by simp) (by simp)
theorem st_slarr(s n:Nat)(x:Value)(lo hi mx:Option Value):stR P ng (.slarr s n x lo hi mx) d r fr tm H KF=goR P ng (asem (.slarr s n x lo hi mx) H) d r fr tm KF:=st_of d r (by simp) (by simp) (by simp)
theorem sd_slarr(s n:Nat)(x:Value)(lo hi mx:Option Value):stD P ng (.slarr s n x lo hi mx) d un rd fr tm H tr KF=goD P ng (.slarr s n x lo hi mx) (asem (.slarr s n x lo hi mx) H) d un rd fr tm H tr KF:=stD_of d un rd (by simp) (by simp) (by simp)
theorem st_eqs(c:List Nat)(n:Bool)(x y:Value):stR P ng (.eqs c n x y) d r fr tm H KF=goR P ng (asem (.eqs c n x y) H) d r fr tm KF:=st_of d r (by simp) (by simp) (by simp)
theorem sd_eqs(c:List Nat)(n:Bool)(x y:Value):stD P ng (.eqs c n x y) d un rd fr tm H tr KF=goD P ng (.eqs c n x y) (asem (.eqs c n x y) H) d un rd fr tm H tr KF:=stD_of d un rd (by simp) (by simp) (by simp)
theorem st_mm(m:Bool)(x y:Value):stR P ng (.mm m x y) d r fr tm H KF=goR P ng (asem (.mm m x y) H) d r fr tm KF:=st_of d r (by simp) (by simp) (by simp)
theorem sd_mm(m:Bool)(x y:Value):stD P ng (.mm m x y) d un rd fr tm H tr KF=goD P ng (.mm m x y) (asem (.mm m x y) H) d un rd fr tm H tr KF:=stD_of d un rd (by simp) (by simp) (by simp)
theorem st_i2str(x:Value):stR P ng (.i2str x) d r fr tm H KF=goR P ng (asem (.i2str x) H) d r fr tm KF:=st_of d r (by simp) (by simp) (by simp)
theorem sd_i2str(x:Value):stD P ng (.i2str x) d un rd fr tm H tr KF=goD P ng (.i2str x) (asem (.i2str x) H) d un rd fr tm H tr KF:=stD_of d un rd (by simp) (by simp) (by simp)
theorem st_rng(x:Value):stR P ng (.rng x) d r fr tm H KF=goR P ng (asem (.rng x) H) d r fr tm KF:=st_of d r (by simp) (by simp) (by simp)
theorem st_next(x:Value):stR P ng (.next x) d r fr tm H KF=goR P ng (asem (.next x) H) d r fr tm KF:=st_of d r (by simp) (by simp) (by simp)
theorem st_copy(e:Nat)(x y:Value):stR P ng (.copy e x y) d r fr tm H KF=goR P ng (asem (.copy e x y) H) d r fr tm KF:=st_of d r (by simp) (by simp) (by simp)
theorem sd_copy(e:Nat)(x y:Value):stD P ng (.copy e x y) d un rd fr tm H tr KF=goD P ng (.copy e x y) (asem (.copy e x y) H) d un rd fr tm H tr KF:=stD_of d un rd (by simp) (by simp) (by simp)
theorem st_clr(e:Nat)(z:List Value)(x:Value):stR P ng (.clr e z x) d r fr tm H KF=goR P ng (asem (.clr e z x) H) d r fr tm KF:=st_of d r (by simp) (by simp) (by simp)
end
theorem a_mm(m:Bool)(k:IntKind)(a b:Int):asem (.mm m (.int k a) (.int k b)) H=some (.int k (if m then(if b>a then b else a)else(if b<a then b else a)),H):=by
 simp[asem]
theorem a_mmx(k:IntKind)(a b:Int):asem (.mm true (.int k a) (.int k b)) H=some (.int k (max a b),H):=by
 rw[a_mm];simp only[if_true];congr 3;split<;>omega
theorem a_mmn(k:IntKind)(a b:Int):asem (.mm false (.int k a) (.int k b)) H=some (.int k (min a b),H):=by
 rw[a_mm];simp only[Bool.false_eq_true,if_false];congr 3;split<;>omega
theorem a_iaddrp(esz n b o:Nat)(kd:IntKind)(i:Int):asem (.iaddrp esz n (ptr b o) (.int kd i)) H=if 0≤i∧i<(n:Int)then some (ptr b (o+i.toNat*esz),H)else none:=_root_.id rfl
theorem a_bslicee(e esz n:Nat)(z:List Value)(ps:List (Nat×Nat×Value)):asem (.bslice e esz n z ps) H=(fillA z ps).bind fun c=>if c.all Value.oneCell'=true∧c.length=n*esz then some (slc H.n 0 n n,H.alloc (.cells true false esz c e))else none:=by
 simp only[asem];cases fillA z ps<;>rfl
theorem fill_cons(c:List Value)(o n:Nat)(v:Value)(r:List (Nat×Nat×Value)):fillA c ((o,n,v)::r)=if v.cells.toList.length=n∧o+n≤c.length then fillA (c.take o++v.cells.toList++c.drop (o+n)) r else none:=by
 simp only[fillA]
theorem cells_int(k:IntKind)(n:Int):(Value.int k n).cells.toList=[.int k n]:=_root_.id rfl
theorem cells_bool(n:Bool):(Value.bool n).cells.toList=[.bool n]:=_root_.id rfl
theorem cells_str(n:ByteArray):(Value.string n).cells.toList=[.string n]:=_root_.id rfl
theorem cells_sl(a:Option Addr)(n k:Nat):(Value.slice a n k).cells.toList=[.slice a n k]:=_root_.id rfl
theorem cells_slc(b o n k:Nat):(slc b o n k).cells.toList=[slc b o n k]:=_root_.id rfl
theorem cells_ptr(b o:Nat):(ptr b o).cells.toList=[ptr b o]:=_root_.id rfl
theorem cells_pn(a:Option Addr):(Value.pointer a).cells.toList=[.pointer a]:=_root_.id rfl
theorem one_isS{v:Value}(h:isS v=true):v.oneCell'=true:=by obtain⟨a,n,k,rfl⟩:=isS_inv h;rfl
theorem resC(i n:Nat)(fr:List Value):resO [.cn n i] fr H=(celln n (fr.getD i undef) H):=by
 simp only[resO,resVs,RX.get]
 cases celln n (fr.getD i undef) H<;>rfl
theorem cellnp(n b o:Nat):celln n (ptr b o) H=(rangeA H b o n).map fun c=>.agg c.toArray:=_root_.id rfl
theorem cell1p(b o:Nat):cell1 (ptr b o) H=cellA H b o:=_root_.id rfl
theorem touch_load1(b o:Nat)(H:AHeap):touchA (.load1 (ptr b o)) H=[b]:=_root_.id rfl
theorem touch_loadn(n b o:Nat)(H:AHeap):touchA (.loadn n (ptr b o)) H=[b]:=_root_.id rfl
theorem touch_load1v{v:Value}{esz j off:Nat}(h:nnS v=true)(H:AHeap):touchA (.load1 (elP v esz j off)) H=[bn v-1]:=by
 show readsA _=_;exact reads_el h
theorem touch_loadnv{v:Value}{esz j off n:Nat}(h:nnS v=true)(H:AHeap):touchA (.loadn n (elP v esz j off)) H=[bn v-1]:=by
 show readsA _=_;exact readsn_el h
theorem keepsB_n(A B:AHeap):keepsB [] A B=True:=_root_.id rfl
theorem keepsB_c(b:Nat)(l:List Nat)(A B:AHeap):keepsB (b::l) A B=(B.get b=A.get b∧keepsB l A B):=_root_.id rfl
theorem olderB_n(A:AHeap):olderB [] A=True:=_root_.id rfl
theorem olderB_c(b:Nat)(l:List Nat)(A:AHeap):olderB (b::l) A=(b<A.n∧olderB l A):=_root_.id rfl
def ob1(k:Nat)(bs:List Nat)(A B:AHeap)(x:Option TE):Prop:=match x with
 |some t=>if k=1∧t.k=3 then olderB bs t.H∧keepsB bs t.H t.H' else if k=3∧(t.k=1∨t.k=2)then keepsB t.bs A B else True
 |none=>True
theorem obl_c(k:Nat)(bs:List Nat)(A B:AHeap)(tr:List TE)(i:Nat)(un:List Nat):oblA k bs A B tr (i::un)=(ob1 k bs A B tr[i]? ∧oblA k bs A B tr un):=_root_.id rfl
theorem ob1_0(bs:List Nat)(A B:AHeap)(x:Option TE):ob1 0 bs A B x=True:=by unfold ob1;split<;>simp
theorem ob1_2(bs:List Nat)(A B:AHeap)(x:Option TE):ob1 2 bs A B x=True:=by unfold ob1;split<;>simp
theorem ob1_s(k:Nat)(bs:List Nat)(A B:AHeap)(j:Nat)(cs:List Nat)(C D:AHeap):ob1 k bs A B (some ⟨j,cs,C,D⟩)=if k=1∧j=3 then olderB bs C∧keepsB bs C D else if k=3∧(j=1∨j=2)then keepsB cs A B else True:=_root_.id rfl
end
set_option linter.defProp false in
def A3s:=(And.intro (And.intro (And.intro (And.intro (And.intro (And.intro @cellA_e @rangeA_e) (And.intro @cellO_c (And.intro @rng_full @rng_part))) (And.intro (And.intro @a_store1e (And.intro @a_storene @st1O_c)) (And.intro @stn_full (And.intro @stn_part @a_load1v)))) (And.intro (And.intro (And.intro @a_loadnvf (And.intro @a_loadnvp @stD_callv)) (And.intro @cells_agg (And.intro @toList_arr @size_arr))) (And.intro (And.intro @g_new (And.intro @g_old @g_set)) (And.intro @g_sets (And.intro @set_new @set_old))))) (And.intro (And.intro (And.intro (And.intro @set_set @alloc_n) (And.intro @set_n (And.intro @lt_yes @le_yes))) (And.intro (And.intro @eqn_yes (And.intro @lti_yes @lei_yes)) (And.intro @lti_no (And.intro @lei_no @beqi_no)))) (And.intro (And.intro (And.intro @beqi_yes (And.intro @bnei_no @bnei_yes)) (And.intro @boolIs_t (And.intro @boolIs_f @a_lenv))) (And.intro (And.intro @a_iaddrv (And.intro @a_faddrv @row_alloc)) (And.intro @row_set (And.intro @st_app @st_apps)))))) (And.intro (And.intro (And.intro (And.intro (And.intro @sd_apps @sd_app) (And.intro @st_iaddrp (And.intro @sd_iaddrp @st_idxa))) (And.intro (And.intro @sd_idxa (And.intro @st_slarr @sd_slarr)) (And.intro @st_eqs (And.intro @sd_eqs @st_mm)))) (And.intro (And.intro (And.intro @sd_mm (And.intro @st_i2str @sd_i2str)) (And.intro @st_rng (And.intro @st_next @st_copy))) (And.intro (And.intro @sd_copy (And.intro @st_clr @a_mmx)) (And.intro @a_mmn (And.intro @a_iaddrp @a_bslicee))))) (And.intro (And.intro (And.intro (And.intro @cells_int (And.intro @cells_bool @cells_str)) (And.intro @cells_sl (And.intro @cells_slc @cells_ptr))) (And.intro (And.intro @cells_pn (And.intro @touch_load1 @touch_loadn)) (And.intro @touch_load1v (And.intro @touch_loadnv @keepsB_n)))) (And.intro (And.intro (And.intro @keepsB_c (And.intro @olderB_n @olderB_c)) (And.intro @obl_nil (And.intro @obl_c @ob1_0))) (And.intro (And.intro @ob1_2 (And.intro @ob1_s @bi_u)) (And.intro @resC (And.intro @cellnp @cell1p)))))))
set_option linter.defProp false in
def A3c:=(And.intro (And.intro (And.intro (And.intro @List.append_nil.{0} @List.nil_append.{0}) (And.intro @List.cons_append.{0} @decide_true)) (And.intro (And.intro @decide_false @List.drop_zero.{0}) (And.intro @Option.bind_some.{0,0} @List.toList_toArray.{0}))) (And.intro (And.intro (And.intro @implies_true.{1} @implies_true.{0}) (And.intro @not_true_eq_false @not_false_eq_true)) (And.intro (And.intro @and_false @Int.toNat_zero) (And.intro @bne_self_eq_false.{0} @Bool.not_not))))
set_option linter.defProp false in
def LN:=And.intro @List.length_cons.{0} (And.intro @List.length_nil.{0} (And.intro @alloc_n @set_n))
set_option linter.defProp false in
def P3:=And.intro ANs (And.intro A3s (And.intro ANc (And.intro A3c (And.intro (And.intro (And.intro (And.intro (And.intro @AOp.map.eq_1 (And.intro @AOp.map.eq_2 @AOp.map.eq_3)) (And.intro @AOp.map.eq_4 (And.intro @AOp.map.eq_5 @AOp.map.eq_6))) (And.intro (And.intro @AOp.map.eq_7 (And.intro @AOp.map.eq_8 @AOp.map.eq_9)) (And.intro (And.intro @AOp.map.eq_10 @AOp.map.eq_11) (And.intro @AOp.map.eq_12 @AOp.map.eq_13)))) (And.intro (And.intro (And.intro @AOp.map.eq_14 (And.intro @AOp.map.eq_15 @AOp.map.eq_16)) (And.intro @AOp.map.eq_17 (And.intro @AOp.map.eq_18 @AOp.map.eq_19))) (And.intro (And.intro @AOp.map.eq_20 (And.intro @AOp.map.eq_21 @AOp.map.eq_22)) (And.intro (And.intro @AOp.map.eq_23 @AOp.map.eq_24) (And.intro @AOp.map.eq_25 @AOp.map.eq_26))))) (And.intro (And.intro (And.intro (And.intro @AOp.map.eq_27 (And.intro @AOp.map.eq_28 @AOp.map.eq_29)) (And.intro @AOp.map.eq_30 (And.intro @AOp.map.eq_31 @AOp.map.eq_32))) (And.intro (And.intro @AOp.map.eq_33 (And.intro @AOp.map.eq_34 @AOp.map.eq_35)) (And.intro (And.intro @AOp.map.eq_36 @AOp.map.eq_37) (And.intro @AOp.map.eq_38 @AOp.map.eq_39)))) (And.intro (And.intro (And.intro @AOp.map.eq_40 (And.intro @AOp.map.eq_41 @AOp.map.eq_42)) (And.intro (And.intro @AOp.map.eq_43 @AOp.map.eq_44) (And.intro @AOp.map.eq_45 @AOp.map.eq_46))) (And.intro (And.intro @AOp.map.eq_47 (And.intro (And.intro @AOp.map.eq_48 (And.intro @AOp.map.eq_49 (And.intro @AOp.map.eq_50 (And.intro @AOp.map.eq_51 (And.intro @AOp.map.eq_52 (And.intro @AOp.map.eq_53 @AOp.map.eq_54)))))) (And.intro @List.take_nil.{0} @List.take_zero.{0}))) (And.intro (And.intro @List.take_succ_cons.{0} @List.drop_nil.{0}) (And.intro @List.drop_zero.{0} @List.drop_succ_cons.{0})))))))))
end Go.AM

namespace Go.AM
structure Th where
 P:AHeap→Prop
 F:List Nat
 lt:∀H,P H→∀b∈F,b<H.n
 st:∀H H',P H→H.n≤H'.n→(∀b∈F,H'.get b=H.get b)→P H'
def Apart(a b:Th):Prop:=∀x∈a.F,x∉b.F
theorem Apart.symm{a b:Th}(h:Apart a b):Apart b a:=fun x h1 h2=>h x h2 h1
structure Sep (H:AHeap) (ts:List Th):Prop where
 all:∀t∈ts,t.P H
 ap:ts.Pairwise Apart
theorem Sep.nil(H:AHeap):Sep H []:=⟨by simp,.nil⟩
theorem Sep.get{H:AHeap}{ts:List Th}(h:Sep H ts)(i:Nat){t:Th}(hi:ts[i]? =some t):t.P H:=h.all t (List.mem_of_getElem? hi)
theorem Sep.keeps{H H':AHeap}{ts:List Th}(h:Sep H ts)(k:Keeps H H'):Sep H' ts:=
 ⟨fun t ht=>t.st H H' (h.all t ht) k.n (fun b hb=>k.get b (t.lt H (h.all t ht) b hb)),h.ap⟩
theorem Sep.upd{H H':AHeap}{t t':Th}{r:List Th}:∀{l:List Th},Sep H (l++t::r)→Chg t.F H H'→t'.P H'→(∀b∈t'.F,b∈t.F∨H.n≤b)→Sep H' (l++t'::r):=by
 intro l h c hp hf
 have key:∀x,x.P H→Apart t x→Apart t' x:=fun x hx ha b hb hbx=>by
  rcases hf b hb with h1|h1
  ·exact ha b h1 hbx
  ·have:=x.lt H hx b hbx;omega
 have stay:∀x,x.P H→Apart t x→x.P H':=fun x hx ha=>x.st H H' hx c.n (fun b hb=>c.get b (x.lt H hx b hb) (fun hbt=>ha b hbt hb))
 have h1:=List.pairwise_append.1 h.ap
 obtain⟨a1,a2,a3⟩:=h1
 have a4:=List.pairwise_cons.1 a2
 refine⟨?_,List.pairwise_append.2 ⟨a1,List.pairwise_cons.2 ⟨fun x hx=>key x (h.all x (by simp[hx])) (a4.1 x hx),a4.2⟩,?_⟩⟩
 ·intro x hx
  rcases List.mem_append.1 hx with hx|hx
  ·exact stay x (h.all x (by simp[hx])) (a3 x hx t (by simp)).symm
  ·rcases List.mem_cons.1 hx with rfl|hx
   ·exact hp
   ·exact stay x (h.all x (by simp[hx])) (a4.1 x hx)
 ·intro x hx y hy
  rcases List.mem_cons.1 hy with rfl|hy
  ·exact(key x (h.all x (by simp[hx])) (a3 x hx t (by simp)).symm).symm
  ·exact a3 x hx y (by simp[hy])
theorem Sep.add{H H':AHeap}{t:Th}{ts:List Th}(h:Sep H ts)(k:Keeps H H')(hp:t.P H')(hf:∀b∈t.F,H.n≤b):Sep H' (t::ts):=
 ⟨fun x hx=>by
  rcases List.mem_cons.1 hx with rfl|hx
  ·exact hp
  ·exact(h.keeps k).all x hx,List.pairwise_cons.2 ⟨fun x hx b hb hbx=>by have:=x.lt H (h.all x hx) b hbx;have:=hf b hb;omega,h.ap⟩⟩
theorem Sep.perm{H:AHeap}{ts us:List Th}(h:Sep H ts)(p:ts.Perm us):Sep H us:=
 ⟨fun t ht=>h.all t (p.mem_iff.2 ht),p.pairwise_iff (fun{a b} hab=>hab.symm) |>.1 h.ap⟩
def thB(b:Nat)(o:AO):Th where
 P H:=H.get b=some o
 F:=[b]
 lt H h x hx:=by simp at hx;subst hx;exact AHeap.get_lt h
 st H H' h _ k:=by rw[k b (by simp)];exact h
theorem Sep.tail{H:AHeap}{t:Th}{ts:List Th}(h:Sep H (t::ts)):Sep H ts:=
 ⟨fun x hx=>h.all x (by simp[hx]),(List.pairwise_cons.1 h.ap).2⟩
section
variable {P:Program} {ng:Nat} {H:AHeap} {KF:List Value→AHeap→Prop} {fr tm:List Value} {tr:List TE} {Q:AQ}
theorem appG{d:D}{r:List AOper}{e esz bytes:Nat}{s x:Value}{n m:Nat}{c news:List Value}(h:AP H e esz s n c)(hx:∃a k,x=.slice a m k)(h1:elemsA H esz x=some news)(hm:news.length=m*esz)
 (hs:(n+m)*bytes≤140737488355328∧n+m≤140737488355328)
 (hk:∀v' H',AP H' e esz v' (n+m) (c++news)→Chg (blkL s) H H'→(blk v'=blk s∨blk v'=some H.n)→RW P ng r (d.frame v' fr) (d.temps v' tm) H' KF):goR P ng (asem (.app e esz bytes s x) H) d r fr tm KF:=by
 rw[←st_app];exact appR h hx h1 hm hs hk
theorem appGD{d:D}{r:List (AOper×List Nat)}{e esz bytes:Nat}{s x:Value}{n m:Nat}{c news:List Value}(h:AP H e esz s n c)(hx:∃a k,x=.slice a m k)(h1:elemsA H esz x=some news)(hm:news.length=m*esz)
 (hs:(n+m)*bytes≤140737488355328∧n+m≤140737488355328)
 (hk:∀v' H',AP H' e esz v' (n+m) (c++news)→Chg (blkL s) H H'→(blk v'=blk s∨blk v'=some H.n)→RD P ng r (d.frame v' fr) (d.temps v' tm) H' (tr++[⟨3,[],H,H'⟩]) KF):goD P ng (.app e esz bytes s x) (asem (.app e esz bytes s x) H) d [] r fr tm H tr KF:=by
 obtain⟨v',H',e1,e2,e3,e4⟩:=h.app (bytes:=bytes) hm hs
 obtain⟨a,k,rfl⟩:=hx
 exact⟨v',H',by simp only[asem,h1];exact e1,trivial,hk v' H' e2 e3 e4⟩
end
theorem elems_new{H:AHeap}{own room:Bool}{esz e n:Nat}{c:List Value}{b:Nat}(hb:b=H.n)(h:c.length=n*esz):elemsA (H.alloc (.cells own room esz c e)) esz (slc b 0 n n)=some c:=by
 subst hb;exact elems_own (AHeap.get_alloc_new H _) h
end Go.AM

namespace Go.AM
def tb:Value→List Nat
 | .slice (some ⟨b,_,none⟩) _ _=>[b]
 |_=>[]
theorem el_tbl{H:AHeap}{esz:Nat}{v:Value}{l:List Value}(h:elemsA H esz v=some l):∀b∈tb v,b<H.n:=by
 intro b hb
 unfold tb at hb
 split at hb
 ·rename_i x o n k
  simp only[List.mem_singleton]at hb;subst hb
  simp only[elemsA]at h
  cases hg:H.get b with
  |none=>rw[hg]at h;cases h
  |some ob=>exact AHeap.get_lt hg
 ·cases hb
theorem el_get{H H':AHeap}{esz:Nat}{v:Value}{l:List Value}(h:elemsA H esz v=some l)(k:∀b∈tb v,b<H.n→H'.get b=H.get b):elemsA H' esz v=some l:=by
 have ht:=el_tbl h
 unfold elemsA at h ⊢
 split
 ·exact h
 ·rename_i b o n k2
  have hb:b∈tb (.slice (some ⟨b,o,none⟩) n k2):=by simp[tb]
  rw[k b hb (ht b hb)];exact h
 ·exact h
 ·simp at h
theorem Sl.tbl{H:AHeap}{esz:Nat}{v:Value}{rows:List (List Value)}(h:Sl H esz v rows):∀b∈tb v,b<H.n:=el_tbl h.el
theorem Sl.chgT{H H':AHeap}{esz:Nat}{v:Value}{rows:List (List Value)}{S:List Nat}(h:Sl H esz v rows)(k:Chg S H H')(hS:∀b∈tb v,b∉S):Sl H' esz v rows:=
 ⟨h.sh,h.row,el_get h.el fun b hb hn=>k.get b hn (hS b hb)⟩
end Go.AM

namespace Go.AM
def via(ρ:Nat→Option Nat)(σ:Sg):Sg:=fun b=>(ρ b).bind σ
theorem via_of{ρ:Nat→Option Nat}{σ:Sg}{b c:Nat}{i:BI}(h:ρ b=some c)(k:σ c=some i):via ρ σ b=some i:=by
 unfold via;rw[h];exact k
theorem via_inv{ρ:Nat→Option Nat}{σ:Sg}{b:Nat}{i:BI}(h:via ρ σ b=some i):∃c,ρ b=some c∧σ c=some i:=by
 unfold via at h
 cases hb:ρ b with
 |none=>rw[hb]at h;cases h
 |some c=>rw[hb]at h;exact⟨c,rfl,h⟩
inductive NV (ρ:Nat→Option Nat):Value→Value→Prop
 |bool (b:Bool):NV ρ (.bool b) (.bool b)
 |int (k:IntKind) (n:Int):NV ρ (.int k n) (.int k n)
 |string (s:ByteArray):NV ρ (.string s) (.string s)
 |nilPtr:NV ρ (.pointer none) (.pointer none)
 |ptr {b c o:Nat} (h:ρ b=some c):NV ρ (.pointer (some ⟨b,o,none⟩)) (.pointer (some ⟨c,o,none⟩))
 |nilSl:NV ρ (.slice none 0 0) (.slice none 0 0)
 |sl {b c o n k:Nat} (h:ρ b=some c):NV ρ (.slice (some ⟨b,o,none⟩) n k) (.slice (some ⟨c,o,none⟩) n k)
 |slz {x:Addr} (hx:x.spot.isSome=true):NV ρ (.slice (some x) 0 0) (.slice (some x) 0 0)
 |nilMap:NV ρ (.map none) (.map none)
 |map {b c:Nat} (h:ρ b=some c):NV ρ (.map (some b)) (.map (some c))
 |func (fn:Fn) (xs xs' ys ys':Array Value) (h1:xs.size=xs'.size) (h2:∀i (a:i<xs.size) (b:i<xs'.size),NV ρ xs[i] xs'[i])
  (h3:ys.size=ys'.size) (h4:∀i (a:i<ys.size) (b:i<ys'.size),NV ρ ys[i] ys'[i]):NV ρ (.func fn xs ys) (.func fn xs' ys')
 |nilFunc:NV ρ .nilFunc .nilFunc
 |iface (t:TypeId) {v v':Value} (h:NV ρ v v'):NV ρ (.iface t v) (.iface t v')
 |nilIface:NV ρ .nilIface .nilIface
 |agg (xs xs':Array Value) (h1:xs.size=xs'.size) (h2:∀i (a:i<xs.size) (b:i<xs'.size),NV ρ xs[i] xs'[i]):NV ρ (.agg xs) (.agg xs')
 |tuple (xs xs':Array Value) (h1:xs.size=xs'.size) (h2:∀i (a:i<xs.size) (b:i<xs'.size),NV ρ xs[i] xs'[i]):NV ρ (.tuple xs) (.tuple xs')
inductive NL (ρ:Nat→Option Nat):List Value→List Value→Prop
 |nil:NL ρ [] []
 |cons {v v':Value} {l l':List Value} (h:NV ρ v v') (t:NL ρ l l'):NL ρ (v::l) (v'::l')
theorem NV.via{ρ:Nat→Option Nat}{σ:Sg}{a b:Value}(h:NV ρ a b):∀{c:Value},VR σ b c→VR (AM.via ρ σ) a c:=by
 induction h with
 |bool b=>intro c k;cases k;exact .bool _
 |int k n=>intro c k;cases k;exact .int _ _
 |string s=>intro c k;cases k;exact .string _
 |nilPtr=>intro c k;cases k;exact .nilPtr
 |ptr e=>intro c k;cases k with|ptr e2=>exact .ptr (via_of e e2)
 |nilSl=>intro c k;cases k;exact .nilSl
 |sl e=>
  intro c k
  cases k with
  |sl e2 hn2 hk2=>exact .sl (via_of e e2) hn2 hk2
  |sl0 e2=>exact .sl0 (via_of e e2)
  |slz hx=>simp at hx
 |slz hx=>
  intro c k
  cases k with
  |sl e2 hn2 hk2=>simp at hx
  |sl0 e2=>exact .slz hx
  |slz _=>exact .slz hx
 |nilMap=>intro c k;cases k;exact .nilMap
 |map e=>intro c k;cases k with|map e2=>exact .map (via_of e e2)
 |func fn xs xs' ys ys' h1 _ h3 _ i2 i4=>
  intro c k
  cases k with
  |func _ _ zs _ us g1 g2 g3 g4=>exact .func fn xs zs ys us (by omega) (fun i a b=>i2 i a (by omega) (g2 i (by omega) b)) (by omega) (fun i a b=>i4 i a (by omega) (g4 i (by omega) b))
 |nilFunc=>intro c k;cases k;exact .nilFunc
 |iface t _ ih=>intro c k;cases k with|iface _ k=>exact .iface t (ih k)
 |nilIface=>intro c k;cases k;exact .nilIface
 |agg xs xs' h1 _ ih=>
  intro c k
  cases k with
  |agg _ zs g1 g2=>exact .agg xs zs (by omega) (fun i a b=>ih i a (by omega) (g2 i (by omega) b))
 |tuple xs xs' h1 _ ih=>
  intro c k
  cases k with
  |tuple _ zs g1 g2=>exact .tuple xs zs (by omega) (fun i a b=>ih i a (by omega) (g2 i (by omega) b))
theorem NL.via{ρ:Nat→Option Nat}{σ:Sg}{a b:List Value}(h:NL ρ a b):∀{c:List Value},VL σ b c→VL (AM.via ρ σ) a c:=by
 induction h with
 |nil=>intro c k;cases k;exact .nil
 |cons h _ ih=>intro c k;cases k with|cons k1 k2=>exact .cons (h.via k1) (ih k2)
theorem NL.length{ρ:Nat→Option Nat}{a b:List Value}(h:NL ρ a b):a.length=b.length:=by
 induction h with
 |nil=>rfl
 |cons _ _ ih=>simp[ih]
theorem NL.one{ρ:Nat→Option Nat}{a b:List Value}(h:NL ρ a b)(hb:∀v∈b,v.oneCell'=true):∀v∈a,v.oneCell'=true:=by
 induction h with
 |nil=>simp
 |cons h _ ih=>
  intro v hv
  rcases List.mem_cons.1 hv with rfl|hv
  ·have:=hb _ (List.mem_cons_self ..)
   cases h<;>first|exact this|rfl
  ·exact ih (fun v hv=>hb v (List.mem_cons_of_mem _ hv)) v hv
inductive NE (ρ:Nat→Option Nat):List MapEntry→List MapEntry→Prop
 |nil:NE ρ [] []
 |cons {e e':MapEntry} {l l':List MapEntry} (hk:e'.key=e.key) (hb:e'.born=e.born) (h:NV ρ e.val e'.val) (t:NE ρ l l'):NE ρ (e::l) (e'::l')
theorem NE.via{ρ:Nat→Option Nat}{σ:Sg}{a b:List MapEntry}(h:NE ρ a b):∀{c:List MapEntry},ML σ b c→ML (AM.via ρ σ) a c:=by
 induction h with
 |nil=>intro c k;cases k;exact .nil
 |cons hk hb h _ ih=>intro c k;cases k with|cons k1 k2 k3 k4=>exact .cons (k1.trans hk) (k2.trans hb) (h.via k3) (ih k4)
def NO(ρ:Nat→Option Nat)(o o2:Obj):Prop:=match o with
 | .map es k=>∃es2,o2=.map es2 k∧NE ρ es.toList es2.toList
 |o=>o2=o
theorem NO.via{ρ:Nat→Option Nat}{σ:Sg}{o o2 o':Obj}(h:NO ρ o o2)(k:JR σ o2 o'):JR (AM.via ρ σ) o o':=by
 cases o with
 |map es c=>
  obtain⟨es2,rfl,h2⟩:=h
  obtain⟨es',rfl,k2⟩:=k
  exact⟨es',rfl,h2.via k2⟩
 |_=>cases h;exact k
def AOr(ρ:Nat→Option Nat)(a b:AO):Prop:=match a with
 | .dead=>True
 | .cells own room esz c e=>∃own' c',b=.cells own' room esz c' e∧(own=true→own'=true)∧NL ρ c c'
 | .obj own o=>∃own' o2,b=.obj own' o2∧(own=true→own'=true)∧NO ρ o o2
 | .loop .. =>False
theorem AOr.own{ρ:Nat→Option Nat}{a b:AO}(h:AOr ρ a b)(ha:a.own=true):b.own=true:=by
 cases a with
 |dead=>cases ha
 |cells own room esz c e=>obtain⟨own',c',rfl,h1,_⟩:=h;exact h1 ha
 |obj own o=>obtain⟨own',o2,rfl,h1,_⟩:=h;exact h1 ha
 |loop own st pe L=>exact h.elim
theorem AOr.live{ρ:Nat→Option Nat}{a b:AO}(h:AOr ρ a b)(ha:a.live=true):b.live=true:=by
 cases a with
 |dead=>cases ha
 |cells own room esz c e=>obtain⟨own',c',rfl,h1,_⟩:=h;rfl
 |obj own o=>obtain⟨own',o2,rfl,h1,_⟩:=h;rfl
 |loop own st pe L=>exact h.elim
theorem AOr.or{ρ:Nat→Option Nat}{a b:AO}(h:AOr ρ a b){σ:Sg}{w:World}{i:BI}(k:OR σ w i b):OR (AM.via ρ σ) w i a:=by
 cases a with
 |dead=>trivial
 |cells own room esz c e=>
  obtain⟨own',c',rfl,h1,h2⟩:=h
  obtain⟨a1,a2,a3,a4,a9,d,fr,a5,a6,a7,a8⟩:=k
  have hl:=h2.length
  exact⟨by rw[hl];exact a1,a2,a3,by rw[hl];exact a4,h2.one a9,d,fr,a5,a6,by rw[hl];exact h2.via a7,fun ho=>by rw[hl];exact a8 (h1 ho)⟩
 |obj own o=>
  obtain⟨own',o2,rfl,h1,h2⟩:=h
  obtain⟨o',k1,k2,k3⟩:=k
  exact⟨o',k1,h2.via k2,k3⟩
 |loop own st pe L=>exact h.elim
variable {P:Program} {ng:Nat} {f:FuncId} {args:List Value} {H H' H'':AHeap} {v v'':Value}
def Stood(ng:Nat)(args:List Value)(H:AHeap)(v:Value):Prop:=∀(σ:Sg) (w:World) (args':List Value),HR ng σ H.get w→VL σ args args'→∃x,VR σ v x
theorem ARun.gc(h:ARun P ng f args H v H')(ρ:Nat→Option Nat)(hn:H.n≤H''.n)
 (r0:∀b,b<H.n→ρ b=some b) (r1:∀b c,ρ b=some c→b<H''.n∧(H.n≤b→H.n≤c)) (ri:∀b1 b2 c,ρ b1=some c→ρ b2=some c→b1=b2)
 (ro:∀b c o',ρ b=some c→H'.get c=some o'→(b=c∧b<H.n∧H.get b=some o'∧H''.get b=some o')∨∃o'',H''.get b=some o''∧AOr ρ o'' o')
 (rv:(v''=v∧Stood ng args H v)∨NV ρ v'' v):ARun P ng f args H v'' H'':=by
 obtain⟨h0,h1,h2⟩:=h
 refine⟨h0,hn,fun σ w args' hr ha=>?_⟩
 refine(h2 σ w args' hr ha).mono ?_
 rintro e w' ⟨v',σ',rfl,k1,k2,k3⟩
 have old:∀b i,σ b=some i→b<H.n:=fun b i hb=>by
  obtain⟨o,g,_⟩:=hr.obj b i hb
  exact AHeap.get_lt g
 have sub:σ.le (AM.via ρ σ'):=fun b i hb=>via_of (r0 b (old b i hb)) (k2.sub b i hb)
 have back:∀b i,b<H.n→σ' b=some i→σ b=some i:=fun b i hb hs=>by
  cases hsb:σ b with
  |none=>have:=(k2.new b i hsb hs).1.1;omega
  |some j=>have:=k2.sub b j hsb;rw[hs]at this;exact this.symm
 have meet_le:(meet σ' σ).le (AM.via ρ σ'):=fun b i hb=>by
  unfold meet at hb
  split at hb
  ·rename_i hs
   obtain⟨j,hj⟩:=Option.isSome_iff_exists.1 hs
   exact via_of (r0 b (old b j hj)) hb
  ·cases hb
 have obj:∀b i,AM.via ρ σ' b=some i→∃c o'' o',ρ b=some c∧σ' c=some i∧H''.get b=some o''∧H'.get c=some o'∧OR (AM.via ρ σ') w' i o''∧(o''.own=true→o'.own=true)∧(o''.live=true→o'.live=true):=by
  intro b i hb
  obtain⟨c,hc,hs⟩:=via_inv hb
  obtain⟨o',g1,g2⟩:=k1.obj c i hs
  rcases ro b c o' hc g1 with⟨rfl,hlt,e1,e2⟩|⟨o'',e1,e2⟩
  ·refine⟨b,o',o',hc,hs,e2,g1,?_,fun x=>x,fun x=>x⟩
   have hsb:=back b i hlt hs
   obtain⟨o2,f1,f2⟩:=hr.obj b i hsb
   rw[e1]at f1;cases f1
   exact(g2.meet f2).mono meet_le
  ·exact⟨c,o'',o',hc,hs,e1,g1,e2.or g2,e2.own,e2.live⟩
 refine⟨v',AM.via ρ σ',rfl,⟨?_,?_,?_,?_⟩,⟨sub,?_,?_,?_,k2.keep,k2.size,hn,k2.os,k2.tape,k2.output⟩,?_⟩
 ·intro b i hb
  obtain⟨c,o'',o',_,_,e1,_,e2,_⟩:=obj b i hb
  exact⟨o'',e1,e2⟩
 ·intro b1 b2 i1 i2 o1 o2 hne hb1 hb2 ho1 ho2 hw hl
  obtain⟨c1,p1,q1,a1,a2,a3,a4,_,a5,_⟩:=obj b1 i1 hb1
  obtain⟨c2,p2,q2,d1,d2,d3,d4,_,_,d6⟩:=obj b2 i2 hb2
  rw[ho1]at a3;cases a3
  rw[ho2]at d3;cases d3
  exact k1.inj c1 c2 i1 i2 q1 q2 (fun hc=>by subst hc;exact hne (ri b1 b2 c1 a1 d1)) a2 d2 a4 d4 (a5 hw) (d6 hl)
 ·intro b i hb
  obtain⟨c,_,hs⟩:=via_inv hb
  exact k1.lt c i hs
 ·intro g hg
  obtain⟨i,g1,g2,g3⟩:=hr.glob g hg
  exact⟨i,sub g i g1,g2,g3⟩
 ·intro b i hb hs
  obtain⟨c,hc,hs'⟩:=via_inv hs
  by_cases hlt:b<H.n
  ·have:=r0 b hlt
   rw[hc]at this;cases this
   rw[back b i hlt hs']at hb;cases hb
  ·have hcn:=(r1 b c hc).2 (by omega)
   have hsc:σ c=none:=by
    cases hsc:σ c with
    |none=>rfl
    |some j=>have:=old c j hsc;omega
   exact⟨⟨by omega,(r1 b c hc).1⟩,(k2.new c i hsc hs').2⟩
 ·intro b i o'' hb ho hw
  obtain⟨c,p1,q1,a1,a2,a3,a4,_,a5,_⟩:=obj b i (sub b i hb)
  rw[r0 b (old b i hb)]at a1;cases a1
  rw[ho]at a3;cases a3
  exact k2.own b i q1 hb a4 (a5 hw)
 ·intro b i o'' hb ho hw
  obtain⟨c,p1,q1,a1,a2,a3,a4,_,_,a6⟩:=obj b i (sub b i hb)
  rw[r0 b (old b i hb)]at a1;cases a1
  rw[ho]at a3;cases a3
  exact k2.live b i q1 hb a4 (a6 hw)
 ·rcases rv with⟨rfl,hst⟩|hrv
  ·obtain⟨x,hx⟩:=hst σ w args' hr ha
   exact(k3.meet hx).mono meet_le
  ·exact hrv.via k3
theorem NV.plain{ρ:Nat→Option Nat}{v:Value}(h:plain1 v=true):NV ρ v v:=by
 unfold plain1 at h
 split at h<;>first|constructor|cases h
theorem NL.plain{ρ:Nat→Option Nat}:∀{l:List Value},l.all plain1=true→NL ρ l l
 |[],_=>.nil
 |v::l,h=>by
  simp only[List.all_cons,Bool.and_eq_true]at h
  exact .cons (NV.plain h.1) (NL.plain h.2)
theorem NL.get{ρ:Nat→Option Nat}{l l':List Value}(h:NL ρ l l'):∀(i:Nat) (a:i<l.length) (b:i<l'.length),NV ρ l[i] l'[i]:=by
 induction h with
 |nil=>intro i a;simp at a
 |cons h _ ih=>
  intro i a b
  cases i with
  |zero=>exact h
  |succ i=>exact ih i (by simpa using a) (by simpa using b)
theorem NV.agg_of{ρ:Nat→Option Nat}{l l':List Value}(h:NL ρ l l'):NV ρ (.agg l.toArray) (.agg l'.toArray):=
 .agg _ _ (by simpa using h.length) (fun i a b=>by simpa using h.get i (by simpa using a) (by simpa using b))
theorem NV.tuple_of{ρ:Nat→Option Nat}{l l':List Value}(h:NL ρ l l'):NV ρ (.tuple l.toArray) (.tuple l'.toArray):=
 .tuple _ _ (by simpa using h.length) (fun i a b=>by simpa using h.get i (by simpa using a) (by simpa using b))
def rho(n:Nat)(bs:List Nat):Nat→Option Nat:=fun b=>if b<n then some b else bs[b-n]?
theorem rho_old{n:Nat}{bs:List Nat}{b:Nat}(h:b<n):rho n bs b=some b:=by unfold rho;rw[if_pos h]
theorem ARun.gc0(h:ARun P ng f args H v H')(k:Keeps H H')(hv:Stood ng args H v∨NV (rho H.n []) v v):ARun P ng f args H v H:=by
 refine h.gc (rho H.n []) (Nat.le_refl _) (fun b hb=>rho_old hb) ?_ ?_ ?_ ?_
 ·intro b c hb
  unfold rho at hb
  split at hb
  ·cases hb;exact⟨by assumption,by omega⟩
  ·simp at hb
 ·intro b1 b2 c h1 h2
  unfold rho at h1 h2
  split at h1<;>split at h2<;>simp_all
 ·intro b c o' hb ho
  unfold rho at hb
  split at hb
  ·rename_i hlt
   cases hb
   have:=k.get b hlt
   rw[ho]at this
   exact .inl ⟨rfl,hlt,this.symm,this.symm⟩
  ·simp at hb
 ·rcases hv with hv|hv
  ·exact .inl ⟨rfl,hv⟩
  ·exact .inr hv
section
variable {KF:List Value→AHeap→Prop} {fr tm:List Value} {tr:List TE} {K:AHeap}
end
theorem gcb{P:Program}{ng:Nat}{f:FuncId}{xs:List Value}{H:AHeap}{b:Bool}(h:∃w H',ARun P ng f xs H w H'∧w=.bool b∧Keeps H H'):∃w H',ARun P ng f xs H w H'∧w=.bool b∧H'=H:=by
 obtain⟨_,_,a,rfl,k⟩:=h
 exact⟨_,_,a.gc0 k (.inr (.bool _)),rfl,rfl⟩
end Go.AM

namespace Go.AM
structure SepH (H K:AHeap) (ts:List Th):Prop where
 sep:Sep K ts
 k:Keeps H K
 ge:∀t∈ts,∀y∈t.F,H.n≤y
section
variable {H K K':AHeap} {t t' a b c d:Th} {r ts:List Th}
theorem SepH.keeps(h:SepH H K ts)(k:Keeps K K'):SepH H K' ts:=⟨h.sep.keeps k,h.k.trans k,h.ge⟩
theorem SepH.upd{l:List Th}(h:SepH H K (l++t::r))(c:Chg t.F K K')(hp:t'.P K')(hf:∀y∈t'.F,y∈t.F∨K.n≤y):SepH H K' (l++t'::r):=by
 refine⟨h.sep.upd c hp hf,h.k.chg_trans c (fun y hy=>h.ge t (by simp) y hy),fun x hx y hy=>?_⟩
 rcases List.mem_append.1 hx with hx|hx
 ·exact h.ge x (by simp[hx]) y hy
 ·rcases List.mem_cons.1 hx with rfl|hx
  ·rcases hf y hy with e|e
   ·exact h.ge t (by simp) y e
   ·have:=h.k.n;omega
  ·exact h.ge x (by simp[hx]) y hy
theorem SepH.u0(h:SepH H K (t::r))(c:Chg t.F K K')(hp:t'.P K')(hf:∀y∈t'.F,y∈t.F∨K.n≤y):SepH H K' (t'::r):=h.upd (l:=[]) c hp hf
theorem SepH.u1(h:SepH H K (a::t::r))(c:Chg t.F K K')(hp:t'.P K')(hf:∀y∈t'.F,y∈t.F∨K.n≤y):SepH H K' (a::t'::r):=h.upd (l:=[a]) c hp hf
theorem SepH.u2(h:SepH H K (a::b::t::r))(c:Chg t.F K K')(hp:t'.P K')(hf:∀y∈t'.F,y∈t.F∨K.n≤y):SepH H K' (a::b::t'::r):=h.upd (l:=[a,b]) c hp hf
theorem SepH.u3(h:SepH H K (a::b::c::t::r))(ch:Chg t.F K K')(hp:t'.P K')(hf:∀y∈t'.F,y∈t.F∨K.n≤y):SepH H K' (a::b::c::t'::r):=h.upd (l:=[a,b,c]) ch hp hf
theorem SepH.u4(h:SepH H K (a::b::c::d::t::r))(ch:Chg t.F K K')(hp:t'.P K')(hf:∀y∈t'.F,y∈t.F∨K.n≤y):SepH H K' (a::b::c::d::t'::r):=h.upd (l:=[a,b,c,d]) ch hp hf
theorem SepH.at_(h:SepH H K ts)(i:Nat)(hi:ts[i]? =some t):t.P K:=h.sep.get i hi
theorem SepH.lt(h:SepH H K ts)(i:Nat)(hi:ts[i]? =some t){y:Nat}(hy:y∈t.F):y<K.n:=t.lt K (h.at_ i hi) y hy
theorem SepH.gei(h:SepH H K ts)(i:Nat)(hi:ts[i]? =some t){y:Nat}(hy:y∈t.F):H.n≤y:=h.ge t (List.mem_of_getElem? hi) y hy
theorem SepH.add(h:SepH H K ts)(k:Keeps K K')(hp:t.P K')(hf:∀y∈t.F,K.n≤y):SepH H K' (t::ts):=
 ⟨h.sep.add k hp hf,h.k.trans k,fun x hx y hy=>by
  rcases List.mem_cons.1 hx with rfl|hx
  ·have:=hf y hy;have:=h.k.n;omega
  ·exact h.ge x hx y hy⟩
theorem SepH.nil(H:AHeap):SepH H H []:=⟨Sep.nil H,Keeps.refl H,by simp⟩
theorem SepH.perm{us:List Th}(h:SepH H K ts)(p:ts.Perm us):SepH H K us:=⟨h.sep.perm p,h.k,fun t ht=>h.ge t (p.mem_iff.2 ht)⟩
end
def thA(e esz:Nat)(v:Value)(n:Nat)(c:List Value):Th where
 P K:=AP K e esz v n c
 F:=blkL v
 lt K h y hy:=h.lt (mem_blkL.1 hy)
 st K K' h hn k:=by
  rcases h with⟨rfl,rfl,rfl⟩|⟨b,room,rfl,h1,h2⟩
  ·exact .inl ⟨rfl,rfl,rfl⟩
  ·exact .inr ⟨b,room,rfl,h1,by rw[k b (mem_blkL.2 rfl)];exact h2⟩
end Go.AM

namespace Go.AM
def cpre:Nat→ACode→ACode
 |0,_=>.skip
 |1,.seq a _=>a
 |n+2,.seq a b=>.seq a (cpre (n+1) b)
 |_+1,c=>c
def cpost:Nat→ACode→ACode
 |0,c=>c
 |n+1,.seq _ b=>cpost n b
 |_+1,_=>.skip
def cok:Nat→ACode→Bool
 |0,_=>false
 |1,.seq _ _=>true
 |n+2,.seq _ b=>cok (n+1) b
 |_+1,_=>false
variable {P:Program} {ng:Nat} {H:AHeap} {Q:AQ} {fr:List Value}
theorem andThen2(Q:AQ)(K K':List Value→AHeap→Prop):(Q.andThen K).andThen K'=Q.andThen K':=by
 funext e fr H
 cases e<;>rfl
theorem W_pp:∀(n:Nat) (c:ACode) (Q:AQ) (fr:List Value) (H:AHeap),cok n c=true→W P ng c Q fr H=W P ng (cpre n c) (Q.andThen (W P ng (cpost n c) Q)) fr H
 |0,c,Q,fr,H,h=>by simp[cok]at h
 |1,c,Q,fr,H,h=>by
  cases c<;>simp[cok]at h
  rfl
 |n+2,c,Q,fr,H,h=>by
  cases c<;>simp[cok]at h
  rename_i a b
  simp only[cpre,cpost,W_seq]
  rw[andThen2]
  congr 1
  funext e fr H
  cases e
  ·exact W_pp (n+1) b Q fr H h
  all_goals rfl
theorem W_part{c:ACode}(n:Nat)(M:List Value→AHeap→Prop)(hok:cok n c=true)
 (h1:∀Q':AQ,(∀fr H,M fr H→Q' .normal fr H)→(∀i fr H,Q (.exit i) fr H→Q' (.exit i) fr H)→(∀fr H,Q .ret fr H→Q' .ret fr H)→W P ng (cpre n c) Q' fr H)
 (h2:∀fr H,M fr H→W P ng (cpost n c) Q fr H):W P ng c Q fr H:=by
 rw[W_pp n c Q fr H hok]
 exact h1 _ (fun fr H h=>h2 fr H h) (fun _ _ _ h=>h) (fun _ _ h=>h)
end Go.AM

namespace Go.AM
section
variable {P : Program} {ng : Nat} {H : AHeap} {Q : AQ} {fr tm : List Value}
theorem str_emp : ByteArray.empty = ⟨([] : List UInt8).toArray⟩ := _root_.id rfl
theorem str_ext (l : List UInt8) (a b : Nat) : (⟨l.toArray⟩ : ByteArray).extract a b = ⟨((l.take b).drop a).toArray⟩ := by
 apply ByteArray.ext
 rw [ByteArray.data_extract, List.drop_take]
 simp [List.extract_eq_take_drop]
theorem str_size (l : List UInt8) : (⟨l.toArray⟩ : ByteArray).size = l.length := by simp [ByteArray.size]
theorem a_slsT {l : List UInt8} {n : Nat} {kd : IntKind} (h : n ≤ l.length) : asem (.slstr (.string ⟨l.toArray⟩) (some (.int kd (n : Int))) none) H = some (.string ⟨(l.drop n).toArray⟩, H) := by
 simp only [asem, bndA, str_size]
 rw [if_pos (by omega)]
 simp [str_ext]
theorem a_slsP {l : List UInt8} {n : Nat} {kd : IntKind} (h : n ≤ l.length) : asem (.slstr (.string ⟨l.toArray⟩) none (some (.int kd (n : Int)))) H = some (.string ⟨(l.take n).toArray⟩, H) := by
 simp only [asem, bndA, str_size]
 rw [if_pos (by omega)]
 simp [str_ext]
theorem a_slsM {l : List UInt8} {n m : Nat} {kd kd' : IntKind} (h : n ≤ m) (h2 : m ≤ l.length) : asem (.slstr (.string ⟨l.toArray⟩) (some (.int kd (n : Int))) (some (.int kd' (m : Int)))) H = some (.string ⟨((l.take m).drop n).toArray⟩, H) := by
 simp only [asem, bndA, str_size]
 rw [if_pos (by omega)]
 simp only
 rw [if_pos (by omega)]
 simp [str_ext]
theorem a_idxS {l : List UInt8} {n : Nat} {kd : IntKind} (h : n < l.length) : asem (.idxs (.string ⟨l.toArray⟩) (.int kd (n : Int))) H = some (.int .u8 ((l.getD n 0).toNat : Nat), H) := by
 simp only [asem, str_size]
 rw [if_pos (by omega)]
 simp [List.getD, List.getElem?_eq_getElem h]
theorem a_idxS0 {l : List UInt8} {kd : IntKind} (h : 0 < l.length) : asem (.idxs (.string ⟨l.toArray⟩) (.int kd 0)) H = some (.int .u8 ((l.getD 0 0).toNat : Nat), H) := a_idxS (n := 0) h
theorem b_eqS (a b : List UInt8) : binA .eql (.string ⟨a.toArray⟩) (.string ⟨b.toArray⟩) = some (.bool (decide (a = b))) := by rw [b_seql, bytes_eq]
theorem b_addS {a b : List UInt8} (h : a.length + b.length ≤ 140737488355328) : binA .add (.string ⟨a.toArray⟩) (.string ⟨b.toArray⟩) = some (.string ⟨(a ++ b).toArray⟩) := by
 rw [b_sadd (by simpa [str_size] using h), bytes_append]
theorem st_callvy (b : Nat) (xs : List Value) (d : D) (r : List AOper) (KF : List Value → AHeap → Prop) : stR P ng (.callv (.chan (some b)) xs) d r fr tm H KF = ∃ v H', AYield P ng b xs H v H' ∧ RW P ng r (d.frame v fr) (d.temps v tm) H' KF := _root_.id rfl
theorem yieldK {b : Nat} {xs : List Value} {R K : Value → AHeap → Prop} (h : ∃ v H', AYield P ng b xs H v H' ∧ R v H') (k : ∀ v H', R v H' → K v H') : ∃ v H', AYield P ng b xs H v H' ∧ K v H' := by
 obtain ⟨v, H', h1, h2⟩ := h; exact ⟨v, H', h1, k v H' h2⟩
theorem arun_ext {f : FuncId} {fn : Func} {e : Array Value → Sem Value} (hf : P.funcs[f]? = some fn) (hname : (fn.name == "runtime.NumGoroutine") = false) (hb : fn.body.isNone = true) (hn : Extern.findNext fn = none) (he : Extern.find fn = some e)
  {args : List Value} {v : Value} (hv : ∀ σ, VR σ v v) (h : ∀ σ w args', VL σ args args' → (e args'.toArray).run P w = .ok v w) : ARun P ng f args H v H := by
 refine ⟨⟨fn, hf⟩, Nat.le_refl _, fun σ w args' hr ha => ?_⟩
 refine .ext v w ?_ ⟨v, σ, rfl, hr, Ext.refl _ _ _ _, hv σ⟩
 rw [run_callFunc_extern hf hname hb hn he, h σ w args' ha]
 rfl
end
def ixB (c : UInt8) : List UInt8 → Option Nat
 | [] => none
 | x :: l => if x = c then some 0 else (ixB c l).map (· + 1)
def ixI (c : UInt8) (l : List UInt8) : Int := match ixB c l with
 | some i => (i : Int)
 | none => -1
theorem ixB_find (c : UInt8) (l : List UInt8) : l.findIdx? (· == c) = ixB c l := by
 induction l with
 | nil => rfl
 | cons x l ih =>
  simp only [List.findIdx?_cons, ixB, ih]
  by_cases h : x = c <;> simp [h]
theorem find_range {α : Type} (p : α → Bool) : ∀ (l : List α) (q : Nat → Bool), (∀ i (h : i < l.length), q i = p l[i]) → (List.range l.length).find? q = l.findIdx? p
 | [], q, h => rfl
 | x :: l, q, h => by
  rw [List.length_cons, List.range_succ_eq_map, List.find?_cons, List.findIdx?_cons]
  rw [h 0 (by simp)]
  simp only [List.getElem_cons_zero]
  cases p x with
  | true => rfl
  | false =>
   simp only [List.find?_map]
   rw [find_range p l (q ∘ Nat.succ) (fun i hi => by
    have h1 := h (i + 1) (by simpa using hi)
    rw [List.getElem_cons_succ] at h1
    exact h1)]
   cases l.findIdx? p <;> simp
theorem first_ix (l : List UInt8) (c : UInt8) : firstIdx ⟨l.toArray⟩ c = ixI c l := by
 unfold firstIdx ixI
 rw [← ixB_find, str_size, find_range (fun x => x == c) l]
 ·cases l.findIdx? (· == c) <;> rfl
 ·intro i h
  have : (⟨l.toArray⟩ : ByteArray)[i]! = l[i] := by
   rw [getElem!_pos (⟨l.toArray⟩ : ByteArray) i (by rw [str_size]; exact h)]
   rfl
  rw [this]
theorem ixB_some {c : UInt8} : ∀ {l : List UInt8} {i : Nat}, ixB c l = some i → i < l.length ∧ l.getD i 0 = c ∧ ∀ j, j < i → l.getD j 0 ≠ c
 | x :: l, i, h => by
  simp only [ixB] at h
  split at h
  ·rename_i hx
   cases h
   exact ⟨by simp, by simpa using hx, fun j hj => absurd hj (by omega)⟩
  ·rename_i hx
   simp only [Option.map_eq_some_iff] at h
   obtain ⟨k, hk, rfl⟩ := h
   obtain ⟨h1, h2, h3⟩ := ixB_some hk
   refine ⟨by simpa using h1, by simpa using h2, fun j hj => ?_⟩
   cases j with
   | zero => simpa using hx
   | succ j => simpa using h3 j (by omega)
theorem ixB_le {c : UInt8} {l : List UInt8} {i : Nat} (h : ixB c l = some i) : i < l.length := (ixB_some h).1
theorem blen (ba : ByteArray) : ba.data.toList.length = ba.size := Array.length_toList
theorem bloop {β : Type} (f : β → UInt8 → β) (ba : ByteArray) : ∀ (i j : Nat) (b : β), j + i = ba.size →
  ByteArray.foldlM.loop (m := _root_.Id) (fun b x => pure (f b x)) ba ba.size (Nat.le_refl _) i j b = (ba.data.toList.drop j).foldl f b := by
 intro i
 induction i with
 | zero =>
  intro j b h
  unfold ByteArray.foldlM.loop
  rw [dif_neg (by omega), List.drop_of_length_le (by rw [blen]; omega)]
  rfl
 | succ i ih =>
  intro j b h
  unfold ByteArray.foldlM.loop
  have hj : j < ba.size := by omega
  rw [dif_pos hj]
  have hl : j < ba.data.toList.length := by rw [blen]; exact hj
  rw [List.drop_eq_getElem_cons hl, List.foldl_cons]
  exact ih (j + 1) _ (by omega)
theorem bfold {β : Type} (f : β → UInt8 → β) (ba : ByteArray) (b : β) : ba.foldl f b = ba.data.toList.foldl f b := by
 unfold ByteArray.foldl ByteArray.foldlM
 rw [dif_pos (Nat.le_refl _)]
 exact bloop f ba ba.size 0 b (by omega)
def cB (c : UInt8) : List UInt8 → Nat
 | [] => 0
 | x :: l => if x = c then cB c l + 1 else cB c l
theorem cB_fold (c : UInt8) : ∀ (l : List UInt8) (n : Int), l.foldl (fun (n : Int) x => if x == c then n + 1 else n) n = n + (cB c l : Int)
 | [], n => by simp [cB]
 | x :: l, n => by
  rw [List.foldl_cons, cB_fold]
  by_cases h : x = c
  ·have e : cB c (x :: l) = cB c l + 1 := by simp [cB, h]
   rw [e, if_pos (by simpa using h)]; push_cast; omega
  ·have e : cB c (x :: l) = cB c l := by simp [cB, h]
   rw [e, if_neg (by simpa using h)]
theorem cB_le (c : UInt8) : ∀ l : List UInt8, cB c l ≤ l.length
 | [] => Nat.le_refl _
 | x :: l => by
  have := cB_le c l
  simp only [cB, List.length_cons]
  split <;> omega
theorem run_count_string {P : Program} (l : List UInt8) (c : Int) (w : World) :
  (Extern.BytealgCount.count #[.string ⟨l.toArray⟩, .int .u8 c]).run P w = .ok (.int .i64 ((cB c.toNat.toUInt8 l : Nat) : Int)) w := by
 change Sem.run P (do
  let b ← Extern.Bytes.bytesOf (.string ⟨l.toArray⟩)
  let c' ← Extern.Bytes.asByte (.int .u8 c)
  pure (goInt (b.foldl (fun n x => if x == c' then n + 1 else n) ((0 : Nat) : Int)))) w = _
 simp only [Extern.Bytes.bytesOf, Extern.Bytes.asByte, Sem.run_bind, Sem.run_pure, Result.andThen_ok, bfold, cB_fold]
 simp [goInt]
def splitB (c : UInt8) : List UInt8 → List (List UInt8)
 | [] => [[]]
 | x :: l => if x = c then [] :: splitB c l else match splitB c l with
  | p :: r => (x :: p) :: r
  | [] => [[x]]
theorem splitB_ne (c : UInt8) (l : List UInt8) : splitB c l ≠ [] := by
 cases l with
 | nil => simp [splitB]
 | cons x l =>
  simp only [splitB]
  split
  ·simp
  ·split <;> simp
theorem splitB_ix {c : UInt8} : ∀ {l : List UInt8}, splitB c l = match ixB c l with
  | some i => l.take i :: splitB c (l.drop (i + 1))
  | none => [l]
 | [] => rfl
 | x :: l => by
  simp only [splitB, ixB]
  split
  ·simp
  ·rw [splitB_ix (l := l)]
   cases ixB c l <;> simp
theorem splitB_cB (c : UInt8) : ∀ l : List UInt8, (splitB c l).length = cB c l + 1
 | [] => rfl
 | x :: l => by
  have ih := splitB_cB c l
  simp only [splitB, cB]
  split
  ·simp [ih]
  ·split
   ·rename_i p r h; rw [h] at ih; simpa using ih
   ·rename_i h; exact absurd h (splitB_ne c l)
end Go.AM

namespace Go.AM.Fd
open Nat (reduceAdd reduceEqDiff reduceLT reduceLeDiff reduceMul reduceSub)
open Go.Proofs Go.AM.F
noncomputable def ibsF:Func:=(Tryz.prog.funcs[104]?).getD default
theorem ibs_f:Tryz.prog.funcs[104]? =some ibsF:=by kernel_rfl
theorem ibs_n:(ibsF.name== "runtime.NumGoroutine")=false:=by kernel_rfl
theorem ibs_b:ibsF.body.isNone=true:=by kernel_rfl
theorem ibs_x:Extern.findNext ibsF=none:=by kernel_rfl
theorem ibs_e:Extern.find ibsF=some Extern.BytealgIndexByte.indexByte:=by kernel_rfl
theorem t104(H:AHeap)(l:List UInt8)(c:Nat):∃w H',ARun Tryz.prog 4 104 [.string ⟨l.toArray⟩,.int .u8 (c:Int)] H w H'∧w=.int .i64 (ixI (UInt8.ofNat c) l)∧H'=H:=by
 refine⟨_,_,arun_ext ibs_f ibs_n ibs_b ibs_x ibs_e (fun σ=>.int .i64 (ixI (UInt8.ofNat c) l)) ?_,rfl,rfl⟩
 intro σ w args' hv
 cases hv with
 |cons a hv=>
  cases hv with
  |cons b hv=>
   cases hv
   cases a
   cases b
   have:=run_indexByte_string (P:=Tryz.prog) ⟨l.toArray⟩ (c:Int) w
   rw[first_ix]at this
   exact this
theorem t100(H:AHeap)(l:List UInt8)(c:Nat):∃w H',ARun Tryz.prog 4 100 [.string ⟨l.toArray⟩,.int .u8 (c:Int)] H w H'∧w=.int .i64 (ixI (UInt8.ofNat c) l)∧H'=H:=by
 refine walk2 f100_ok f100_n ?_
 intro Q hq1 hq2
 simp(disch:=first|assumption|omega)only[f100,W_block,P3,seval,initFr,clsA]
 refine callK (t104 H l c) ?_
 rintro _ K ⟨rfl,rfl⟩
 simp(disch:=first|assumption|omega)only[W_block,P3,seval,initFr,clsA]
 exact hq2 _ _ ⟨_,rfl,rfl,rfl⟩
theorem t94(H:AHeap)(l:List UInt8)(c:UInt8):∃w H',ARun Tryz.prog 4 94 [.string ⟨l.toArray⟩,.string ⟨[c].toArray⟩] H w H'∧w=.int .i64 (ixI c l)∧H'=H:=by
 refine walk2 f94_ok f94_n ?_
 intro Q hq1 hq2
 have e0:(((1:Nat):Int)==0)=false:=by simp
 have e1:(((1:Nat):Int)==1)=true:=by simp
 have e2:[c].getD 0 0=c:=rfl
 have hl:0<[c].length:=by simp
 by_cases hc:[c]=l
 ·have e3:decide ([c]=l)=true:=by simpa using hc
  simp(disch:=first|assumption|omega)only[f94,W_block,P3,seval,initFr,clsA,a_idxS0,e0,e1,e2,e3,bytes_eq]
  exact hq2 _ _ ⟨_,rfl,by rw[←hc];simp[ixI,ixB];rfl,rfl⟩
 ·have e3:decide ([c]=l)=false:=by simpa using hc
  simp(disch:=first|assumption|omega)only[f94,W_block,P3,seval,initFr,clsA,a_idxS0,e0,e1,e2,e3,bytes_eq]
  refine callK (t100 H l c.toNat) ?_
  rintro _ K ⟨rfl,rfl⟩
  simp(disch:=first|assumption|omega)only[W_block,P3,seval,initFr,clsA,UInt8.ofNat_toNat]
  exact hq2 _ _ ⟨_,rfl,rfl,rfl⟩
theorem t83(H:AHeap)(l:List UInt8)(c:UInt8):∃w H',ARun Tryz.prog 4 83 [.string ⟨l.toArray⟩,.string ⟨[c].toArray⟩] H w H'∧w=.int .i64 (ixI c l)∧H'=H:=by
 refine walk2 f83_ok f83_n ?_
 intro Q hq1 hq2
 simp(disch:=first|assumption|omega)only[f83,W_block,P3,seval,initFr,clsA]
 refine callK (t94 H l c) ?_
 rintro _ K ⟨rfl,rfl⟩
 simp(disch:=first|assumption|omega)only[W_block,P3,seval,initFr,clsA]
 exact hq2 _ _ ⟨_,rfl,rfl,rfl⟩
def cutB(c:UInt8)(l:List UInt8):Value:=match ixB c l with
 |some i=>.tuple #[.string ⟨(l.take i).toArray⟩,.string ⟨(l.drop (i+1)).toArray⟩,.bool true]
 |none=>.tuple #[.string ⟨l.toArray⟩,.string ⟨([]:List UInt8).toArray⟩,.bool false]
theorem t84(H:AHeap)(l:List UInt8)(c:UInt8)(hl:l.length≤1000000000):∃w H',ARun Tryz.prog 4 84 [.string ⟨l.toArray⟩,.string ⟨[c].toArray⟩] H w H'∧w=cutB c l∧H'=H:=by
 refine walk2 f84_ok f84_n ?_
 intro Q hq1 hq2
 simp(disch:=first|assumption|omega)only[f84,W_block,P3,seval,initFr,clsA]
 refine callK (t94 H l c) ?_
 rintro _ K ⟨rfl,rfl⟩
 cases hi:ixB c l with
 |none=>
  have e:ixI c l= -1:=by unfold ixI;rw[hi]
  simp(disch:=first|assumption|omega)only[W_block,P3,seval,initFr,clsA,e]
  exact hq2 _ _ ⟨_,rfl,by unfold cutB;rw[hi];rfl,rfl⟩
 |some i=>
  have e:ixI c l=(i:Int):=by unfold ixI;rw[hi]
  have hlt:=ixB_le hi
  have h0:(0:Int)≤(i:Int):=by omega
  have hle:i≤l.length:=by omega
  have hw:IntKind.i64.wrap ((i:Int)+((1:Nat):Int))=((i+1:Nat):Int):=by
   rw[wrap_i64 (by omega) (by omega)];simp
  have hle2:i+1≤l.length:=by omega
  simp(disch:=first|assumption|omega|(simp only[LN]<;>omega)|(simp(disch:=first|assumption|omega|(simp only[LN]<;>omega))only[row_alloc,row_set];assumption))only[W_block,P3,↓reduceIte,reduceAdd,reduceEqDiff,reduceCtorEq,initFr,reduceLT,clsA,reduceLeDiff,reduceMul,reduceSub,reduceIte,e,a_slsP,a_slsT,hw]
  exact hq2 _ _ ⟨_,rfl,by unfold cutB;rw[hi];rfl,rfl⟩
theorem t64(H:AHeap)(l:List UInt8)(c:UInt8)(hl:l.length≤1000000000):∃w H',ARun Tryz.prog 4 64 [.string ⟨l.toArray⟩,.string ⟨[c].toArray⟩] H w H'∧w=cutB c l∧H'=H:=by
 refine walk2 f64_ok f64_n ?_
 intro Q hq1 hq2
 simp(disch:=first|assumption|omega)only[f64,W_block,P3,seval,initFr,clsA]
 refine callK (t84 H l c hl) ?_
 rintro _ K ⟨hw,rfl⟩
 unfold cutB at hw
 split at hw<;>(subst hw;simp(disch:=first|assumption|omega)only[W_block,P3,seval,initFr,clsA])
 ·rename_i i hi
  exact hq2 _ _ ⟨_,rfl,by unfold cutB;rw[hi];rfl,rfl⟩
 ·rename_i hi
  exact hq2 _ _ ⟨_,rfl,by unfold cutB;rw[hi];rfl,rfl⟩
theorem t85(H:AHeap)(l p:List UInt8):∃w H',ARun Tryz.prog 4 85 [.string ⟨l.toArray⟩,.string ⟨p.toArray⟩] H w H'∧w=.bool (p.isPrefixOf l)∧H'=H:=by
 refine walk2 f85_ok f85_n ?_
 intro Q hq1 hq2
 by_cases h:p.length≤l.length
 ·have h1:((p.length:Nat):Int)≤((l.length:Nat):Int):=by omega
  have e:(decide (l.take p.length=p))=p.isPrefixOf l:=by
   rw[Bool.eq_iff_iff,decide_eq_true_iff,List.isPrefixOf_iff_prefix,List.prefix_iff_eq_take]
   exact eq_comm
  simp(disch:=first|assumption|omega)only[f85,W_block,P3,seval,initFr,clsA,a_slsP,bytes_eq,e]
  exact hq2 _ _ ⟨_,rfl,rfl,rfl⟩
 ·have h1:¬((p.length:Nat):Int)≤((l.length:Nat):Int):=by omega
  have e:p.isPrefixOf l=false:=by
   rw[Bool.eq_false_iff]
   intro e
   exact h (List.isPrefixOf_iff_prefix.1 e).length_le
  simp(disch:=first|assumption|omega)only[f85,W_block,P3,seval,initFr,clsA]
  exact hq2 _ _ ⟨_,rfl,by rw[e];rfl,rfl⟩
theorem t65(H:AHeap)(l p:List UInt8):∃w H',ARun Tryz.prog 4 65 [.string ⟨l.toArray⟩,.string ⟨p.toArray⟩] H w H'∧w=.bool (p.isPrefixOf l)∧H'=H:=by
 refine walk2 f65_ok f65_n ?_
 intro Q hq1 hq2
 simp(disch:=first|assumption|omega)only[f65,W_block,P3,seval,initFr,clsA]
 refine callK (t85 H l p) ?_
 rintro _ K ⟨rfl,rfl⟩
 simp(disch:=first|assumption|omega)only[W_block,P3,seval,initFr,clsA]
 exact hq2 _ _ ⟨_,rfl,rfl,rfl⟩
end Go.AM.Fd

namespace Go.AM.Fd
open Nat (reduceAdd reduceEqDiff reduceLT reduceLeDiff reduceMul reduceSub)
open Go.Proofs Go.AM.F
def boxS(l:List UInt8):AO:=.cells true false 1 [.string ⟨l.toArray⟩] 9
theorem t86(H:AHeap)(l:List UInt8)(c:UInt8):∃w H',ARun Tryz.prog 4 86 [.string ⟨l.toArray⟩,.string ⟨[c].toArray⟩,.int .i64 0] H w H'∧
 w=.func (.func 95) #[] #[ptr (H.n+1) 0,ptr H.n 0,ptr (H.n+2) 0]∧H'=((H.alloc (boxS l)).alloc (boxS [c])).alloc (.cells true false 1 [.int .i64 0] 3):=by
 refine walk2 f86_ok f86_n ?_
 intro Q hq1 hq2
 simp(disch:=first|assumption|omega)only[f86,W_block,P3,seval,initFr,clsA]
 exact hq2 _ _ ⟨_,rfl,rfl,rfl⟩
theorem t66(H:AHeap)(l:List UInt8)(c:UInt8):∃w H',ARun Tryz.prog 4 66 [.string ⟨l.toArray⟩,.string ⟨[c].toArray⟩] H w H'∧
 w=.func (.func 95) #[] #[ptr (H.n+1) 0,ptr H.n 0,ptr (H.n+2) 0]∧H'=((H.alloc (boxS l)).alloc (boxS [c])).alloc (.cells true false 1 [.int .i64 0] 3):=by
 refine walk2 f66_ok f66_n ?_
 intro Q hq1 hq2
 simp(disch:=first|assumption|omega)only[f66,W_block,P3,seval,initFr,clsA]
 refine callK (t86 H l c) ?_
 rintro _ K ⟨rfl,rfl⟩
 simp(disch:=first|assumption|omega)only[W_block,P3,seval,initFr,clsA]
 exact hq2 _ _ ⟨_,rfl,rfl,rfl⟩
theorem t95(J:List (List UInt8)→List UInt8→AHeap→Prop)(Jx:AHeap→Prop){c:UInt8}{b p1 p2 p3:Nat}{s:List UInt8}(hl:s.length≤1000000000)
 (hr:∀pre sc H,J pre sc H→H.get p1=some (boxS [c])∧H.get p2=some (boxS sc)∧H.get p3=some (.cells true false 1 [.int .i64 0] 3))
 (hw:∀pre sc sc' H,J pre sc H→J pre sc' (H.set p2 (boxS sc')))
 (hy:∀pre x sc H,J pre sc H→(∃rest,splitB c s=pre++x::rest)→∃v H',AYield Tryz.prog 4 b [.string ⟨x.toArray⟩] H v H'∧((v=.bool true∧J (pre++[x]) sc H')∨(v=.bool false∧Jx H')))
 {H:AHeap} (h0:J [] s H):∃w H',ARun Tryz.prog 4 95 [.chan (some b),ptr p1 0,ptr p2 0,ptr p3 0] H w H'∧((∃sc,J (splitB c s) sc H')∨Jx H'):=by
 refine walk2 f95_ok f95_n ?_
 intro Q hq1 hq2
 obtain⟨g1,g2,g3⟩:=hr _ _ _ h0
 have e0:(((1:Nat):Int)==0)=false:=by simp
 unfold boxS at g1 g2
 simp(disch:=first|assumption|omega)only[f95,P3,seval,initFr,clsA,g1,e0]
 rw[W_block]
 refine W_loop2 (fun k fr H=>∃pre sc x5 x6 x10 x11,fr=[.chan (some b),ptr p1 0,ptr p2 0,ptr p3 0,undef,x5,x6,.bool false,undef,undef,x10,x11]∧J pre sc H∧splitB c s=pre++splitB c sc∧sc.length=k∧sc.length≤s.length) s.length
  ⟨[],s,_,_,_,_,rfl,h0,rfl,rfl,Nat.le_refl _⟩ ?_
 rintro Q' k fr H ⟨pre,sc,x5,x6,x10,x11,rfl,hJ,hsp,hk,hle⟩ hn hx hret
 obtain⟨g1,g2,g3⟩:=hr _ _ _ hJ
 unfold boxS at g1 g2
 simp(disch:=first|assumption|omega)only[W_block,P3,seval,initFr,clsA,g1,g2]
 refine callK (t83 H sc c) ?_
 rintro _ K ⟨rfl,rfl⟩
 cases hi:ixB c sc with
 |none=>
  have e:ixI c sc= -1:=by unfold ixI;rw[hi]
  have hsp1:splitB c sc=[sc]:=by rw[splitB_ix,hi]
  rw[hsp1]at hsp
  simp(disch:=first|assumption|omega)only[W_block,P3,seval,initFr,clsA,e,g1,g2]
  refine hx 2 _ _ ?_
  simp(disch:=first|assumption|omega)only[W_block,P3,seval,initFr,clsA,g1,g2,st_callvy]
  refine yieldK (hy pre sc sc _ hJ ⟨[],hsp⟩) ?_
  rintro v K h
  refine hq1 _ _ ⟨_,rfl,?_⟩
  rcases h with⟨_,h⟩|⟨_,h⟩
  ·exact .inl ⟨sc,by rw[hsp];exact h⟩
  ·exact .inr h
 |some i=>
  have e:ixI c sc=(i:Int):=by unfold ixI;rw[hi]
  have hlt:=ixB_le hi
  have h0':¬((i:Int)<0):=by omega
  have hw1:IntKind.i64.wrap ((i:Int)+0)=((i:Nat):Int):=by rw[wrap_i64 (by omega) (by omega)];simp
  have hw2:IntKind.i64.wrap ((i:Int)+((1:Nat):Int))=((i+1:Nat):Int):=by rw[wrap_i64 (by omega) (by omega)];simp
  have hi1:i≤sc.length:=by omega
  have hi2:i+1≤sc.length:=by omega
  have hsp1:splitB c sc=sc.take i::splitB c (sc.drop (i+1)):=by rw[splitB_ix,hi]
  rw[hsp1]at hsp
  simp(disch:=first|assumption|omega)only[W_block,P3,seval,initFr,clsA,e,g1,g2,g3,a_slsP,hw1,st_callvy]
  refine yieldK (hy pre (sc.take i) sc _ hJ ⟨_,hsp⟩) ?_
  rintro v K h
  rcases h with⟨rfl,h⟩|⟨rfl,h⟩
  ·obtain⟨k1,k2,k3⟩:=hr _ _ _ h
   have k2':=k2
   unfold boxS at k1 k2
   simp(disch:=first|assumption|omega|(simp only[LN]<;>omega)|(simp(disch:=first|assumption|omega|(simp only[LN]<;>omega))only[row_alloc,row_set];assumption))only[W_block,P3,↓reduceIte,reduceAdd,reduceEqDiff,reduceCtorEq,initFr,reduceLT,clsA,reduceLeDiff,reduceMul,reduceSub,reduceIte,k1,k2,k3,a_slsT,hw2]
   refine hn (sc.drop (i+1)).length _ _ ⟨pre++[sc.take i],sc.drop (i+1),_,_,_,_,rfl,hw _ _ (sc.drop (i+1)) _ h,by simp[hsp],rfl,by simp;omega⟩ (by rw[←hk];simp;omega)
  ·simp(disch:=first|assumption|omega)only[W_block,P3,seval,initFr,clsA]
   exact hret _ _ (hq2 _ _ ⟨_,rfl,.inr h⟩)
end Go.AM.Fd

namespace Go.AM.Fd
open Nat (reduceAdd reduceEqDiff reduceLT reduceLeDiff reduceMul reduceSub)
open Go.Proofs Go.AM.F
def decB(l:List UInt8)(p:Nat):Nat×Nat:=Utf8.decode ⟨l.toArray⟩ p
theorem decB_pos{l:List UInt8}{p:Nat}:1≤(decB l p).2 :=by
 unfold decB Utf8.decode
 repeat' split
 all_goals (first|omega|(simp only[];repeat' split))
 all_goals first|omega|(dsimp only[];repeat' split)
 all_goals omega
def runs(l:List UInt8):Nat→Nat→List (Nat×Int)
 |0,_=>[]
 |k+1,p=>if p<l.length then(p,((decB l p).1 :Int))::runs l k (p+(decB l p).2)else[]
theorem runs_more{l:List UInt8}:∀{k p:Nat},l.length-p≤k→runs l k p=runs l (l.length-p) p
 |0,p,h=>by rw[show l.length-p=0 by omega]
 |k+1,p,h=>by
  by_cases hp:p<l.length
  ·obtain⟨m,hm⟩:∃m,l.length-p=m+1:=⟨l.length-p-1,by omega⟩
   have h1:=decB_pos (l:=l) (p:=p)
   rw[hm]
   simp only[runs,if_pos hp]
   rw[runs_more (k:=k) (by omega),runs_more (k:=m) (by omega)]
  ·rw[show l.length-p=0 by omega]
   simp[runs,hp]
def runF(l:List UInt8)(p:Nat):List (Nat×Int):=runs l (l.length-p) p
theorem runF_step{l:List UInt8}{p:Nat}(h:p<l.length):runF l p=(p,((decB l p).1 :Int))::runF l (p+(decB l p).2):=by
 obtain⟨m,hm⟩:∃m,l.length-p=m+1:=⟨l.length-p-1,by omega⟩
 have h1:=decB_pos (l:=l) (p:=p)
 unfold runF
 rw[hm]
 simp only[runs,if_pos h]
 rw[runs_more (k:=m) (by omega)]
theorem runF_end{l:List UInt8}{p:Nat}(h:¬p<l.length):runF l p=[]:=by
 unfold runF
 rw[show l.length-p=0 by omega]
 rfl
theorem a_rngS{H:AHeap}(l:List UInt8):asem (.rng (.string ⟨l.toArray⟩)) H=some (ptr H.n 0,H.alloc (.obj true (.stringIter ⟨l.toArray⟩ 0))):=rfl
theorem a_nextY{H:AHeap}{b p:Nat}{l:List UInt8}(hg:H.get b=some (.obj true (.stringIter ⟨l.toArray⟩ p)))(h:p<l.length):
 asem (.next (ptr b 0)) H=some (.tuple #[.bool true,.int .i64 (p:Int),.int .i32 ((decB l p).1 :Int)],H.set b (.obj true (.stringIter ⟨l.toArray⟩ (p+(decB l p).2)))):=by
 simp only[asem,ptr,hg,str_size]
 rw[if_pos h]
 rfl
theorem a_nextN{H:AHeap}{b p:Nat}{l:List UInt8}(hg:H.get b=some (.obj true (.stringIter ⟨l.toArray⟩ p)))(h:¬p<l.length):asem (.next (ptr b 0)) H=some (.tuple #[.bool false],H):=by
 simp only[asem,ptr,hg,str_size]
 rw[if_neg h]
def sgn(r:Int):Bool:=decide (33≤r)&&(decide (r<127)||decide (160<r))&&r != 58&&r != 35&&r != 43&&r != 45&&r != 65533
theorem t62(H:AHeap)(r:Int):∃w H',ARun Tryz.prog 4 62 [.int .i32 r] H w H'∧w=.bool (sgn r)∧H'=H:=by
 refine walk2 f62_ok f62_n ?_
 intro Q hq1 hq2
 by_cases h1:33≤r
 ·by_cases h2:r=58
  ·subst h2;simp(disch:=first|assumption|omega)only[f62,W_block,P3,seval,initFr,clsA];exact hq2 _ _ ⟨_,rfl,rfl,rfl⟩
  by_cases h3:r=35
  ·subst h3;simp(disch:=first|assumption|omega)only[f62,W_block,P3,seval,initFr,clsA];exact hq2 _ _ ⟨_,rfl,rfl,rfl⟩
  by_cases h4:r=43
  ·subst h4;simp(disch:=first|assumption|omega)only[f62,W_block,P3,seval,initFr,clsA];exact hq2 _ _ ⟨_,rfl,rfl,rfl⟩
  by_cases h5:r=45
  ·subst h5;simp(disch:=first|assumption|omega)only[f62,W_block,P3,seval,initFr,clsA];exact hq2 _ _ ⟨_,rfl,rfl,rfl⟩
  by_cases h6:r=65533
  ·subst h6;simp(disch:=first|assumption|omega)only[f62,W_block,P3,seval,initFr,clsA];exact hq2 _ _ ⟨_,rfl,rfl,rfl⟩
  by_cases h7:r<127
  ·simp(disch:=first|assumption|omega)only[f62,W_block,P3,seval,initFr,clsA]
   exact hq2 _ _ ⟨_,rfl,by simp[sgn,tupV,h1,h2,h3,h4,h5,h6,h7],rfl⟩
  ·by_cases h8:160<r
   ·simp(disch:=first|assumption|omega)only[f62,W_block,P3,seval,initFr,clsA]
    exact hq2 _ _ ⟨_,rfl,by simp[sgn,tupV,h1,h2,h3,h4,h5,h6,h7,h8],rfl⟩
   ·simp(disch:=first|assumption|omega)only[f62,W_block,P3,seval,initFr,clsA]
    exact hq2 _ _ ⟨_,rfl,by simp[sgn,tupV,h1,h2,h3,h4,h5,h6,h7,h8],rfl⟩
 ·simp(disch:=first|assumption|omega)only[f62,W_block,P3,seval,initFr,clsA]
  exact hq2 _ _ ⟨_,rfl,by simp[sgn,tupV,h1],rfl⟩
theorem t61(H:AHeap)(r:Int):∃w H',ARun Tryz.prog 4 61 [.int .i32 r] H w H'∧w=.bool (sgn r)∧H'=H:=by
 refine walk2 f61_ok f61_n ?_
 intro Q hq1 hq2
 by_cases h1:r<33
 ·simp(disch:=first|assumption|omega)only[f61,W_block,P3,seval,initFr,clsA]
  exact hq2 _ _ ⟨_,rfl,by simp[sgn,tupV,show¬33≤r by omega],rfl⟩
 have h1':33≤r:=by omega
 by_cases h2:r=58
 ·subst h2;simp(disch:=first|assumption|omega)only[f61,W_block,P3,seval,initFr,clsA];exact hq2 _ _ ⟨_,rfl,rfl,rfl⟩
 by_cases h3:r=35
 ·subst h3;simp(disch:=first|assumption|omega)only[f61,W_block,P3,seval,initFr,clsA];exact hq2 _ _ ⟨_,rfl,rfl,rfl⟩
 by_cases h4:r=43
 ·subst h4;simp(disch:=first|assumption|omega)only[f61,W_block,P3,seval,initFr,clsA];exact hq2 _ _ ⟨_,rfl,rfl,rfl⟩
 by_cases h5:r=45
 ·subst h5;simp(disch:=first|assumption|omega)only[f61,W_block,P3,seval,initFr,clsA];exact hq2 _ _ ⟨_,rfl,rfl,rfl⟩
 by_cases h6:r=65533
 ·subst h6;simp(disch:=first|assumption|omega)only[f61,W_block,P3,seval,initFr,clsA];exact hq2 _ _ ⟨_,rfl,rfl,rfl⟩
 by_cases h7:127≤r
 ·by_cases h8:r≤160
  ·simp(disch:=first|assumption|omega)only[f61,W_block,P3,seval,initFr,clsA]
   exact hq2 _ _ ⟨_,rfl,by simp[sgn,tupV,h1',h2,h3,h4,h5,h6,show¬r<127 by omega,show¬160<r by omega],rfl⟩
  ·simp(disch:=first|assumption|omega)only[f61,W_block,P3,seval,initFr,clsA]
   exact hq2 _ _ ⟨_,rfl,by simp[sgn,tupV,h1',h2,h3,h4,h5,h6,show¬r<127 by omega,show 160<r by omega],rfl⟩
 ·simp(disch:=first|assumption|omega)only[f61,W_block,P3,seval,initFr,clsA]
  exact hq2 _ _ ⟨_,rfl,by simp[sgn,tupV,h1',h2,h3,h4,h5,h6,show r<127 by omega],rfl⟩
def rightB(l:List UInt8):Bool:=(runF l 0).all (fun x=>sgn x.2)&&decide (1≤(runF l 0).length)&&decide ((runF l 0).length≤16)
theorem t37(H:AHeap)(l:List UInt8)(hl:l.length≤9223372036854775807):∃w H',ARun Tryz.prog 4 37 [.string ⟨l.toArray⟩] H w H'∧w=.bool (rightB l)∧H'=H:=by
 suffices h:∃w H',ARun Tryz.prog 4 37 [.string ⟨l.toArray⟩] H w H'∧w=.bool (rightB l)∧Keeps H H' by
  obtain⟨_,_,a,rfl,k⟩:=h
  exact⟨_,_,a.gc0 k (.inr (.bool _)),rfl,rfl⟩
 refine walk2 f37_ok f37_n ?_
 intro Q hq1 hq2
 simp(disch:=first|assumption|omega)only[f37,P3,seval,initFr,clsA,a_rngS]
 rw[W_block]
 refine W_loop2 (fun k fr K=>∃p n x1 x3 x5 x6 x7,fr=[.string ⟨l.toArray⟩,x1,.int .i64 ((n:Nat):Int),x3,ptr H.n 0,x5,x6,x7]∧K.get H.n=some (.obj true (.stringIter ⟨l.toArray⟩ p))∧Keeps H K∧
  rightB l=((runF l p).all (fun x=>sgn x.2)&&decide (1≤n+(runF l p).length)&&decide (n+(runF l p).length≤16))∧n≤p∧k=l.length-p) l.length
  ⟨0,0,_,_,_,_,_,rfl,AHeap.get_alloc_new _ _,(Keeps.refl H).alloc _,by simp[rightB],Nat.le_refl _,rfl⟩ ?_
 rintro Q' k fr K ⟨p,n,x1,x3,x5,x6,x7,rfl,hg,hk,hr,hnp,rfl⟩ hn hx hret
 by_cases hp:p<l.length
 ·have hstep:=runF_step hp
  have hpos:=decB_pos (l:=l) (p:=p)
  simp(disch:=first|assumption|omega)only[W_block,P3,seval,initFr,clsA,a_nextY hg hp]
  refine callK (t61 _ _) ?_
  rintro _ K2 ⟨rfl,rfl⟩
  cases hs:sgn ((decB l p).1 :Int)with
  |false=>
   simp(disch:=first|assumption|omega)only[W_block,P3,seval,initFr,clsA]
   refine hret _ _ (hq2 _ _ ⟨_,rfl,?_,?_⟩)
   ·rw[hr,hstep];simp[hs];rfl
   ·exact hk.set (Nat.le_refl _) (AHeap.get_lt hg) _
  |true=>
   have hw:IntKind.i64.wrap ((n:Int)+1)=((n+1:Nat):Int):=by rw[wrap_i64 (by omega) (by omega)];simp
   simp(disch:=first|assumption|omega)only[W_block,P3,seval,initFr,clsA,hw]
   refine hn _ _ _ ⟨p+(decB l p).2,n+1,_,_,_,_,_,rfl,AHeap.get_set_same hg _,hk.set (Nat.le_refl _) (AHeap.get_lt hg) _,?_,by omega,rfl⟩ (by omega)
   rw[hr,hstep]
   simp only[List.all_cons,hs,Bool.true_and,List.length_cons,show n+((runF l (p+(decB l p).2)).length+1)=n+1+(runF l (p+(decB l p).2)).length by omega]
 ·have hend:=runF_end hp
  simp(disch:=first|assumption|omega)only[W_block,P3,seval,initFr,clsA,a_nextN hg hp]
  refine hx 0 _ _ ?_
  rw[hend]at hr
  simp only[List.all_nil,Bool.true_and,List.length_nil,Nat.add_zero]at hr
  by_cases h1:1≤n
  ·have h1':(1:Int)≤(n:Int):=by omega
   simp(disch:=first|assumption|omega)only[W_block,P3,seval,initFr,clsA]
   refine hq2 _ _ ⟨_,rfl,?_,hk⟩
   rw[hr]
   simp only[tupV,List.getD_cons_succ,List.getD_cons_zero,h1,decide_true,Bool.true_and]
   congr 1
   rw[decide_eq_decide];omega
  ·have h1':¬(1:Int)≤(n:Int):=by omega
   simp(disch:=first|assumption|omega)only[W_block,P3,seval,initFr,clsA]
   refine hq2 _ _ ⟨_,rfl,?_,hk⟩
   rw[hr]
   simp only[tupV,List.getD_cons_succ,List.getD_cons_zero,h1,decide_false,Bool.false_and]
theorem t43(H:AHeap)(l:List UInt8)(hl:l.length≤9223372036854775807):∃w H',ARun Tryz.prog 4 43 [.string ⟨l.toArray⟩] H w H'∧w=.bool (rightB l)∧H'=H:=by
 suffices h:∃w H',ARun Tryz.prog 4 43 [.string ⟨l.toArray⟩] H w H'∧w=.bool (rightB l)∧Keeps H H' by
  obtain⟨_,_,a,rfl,k⟩:=h
  exact⟨_,_,a.gc0 k (.inr (.bool _)),rfl,rfl⟩
 refine walk2 f43_ok f43_n ?_
 intro Q hq1 hq2
 simp(disch:=first|assumption|omega)only[f43,P3,seval,initFr,clsA,a_rngS]
 rw[W_block]
 refine W_loop2 (fun k fr K=>∃p n x1 x3 x5 x6 x7,fr=[.string ⟨l.toArray⟩,x1,.int .i64 ((n:Nat):Int),x3,ptr H.n 0,x5,x6,x7]∧K.get H.n=some (.obj true (.stringIter ⟨l.toArray⟩ p))∧Keeps H K∧
  rightB l=((runF l p).all (fun x=>sgn x.2)&&decide (1≤n+(runF l p).length)&&decide (n+(runF l p).length≤16))∧n≤p∧k=l.length-p) l.length
  ⟨0,0,_,_,_,_,_,rfl,AHeap.get_alloc_new _ _,(Keeps.refl H).alloc _,by simp[rightB],Nat.le_refl _,rfl⟩ ?_
 rintro Q' k fr K ⟨p,n,x1,x3,x5,x6,x7,rfl,hg,hk,hr,hnp,rfl⟩ hn hx hret
 by_cases hp:p<l.length
 ·have hstep:=runF_step hp
  have hpos:=decB_pos (l:=l) (p:=p)
  simp(disch:=first|assumption|omega)only[W_block,P3,seval,initFr,clsA,a_nextY hg hp]
  refine callK (t62 _ _) ?_
  rintro _ K2 ⟨rfl,rfl⟩
  cases hs:sgn ((decB l p).1 :Int)with
  |false=>
   simp(disch:=first|assumption|omega)only[W_block,P3,seval,initFr,clsA]
   refine hret _ _ (hq2 _ _ ⟨_,rfl,?_,?_⟩)
   ·rw[hr,hstep];simp[hs];rfl
   ·exact hk.set (Nat.le_refl _) (AHeap.get_lt hg) _
  |true=>
   have hw:IntKind.i64.wrap ((n:Int)+1)=((n+1:Nat):Int):=by rw[wrap_i64 (by omega) (by omega)];simp
   simp(disch:=first|assumption|omega)only[W_block,P3,seval,initFr,clsA,hw]
   refine hn _ _ _ ⟨p+(decB l p).2,n+1,_,_,_,_,_,rfl,AHeap.get_set_same hg _,hk.set (Nat.le_refl _) (AHeap.get_lt hg) _,?_,by omega,rfl⟩ (by omega)
   rw[hr,hstep]
   simp only[List.all_cons,hs,Bool.true_and,List.length_cons,show n+((runF l (p+(decB l p).2)).length+1)=n+1+(runF l (p+(decB l p).2)).length by omega]
 ·have hend:=runF_end hp
  simp(disch:=first|assumption|omega)only[W_block,P3,seval,initFr,clsA,a_nextN hg hp]
  refine hx 0 _ _ ?_
  rw[hend]at hr
  simp only[List.all_nil,Bool.true_and,List.length_nil,Nat.add_zero]at hr
  by_cases h1:1≤n
  ·have h1':(1:Int)≤(n:Int):=by omega
   simp(disch:=first|assumption|omega)only[W_block,P3,seval,initFr,clsA]
   refine hq2 _ _ ⟨_,rfl,?_,hk⟩
   rw[hr]
   simp only[tupV,List.getD_cons_succ,List.getD_cons_zero,h1,decide_true,Bool.true_and]
   congr 1
   rw[decide_eq_decide];omega
  ·have h1':¬(1:Int)≤(n:Int):=by omega
   simp(disch:=first|assumption|omega)only[W_block,P3,seval,initFr,clsA]
   refine hq2 _ _ ⟨_,rfl,?_,hk⟩
   rw[hr]
   simp only[tupV,List.getD_cons_succ,List.getD_cons_zero,h1,decide_false,Bool.false_and]
end Go.AM.Fd

namespace Go.AM.Fd
open Nat (reduceAdd reduceEqDiff reduceLT reduceLeDiff reduceMul reduceSub)
open Go.Proofs Go.AM.F
def tRow(t:List UInt8):List Value:=[.string ⟨t.toArray⟩]
def TL(H:AHeap)(v:Value)(ts:List (List UInt8)):Prop:=Sl H 1 v (ts.map tRow)
theorem TL.len{H:AHeap}{v:Value}{ts:List (List UInt8)}(h:TL H v ts):lenS v=ts.length:=by
 have:=Sl.len h;simpa using this
theorem TL.at_{H:AHeap}{v:Value}{ts:List (List UInt8)}(h:TL H v ts){i:Nat}(hi:i<ts.length):nnS v=true∧rowA H 1 v i=some (tRow (ts.getD i [])):=by
 have:=Sl.at_ h (by omega) (i:=i) (by simpa using hi)
 refine⟨this.1,?_⟩
 rw[this.2]
 simp[List.getD,List.getElem?_eq_getElem hi]
theorem TL.keeps{H K:AHeap}{v:Value}{ts:List (List UInt8)}(h:TL H v ts)(k:Keeps H K):TL K v ts:=Sl.keeps h k
theorem take_succ_eq{a b:List (List UInt8)}{i:Nat}(h:a.take i=b.take i)(ha:i<a.length)(hb:i<b.length)(he:a.getD i []=b.getD i []):a.take (i+1)=b.take (i+1):=by
 rw[List.take_add_one,List.take_add_one,h]
 simp only[List.getD,List.getElem?_eq_getElem ha,List.getElem?_eq_getElem hb,Option.getD_some]at he
 rw[List.getElem?_eq_getElem ha,List.getElem?_eq_getElem hb,he]
theorem t29{H:AHeap}{v u:Value}{a b:List (List UInt8)}(ha:TL H v a)(hb:TL H u b)(hl:a.length≤9223372036854775807):∃w H',ARun Tryz.prog 4 29 [v,u] H w H'∧w=.bool (decide (a=b))∧H'=H:=by
 refine walk2 f29_ok f29_n ?_
 intro Q hq1 hq2
 have ia:=Sl.is ha
 have ib:=Sl.is hb
 have la:=ha.len
 have lb:=hb.len
 by_cases hlen:a.length=b.length
 ·have e1:(((a.length:Nat):Int) != ((b.length:Nat):Int))=false:=by simp[hlen]
  simp(disch:=first|assumption|omega)only[f29,P3,seval,initFr,clsA,la,lb,e1]
  rw[W_block]
  refine W_loop2 (fun k fr K=>∃i x2 x5 x6,fr=[v,u,x2,.int .i64 ((i:Nat):Int),.bool false,x5,x6]∧K=H∧i≤a.length∧a.take i=b.take i∧k=a.length-i) a.length
   ⟨0,_,_,_,rfl,rfl,by omega,by simp,rfl⟩ ?_
  rintro Q' k fr K ⟨i,x2,x5,x6,rfl,rfl,hi,hp,rfl⟩ hn hx hret
  by_cases hlt:i<a.length
  ·obtain⟨na,ra⟩:=ha.at_ hlt
   obtain⟨nb,rb⟩:=hb.at_ (i:=i) (by omega)
   have h0:(0:Int)≤(i:Int):=by omega
   have h1:(i:Int)<((lenS v:Nat):Int):=by omega
   have h2:(i:Int)<((lenS u:Nat):Int):=by omega
   have h3:(i:Int)<((a.length:Nat):Int):=by omega
   have h4:(i:Int)<((b.length:Nat):Int):=by omega
   unfold tRow at ra rb
   have hw:IntKind.i64.wrap ((i:Int)+1)=((i+1:Nat):Int):=by rw[wrap_i64 (by omega) (by omega)];simp
   by_cases he:a.getD i []=b.getD i []
   ·have e2:decide (a.getD i []=b.getD i [])=true:=by simpa using he
    simp(disch:=first|assumption|omega)only[W_block,P3,seval,initFr,clsA,la,lb,ra,rb,na,nb,a_load1v,bytes_eq,e2,hw]
    exact hn _ _ _ ⟨i+1,_,_,_,rfl,rfl,by omega,take_succ_eq hp hlt (by omega) he,rfl⟩ (by omega)
   ·have e2:decide (a.getD i []=b.getD i [])=false:=by simpa using he
    simp(disch:=first|assumption|omega)only[W_block,P3,seval,initFr,clsA,la,lb,ra,rb,na,nb,a_load1v,bytes_eq,e2,hw]
    refine hret _ _ (hq2 _ _ ⟨_,rfl,?_,rfl⟩)
    have:¬a=b:=fun hab=>he (by rw[hab])
    simp only[tupV,List.getD_cons_succ,List.getD_cons_zero,this,decide_false]
  ·have h3:¬(i:Int)<((a.length:Nat):Int):=by omega
   simp(disch:=first|assumption|omega)only[W_block,P3,seval,initFr,clsA,la,lb]
   refine hx 0 _ _ ?_
   simp(disch:=first|assumption|omega)only[W_block,P3,seval,initFr,clsA]
   refine hq2 _ _ ⟨_,rfl,?_,rfl⟩
   have:a=b:=by
    rw[List.take_of_length_le (by omega),List.take_of_length_le (by omega)]at hp
    exact hp
   simp only[tupV,List.getD_cons_succ,List.getD_cons_zero,this,decide_true]
 ·have e1:(((a.length:Nat):Int) != ((b.length:Nat):Int))=true:=by simp;omega
  simp(disch:=first|assumption|omega)only[f29,W_block,P3,seval,initFr,clsA,la,lb,e1]
  refine hq2 _ _ ⟨_,rfl,?_,rfl⟩
  have:¬a=b:=fun hab=>hlen (by rw[hab])
  simp only[tupV,List.getD_cons_succ,List.getD_cons_zero,this,decide_false]
def aheadB(l:List UInt8):List UInt8:=match ixB 35 l with
 |some i=>l.take i
 |none=>l
theorem ixB_at{c:UInt8}:∀{l:List UInt8} {i:Nat},i<l.length→l.getD i 0=c→(∀j,j<i→l.getD j 0≠c)→ixB c l=some i
 |x::l,0,_,h,_=>by
  have:x=c:=by simpa using h
  simp[ixB,this]
 |x::l,i+1,hl,h,hn=>by
  have hx:¬x=c:=by simpa using hn 0 (by omega)
  simp only[ixB,if_neg hx]
  rw[ixB_at (l:=l) (i:=i) (by simpa using hl) (by simpa using h) (fun j hj=>by simpa using hn (j+1) (by omega))]
  rfl
theorem ixB_no{c:UInt8}:∀{l:List UInt8},(∀j,j<l.length→l.getD j 0≠c)→ixB c l=none
 |[],_=>rfl
 |x::l,hn=>by
  have hx:¬x=c:=by simpa using hn 0 (by simp)
  simp only[ixB,if_neg hx]
  rw[ixB_no (l:=l) (fun j hj=>by simpa using hn (j+1) (by simpa using hj))]
  rfl
theorem u8_eqi(b:UInt8)(n:Nat)(h:n<256):(((b.toNat:Nat):Int)==(n:Int))=(b==UInt8.ofNat n):=by
 have h2:(UInt8.ofNat n).toNat=n:=by simp;omega
 rw[Bool.eq_iff_iff,beq_iff_eq,beq_iff_eq,←UInt8.toNat_inj,h2]
 omega
theorem t53(H:AHeap)(l:List UInt8)(hl:l.length≤1000000000):∃w H',ARun Tryz.prog 4 53 [.string ⟨l.toArray⟩] H w H'∧w=.string ⟨(aheadB l).toArray⟩∧H'=H:=by
 refine walk2 f53_ok f53_n ?_
 intro Q hq1 hq2
 simp(disch:=first|assumption|omega)only[f53,P3,seval,initFr,clsA]
 rw[W_block]
 refine W_loop2 (fun k fr K=>∃i x1 x3 x4,fr=[.string ⟨l.toArray⟩,x1,.int .i64 ((i:Nat):Int),x3,x4]∧K=H∧i≤l.length∧(∀j,j<i→l.getD j 0≠35)∧k=l.length-i) l.length
  ⟨0,_,_,_,rfl,rfl,by omega,fun j hj=>absurd hj (by omega),rfl⟩ ?_
 rintro Q' k fr K ⟨i,x1,x3,x4,rfl,rfl,hi,hp,rfl⟩ hn hx hret
 by_cases hlt:i<l.length
 ·have h3:(i:Int)<((l.length:Nat):Int):=by omega
  have hw:IntKind.i64.wrap ((i:Int)+1)=((i+1:Nat):Int):=by rw[wrap_i64 (by omega) (by omega)];simp
  have e0:=u8_eqi (l.getD i 0) 35 (by omega)
  by_cases he:l.getD i 0=35
  ·have e2:((((l.getD i 0).toNat:Nat):Int)==35)=true:=by rw[show(35:Int)=((35:Nat):Int)from rfl,e0,he];rfl
   simp(disch:=first|assumption|omega)only[W_block,P3,seval,initFr,clsA,a_idxS,e2,a_slsP]
   refine hret _ _ (hq2 _ _ ⟨_,rfl,?_,rfl⟩)
   simp only[tupV,List.getD_cons_succ,List.getD_cons_zero,aheadB,ixB_at hlt he hp]
  ·have e2:((((l.getD i 0).toNat:Nat):Int)==35)=false:=by rw[show(35:Int)=((35:Nat):Int)from rfl,e0];simpa using he
   simp(disch:=first|assumption|omega)only[W_block,P3,seval,initFr,clsA,a_idxS,e2,hw]
   refine hn _ _ _ ⟨i+1,_,_,_,rfl,rfl,by omega,fun j hj=>?_,rfl⟩ (by omega)
   rcases Nat.lt_or_ge j i with h|h
   ·exact hp j h
   ·rw[show j=i by omega];exact he
 ·have h3:¬(i:Int)<((l.length:Nat):Int):=by omega
  simp(disch:=first|assumption|omega)only[W_block,P3,seval,initFr,clsA]
  refine hx 0 _ _ ?_
  simp(disch:=first|assumption|omega)only[W_block,P3,seval,initFr,clsA]
  refine hq2 _ _ ⟨_,rfl,?_,rfl⟩
  simp only[tupV,List.getD_cons_succ,List.getD_cons_zero,aheadB,ixB_no (fun j hj=>hp j (by omega))]
def wholeB(l:List UInt8)(i:Nat):Bool:=[239,191,189].isPrefixOf (l.drop i)
theorem whole_no{l:List UInt8}{i:Nat}(h:¬i+3≤l.length):wholeB l i=false:=by
 unfold wholeB
 rw[Bool.eq_false_iff]
 intro e
 have:=(List.isPrefixOf_iff_prefix.1 e).length_le
 simp at this;omega
theorem drop_at{l:List UInt8}{i:Nat}(h:i<l.length):l.drop i=l.getD i 0::l.drop (i+1):=by
 rw[List.drop_eq_getElem_cons h]
 simp[List.getD,List.getElem?_eq_getElem h]
theorem whole_yes{l:List UInt8}{i:Nat}(h:i+3≤l.length):wholeB l i=(l.getD i 0==239&&l.getD (i+1) 0==191&&l.getD (i+2) 0==189):=by
 unfold wholeB
 rw[drop_at (by omega),drop_at (by omega:i+1<l.length),drop_at (by omega:i+1+1<l.length)]
 simp only[List.isPrefixOf_cons_cons,List.isPrefixOf_nil_left,Bool.and_true]
 rw[Bool.eq_iff_iff]
 simp only[Bool.and_eq_true,beq_iff_eq]
 constructor
 ·rintro⟨a,b,c⟩;exact⟨⟨a.symm,b.symm⟩,c.symm⟩
 ·rintro⟨⟨a,b⟩,c⟩;exact⟨a.symm,b.symm,c.symm⟩
theorem t54(H:AHeap)(l:List UInt8)(i:Nat)(hl:l.length≤1000000000)(hi:i≤l.length):∃w H',ARun Tryz.prog 4 54 [.string ⟨l.toArray⟩,.int .i64 (i:Int)] H w H'∧w=.bool (wholeB l i)∧H'=H:=by
 refine walk2 f54_ok f54_n ?_
 intro Q hq1 hq2
 have hw1:IntKind.i64.wrap ((i:Int)+1)=((i+1:Nat):Int):=by rw[wrap_i64 (by omega) (by omega)];simp
 have hw2:IntKind.i64.wrap ((i:Int)+2)=((i+2:Nat):Int):=by rw[wrap_i64 (by omega) (by omega)];simp
 have hw3:IntKind.i64.wrap ((i:Int)+3)=((i+3:Nat):Int):=by rw[wrap_i64 (by omega) (by omega)];simp
 by_cases h:i+3≤l.length
 ·have h3:((i+3:Nat):Int)≤((l.length:Nat):Int):=by omega
  have i0:i<l.length:=by omega
  have i1:i+1<l.length:=by omega
  have i2:i+2<l.length:=by omega
  have e0:((((l.getD i 0).toNat:Nat):Int)==239)=(l.getD i 0==239):=u8_eqi (l.getD i 0) 239 (by omega)
  have e1:((((l.getD (i+1) 0).toNat:Nat):Int)==191)=(l.getD (i+1) 0==191):=u8_eqi (l.getD (i+1) 0) 191 (by omega)
  have e2:((((l.getD (i+2) 0).toNat:Nat):Int)==189)=(l.getD (i+2) 0==189):=u8_eqi (l.getD (i+2) 0) 189 (by omega)
  have hq:∀fr H2 b,b=wholeB l i→resO f54.res fr H2=some (.bool b)→H2=H→Q .ret fr H2:=fun fr H2 b h1 h2 h3=>hq2 _ _ ⟨_,h2,by rw[h1],h3⟩
  rw[whole_yes h]at hq
  clear hq1 hq2
  cases c0:(l.getD i 0==239)with
  |false=>
   rw[c0]at e0 hq
   simp(disch:=first|assumption|omega)only[f54,W_block,P3,seval,initFr,clsA,hw1,hw2,hw3,a_idxS,e0]
   exact hq _ _ false (by simp) rfl rfl
  |true=>
   rw[c0]at e0 hq
   cases c1:(l.getD (i+1) 0==191)with
   |false=>
    rw[c1]at e1 hq
    simp(disch:=first|assumption|omega)only[f54,W_block,P3,seval,initFr,clsA,hw1,hw2,hw3,a_idxS,e0,e1]
    exact hq _ _ false (by simp) rfl rfl
   |true=>
    rw[c1]at e1 hq
    cases c2:(l.getD (i+2) 0==189)with
    |false=>
     rw[c2]at e2 hq
     simp(disch:=first|assumption|omega)only[f54,W_block,P3,seval,initFr,clsA,hw1,hw2,hw3,a_idxS,e0,e1,e2]
     exact hq _ _ false (by simp) rfl rfl
    |true=>
     rw[c2]at e2 hq
     simp(disch:=first|assumption|omega)only[f54,W_block,P3,seval,initFr,clsA,hw1,hw2,hw3,a_idxS,e0,e1,e2]
     exact hq _ _ true (by simp) rfl rfl
 ·have h3:¬((i+3:Nat):Int)≤((l.length:Nat):Int):=by omega
  simp(disch:=first|assumption|omega)only[f54,W_block,P3,seval,initFr,clsA,hw1,hw2,hw3]
  exact hq2 _ _ ⟨_,rfl,by rw[whole_no h];rfl,rfl⟩
end Go.AM.Fd

namespace Go.AM
section
variable {P:Program} {ng:Nat} {H:AHeap} {Q:AQ} {fr tm:List Value} {KF:List Value→AHeap→Prop} {tr:List TE}
variable (d:D) (r:List AOper) (un:List Nat) (rd:List (AOper×List Nat))
theorem st_mkmap:stR P ng (.mkmap) d r fr tm H KF=goR P ng (asem .mkmap H) d r fr tm KF:=st_of d r (by simp) (by simp) (by simp)
theorem st_mget(k:TypeDesc)(z:Value)(ok:Bool)(x y:Value):stR P ng (.mget k z ok x y) d r fr tm H KF=goR P ng (asem (.mget k z ok x y) H) d r fr tm KF:=st_of d r (by simp) (by simp) (by simp)
theorem sd_mget(k:TypeDesc)(z:Value)(ok:Bool)(x y:Value):stD P ng (.mget k z ok x y) d un rd fr tm H tr KF=goD P ng (.mget k z ok x y) (asem (.mget k z ok x y) H) d un rd fr tm H tr KF:=stD_of d un rd (by simp) (by simp) (by simp)
theorem st_mset(k:TypeDesc)(x y v:Value):stR P ng (.mset k x y v) d r fr tm H KF=goR P ng (asem (.mset k x y v) H) d r fr tm KF:=st_of d r (by simp) (by simp) (by simp)
theorem st_mm4(m:Bool)(x y z w:Value):stR P ng (.mm4 m x y z w) d r fr tm H KF=goR P ng (asem (.mm4 m x y z w) H) d r fr tm KF:=st_of d r (by simp) (by simp) (by simp)
end
section
variable {H:AHeap}
theorem a_mm4(m:Bool)(k:IntKind)(a b c e:Int):asem (.mm4 m (.int k a) (.int k b) (.int k c) (.int k e)) H=some (.int k (mmI m (mmI m (mmI m a b) c) e),H):=by simp[asem]
theorem a_mkmap:asem .mkmap H=some (.map (some H.n),H.alloc (.obj true (.map #[] 0))):=_root_.id rfl
end
theorem cells_map(a:Option Nat):(Value.map a).cells.toList=[.map a]:=_root_.id rfl
structure Enc (d:TypeDesc) {κ:Type} [DecidableEq κ] (enc:κ→Value):Prop where
 same:∀a b,Instr.sameNow d (enc a) (enc b)=some (decide (a=b))
 key:∀a,keyB d (enc a)=true
theorem encStr:Enc .string (fun l:List UInt8=>.string ⟨l.toArray⟩):=⟨fun a b=>by
 show some ((⟨a.toArray⟩:ByteArray)==⟨b.toArray⟩)=_
 have h:((⟨a.toArray⟩:ByteArray)==⟨b.toArray⟩)=true↔a=b:=by
  rw[MapKept.bytes_beq]
  constructor
  ·intro h;cases h;rfl
  ·rintro rfl;rfl
 by_cases e:a=b
 ·rw[h.2 e];simp[e]
 ·have:((⟨a.toArray⟩:ByteArray)==⟨b.toArray⟩)=false:=by
   cases hb:((⟨a.toArray⟩:ByteArray)==⟨b.toArray⟩)
   ·rfl
   ·exact absurd (h.1 hb) e
  rw[this];simp[e],fun a=>rfl⟩
section
variable {κ:Type} [DecidableEq κ] {enc:κ→Value} {d:TypeDesc} {H:AHeap}
def mfind(k:κ):List (κ×Value)→Option Value
 |[]=>none
 |(a,v)::l=>if k=a then some v else mfind k l
def mput(k:κ)(x:Value):List (κ×Value)→List (κ×Value)
 |[]=>[(k,x)]
 |(a,v)::l=>if k=a then(k,x)::l else(a,v)::mput k x l
theorem mput_new{k:κ}{x:Value}:∀{l:List (κ×Value)},mfind k l=none→mput k x l=l++[(k,x)]
 |[],_=>rfl
 |(a,v)::l,h=>by
  simp only[mfind]at h
  split at h
  ·cases h
  ·rename_i hk
   simp only[mput,if_neg hk,mput_new h,List.cons_append]
theorem mem_mput{k:κ}{x:Value}{p:κ×Value}:∀{l:List (κ×Value)},p∈mput k x l→p∈l∨p=(k,x)
 |[],h=>by simp[mput]at h;exact .inr h
 |(a,v)::l,h=>by
  simp only[mput]at h
  split at h
  ·simp only[List.mem_cons]at h ⊢
   rcases h with rfl|h
   ·exact .inr rfl
   ·exact .inl (.inr h)
  ·simp only[List.mem_cons]at h ⊢
   rcases h with rfl|h
   ·exact .inl (.inl rfl)
   ·rcases mem_mput h with h|h
    ·exact .inl (.inr h)
    ·exact .inr h
def MP(enc:κ→Value)(H:AHeap)(b:Nat)(l:List (κ×Value)):Prop:=
 (∃es clock,H.get b=some (.obj true (.map es clock))∧es.toList.map (fun e=>(e.key,e.val))=l.map (fun p=>(enc p.1,p.2)))∧∀p∈l,gndB p.2=true
omit [DecidableEq κ]in
theorem MP.lt{b:Nat}{l:List (κ×Value)}(h:MP enc H b l):b<H.n:=by
 obtain⟨⟨es,c,h1,_⟩,_⟩:=h;exact AHeap.get_lt h1
omit [DecidableEq κ]in
theorem MP.get{H':AHeap}{b:Nat}{l:List (κ×Value)}(h:MP enc H b l)(e:H'.get b=H.get b):MP enc H' b l:=by
 obtain⟨⟨es,c,h1,h2⟩,h3⟩:=h;exact⟨⟨es,c,by rw[e];exact h1,h2⟩,h3⟩
omit [DecidableEq κ]in
theorem MP.new(H:AHeap):MP enc (H.alloc (.obj true (.map #[] 0))) H.n []:=⟨⟨#[],0,AHeap.get_alloc_new _ _,rfl⟩,by simp⟩
theorem findNow_l(E:Enc d enc)(k:κ):∀(es:List MapEntry) (l:List (κ×Value)) (i:Nat),es.map (fun e=>(e.key,e.val))=l.map (fun p=>(enc p.1,p.2))→
 ∃r,Instr.findNow d (enc k) es i=some r∧r.map (·.2)=mfind k l∧∀j v,r=some (j,v)→i≤j∧∀x,((es.modify (j-i) fun e=>{e with key:=enc k,val:=x}).map (fun e=>(e.key,e.val)))=(mput k x l).map (fun p=>(enc p.1,p.2))
 |[],l,i,h=>by
  have:l=[]:=by cases l<;>simp_all
  subst this
  exact⟨none,rfl,rfl,fun j v h=>by cases h⟩
 |e::es,l,i,h=>by
  cases l with
  |nil=>simp at h
  |cons p l=>
   obtain⟨a,v⟩:=p
   simp only[List.map_cons,List.cons.injEq,Prod.mk.injEq]at h
   obtain⟨⟨h1,h2⟩,h3⟩:=h
   by_cases hk:k=a
   ·subst hk
    refine⟨some (i,e.val),?_,by simp[mfind,h2],?_⟩
    ·unfold Instr.findNow
     rw[h1,E.same]
     simp
    ·intro j w hj
     cases hj
     refine⟨Nat.le_refl _,fun x=>?_⟩
     simp[mput,h3]
   ·obtain⟨r,r1,r2,r3⟩:=findNow_l E k es l (i+1) h3
    refine⟨r,?_,by simp[mfind,hk,r2],?_⟩
    ·unfold Instr.findNow
     rw[h1,E.same]
     simp[hk,r1]
    ·intro j w hj
     obtain⟨q1,q2⟩:=r3 j w hj
     refine⟨by omega,fun x=>?_⟩
     rw[show j-i=(j-(i+1))+1 by omega]
     simp only[List.modify_succ_cons,List.map_cons,mput,if_neg hk,q2 x,h1,h2]
def mres(z:Value)(ok:Bool):Option Value→Value
 |some v=>if ok then .tuple #[v,.bool true]else v
 |none=>if ok then .tuple #[z,.bool false]else z
theorem mfind_mem{k:κ}{v:Value}:∀{l:List (κ×Value)},mfind k l=some v→(k,v)∈l
 |(a,w)::l,h=>by
  simp only[mfind]at h
  split at h
  ·rename_i e;cases h;subst e;simp
  ·simp[mfind_mem h]
theorem a_mget(E:Enc d enc){b:Nat}{l:List (κ×Value)}(h:MP enc H b l)(k:κ)(z:Value)(ok:Bool):asem (.mget d z ok (.map (some b)) (enc k)) H=some (mres z ok (mfind k l),H):=by
 obtain⟨⟨es,c,h1,h2⟩,h3⟩:=h
 obtain⟨r,r1,r2,_⟩:=findNow_l E k es.toList l 0 h2
 simp only[asem,E.key,if_true,h1,r1,←r2]
 cases r with
 |none=>rfl
 |some p=>
  obtain⟨j,v⟩:=p
  have:gndB v=true:=h3 _ (mfind_mem (k:=k) (by rw[←r2];rfl))
  simp[mgetA,this,mres]
theorem a_mset(E:Enc d enc){b:Nat}{l:List (κ×Value)}(h:MP enc H b l)(k:κ){x:Value}(hx:gndB x=true):∃o,asem (.mset d (.map (some b)) (enc k) x) H=some (undef,H.set b o)∧MP enc (H.set b o) b (mput k x l):=by
 obtain⟨⟨es,c,h1,h2⟩,h3⟩:=h
 obtain⟨r,r1,r2,r3⟩:=findNow_l E k es.toList l 0 h2
 have hg:∀p∈mput k x l,gndB p.2=true:=fun p hp=>by
  rcases mem_mput hp with hp|rfl
  ·exact h3 p hp
  ·exact hx
 simp only[asem,E.key,hx,and_self,if_true,h1,r1]
 cases r with
 |none=>
  refine⟨_,rfl,⟨⟨_,_,AHeap.get_set_same h1 _,?_⟩,hg⟩⟩
  rw[mput_new (by rw[←r2];rfl)]
  simp[h2]
 |some p=>
  obtain⟨j,v⟩:=p
  refine⟨_,rfl,⟨⟨_,_,AHeap.get_set_same h1 _,?_⟩,hg⟩⟩
  obtain⟨_,q⟩:=r3 j v rfl
  have:=q x
  simpa using this
end
end Go.AM

namespace Go.AM.Fd
open Go.Proofs Go.AM.F
structure Ro where
 n:List UInt8
 g:Int
 path:List Int
 pts:List (Int×Bool)
 ov:List Int
 fl:List (Int×Bool)
structure Ly where
 s:List (List UInt8)
 p:List (List UInt8×Int)
 g:List (List UInt8×Int)
 r:List Ro
def iRow(n:Int):List Value:=[.int .i64 n]
def nRow(x:Int×Bool):List Value:=[.int .i64 x.1,.bool x.2]
def pRow(x:List UInt8×Int):List Value:=[.string ⟨x.1.toArray⟩,.int .i64 x.2]
def IL(H:AHeap)(v:Value)(l:List Int):Prop:=Sl H 1 v (l.map iRow)
def NL(H:AHeap)(v:Value)(l:List (Int×Bool)):Prop:=Sl H 2 v (l.map nRow)
def PL(H:AHeap)(v:Value)(l:List (List UInt8×Int)):Prop:=Sl H 2 v (l.map pRow)
structure RV where
 r:Ro
 vp:Value
 vq:Value
 vo:Value
 vf:Value
def RV.row(x:RV):List Value:=[.string ⟨x.r.n.toArray⟩,.int .i64 x.r.g,x.vp,x.vq,x.vo,x.vf]
structure RV.ok (H:AHeap) (x:RV):Prop where
 p:IL H x.vp x.r.path
 q:NL H x.vq x.r.pts
 o:IL H x.vo x.r.ov
 f:NL H x.vf x.r.fl
def RL(H:AHeap)(v:Value)(xs:List RV):Prop:=Sl H 6 v (xs.map RV.row)
structure V4 where
 s:Value
 p:Value
 g:Value
 r:Value
def V4.l(u:V4):List Value:=[u.s,u.p,u.g,u.r]
structure LyR (H:AHeap) (u:V4) (xs:List RV) (L:Ly):Prop where
 s:TL H u.s L.s
 p:PL H u.p L.p
 g:PL H u.g L.g
 r:RL H u.r xs
 e:xs.map (·.r)=L.r
 ok:∀x∈xs,x.ok H
section
variable {H K:AHeap} {v:Value}
theorem IL.len{l:List Int}(h:IL H v l):lenS v=l.length:=by have:=Sl.len h;simpa using this
theorem NL.len{l:List (Int×Bool)}(h:NL H v l):lenS v=l.length:=by have:=Sl.len h;simpa using this
theorem PL.len{l:List (List UInt8×Int)}(h:PL H v l):lenS v=l.length:=by have:=Sl.len h;simpa using this
theorem RL.len{l:List RV}(h:RL H v l):lenS v=l.length:=by have:=Sl.len h;simpa using this
theorem IL.keeps{l:List Int}(h:IL H v l)(k:Keeps H K):IL K v l:=Sl.keeps h k
theorem NL.keeps{l:List (Int×Bool)}(h:NL H v l)(k:Keeps H K):NL K v l:=Sl.keeps h k
theorem PL.keeps{l:List (List UInt8×Int)}(h:PL H v l)(k:Keeps H K):PL K v l:=Sl.keeps h k
theorem RL.keeps{l:List RV}(h:RL H v l)(k:Keeps H K):RL K v l:=Sl.keeps h k
theorem IL.at_{l:List Int}(h:IL H v l){i:Nat}(hi:i<l.length):nnS v=true∧rowA H 1 v i=some [.int .i64 (l.getD i 0)]:=by
 have:=Sl.at_ h (by omega) (i:=i) (by simpa using hi)
 refine⟨this.1,?_⟩
 rw[this.2];simp[List.getD,List.getElem?_eq_getElem hi,iRow]
theorem NL.at_{l:List (Int×Bool)}(h:NL H v l){i:Nat}(hi:i<l.length):nnS v=true∧rowA H 2 v i=some [.int .i64 (l.getD i (0,false)).1,.bool (l.getD i (0,false)).2]:=by
 have:=Sl.at_ h (by omega) (i:=i) (by simpa using hi)
 refine⟨this.1,?_⟩
 rw[this.2];simp[List.getD,List.getElem?_eq_getElem hi,nRow]
theorem PL.at_{l:List (List UInt8×Int)}(h:PL H v l){i:Nat}(hi:i<l.length):nnS v=true∧rowA H 2 v i=some [.string ⟨(l.getD i ([],0)).1.toArray⟩,.int .i64 (l.getD i ([],0)).2]:=by
 have:=Sl.at_ h (by omega) (i:=i) (by simpa using hi)
 refine⟨this.1,?_⟩
 rw[this.2];simp[List.getD,List.getElem?_eq_getElem hi,pRow]
def rv0:RV:=⟨⟨[],0,[],[],[],[]⟩,.slice none 0 0,.slice none 0 0,.slice none 0 0,.slice none 0 0⟩
theorem RL.at_{l:List RV}(h:RL H v l){i:Nat}(hi:i<l.length):nnS v=true∧rowA H 6 v i=some (l.getD i rv0).row:=by
 have:=Sl.at_ h (by omega) (i:=i) (by simpa using hi)
 refine⟨this.1,?_⟩
 rw[this.2];simp[List.getD,List.getElem?_eq_getElem hi]
theorem RV.ok.keeps{x:RV}(h:x.ok H)(k:Keeps H K):x.ok K:=⟨h.p.keeps k,h.q.keeps k,h.o.keeps k,h.f.keeps k⟩
theorem LyR.keeps{u:V4}{xs:List RV}{L:Ly}(h:LyR H u xs L)(k:Keeps H K):LyR K u xs L:=
 ⟨h.s.keeps k,h.p.keeps k,h.g.keeps k,h.r.keeps k,h.e,fun x hx=>(h.ok x hx).keeps k⟩
theorem LyR.rlen{u:V4}{xs:List RV}{L:Ly}(h:LyR H u xs L):xs.length=L.r.length:=by rw[←h.e];simp
theorem LyR.rat{u:V4}{xs:List RV}{L:Ly}(h:LyR H u xs L){i:Nat}(hi:i<L.r.length):(xs.getD i rv0).ok H∧(xs.getD i rv0).r=L.r.getD i rv0.r:=by
 have hi':i<xs.length:=by rw[h.rlen];exact hi
 have e:xs.getD i rv0=xs[i]:=by simp[List.getD,List.getElem?_eq_getElem hi']
 refine⟨by rw[e];exact h.ok _ (List.getElem_mem _),?_⟩
 rw[e]
 have:(xs.map (·.r))[i]'(by simpa using hi')=L.r[i]:=by
  have:=h.e
  simp only[←this]
 simp only[List.getElem_map]at this
 rw[this];simp[List.getD,List.getElem?_eq_getElem hi]
end
end Go.AM.Fd
