/- Part of the proof. -/
import Derived.Test.YtpfnjeiiajeigaaGreatGCS01
import Derived.OpenShut
import Derived.Carry
import Derived.ChangeSame
import Derived.WalkKit
import Derived.ProofKit
import Derived.Laws.Externs
set_option linter.unusedSimpArgs false
set_option linter.unusedVariables false
namespace Go.AM
section
variable {P:Program} {ng:Nat} {H:AHeap} {KF:List Value→AHeap→Prop} {fr tm:List Value} {tr:List TE} {Q:AQ}
def boolIs(v:Value)(b:Bool):Bool:=wantA (some (.c v,b)) [] []
def stR(P:Program)(ng:Nat)(op:AOp Value)(d:D)(r:List AOper)(fr tm:List Value)(H:AHeap)(KF:List Value→AHeap→Prop):Prop:=
 stepA P ng op H fun v H'=>RW P ng r (d.frame v fr) (d.temps v tm) H' KF
def goR(P:Program)(ng:Nat)(o:Option (Value×AHeap))(d:D)(r:List AOper)(fr tm:List Value)(KF:List Value→AHeap→Prop):Prop:=
 ∃v H',o=some (v,H')∧RW P ng r (d.frame v fr) (d.temps v tm) H' KF
def gdR(P:Program)(ng:Nat)(c:Bool)(op:AOp AX)(d:D)(r:List AOper)(fr tm:List Value)(H:AHeap)(KF:List Value→AHeap→Prop):Prop:=
 if c then RW P ng (⟨op,d,none⟩::r) fr tm H KF else RW P ng r (d.frame undef fr) (d.temps undef tm) H KF
abbrev callR(P:Program)(ng:Nat)(f:FuncId)(xs:List Value)(d:D)(r:List AOper)(fr tm:List Value)(H:AHeap)(KF:List Value→AHeap→Prop):Prop:=
 ∃v H',ARun P ng f xs H v H'∧RW P ng r (d.frame v fr) (d.temps v tm) H' KF
theorem r_nil:RW P ng [] fr tm H KF=KF fr H:=_root_.id rfl
theorem r_cons(op:AOp AX)(d:D)(r:List AOper):RW P ng (⟨op,d,none⟩::r) fr tm H KF=stR P ng (op.map (AX.ev fr tm)) d r fr tm H KF:=RW_cons op d r
theorem r_consg(op:AOp AX)(d:D)(x:AX)(b:Bool)(r:List AOper):RW P ng (⟨op,d,some (x,b)⟩::r) fr tm H KF=gdR P ng (wantA (some (x,b)) fr tm) op d r fr tm H KF:=by
 rw[RW_consg];unfold gdR;rw[RW_cons]
theorem gd_true(op:AOp AX)(d:D)(r:List AOper):gdR P ng true op d r fr tm H KF=stR P ng (op.map (AX.ev fr tm)) d r fr tm H KF:=by unfold gdR;rw[if_pos rfl];exact RW_cons op d r
theorem gd_false(op:AOp AX)(d:D)(r:List AOper):gdR P ng false op d r fr tm H KF=RW P ng r (d.frame undef fr) (d.temps undef tm) H KF:=by unfold gdR;rw[if_neg (by simp)]
theorem go_some(v:Value)(d:D)(r:List AOper):goR P ng (some (v,H)) d r fr tm KF=RW P ng r (d.frame v fr) (d.temps v tm) H KF:=
 propext ⟨fun⟨v,H',e,k⟩=>by cases e;exact k,fun k=>⟨_,_,rfl,k⟩⟩
theorem st_call(f:FuncId)(xs:List Value)(d:D)(r:List AOper):stR P ng (.callf f xs) d r fr tm H KF=callR P ng f xs d r fr tm H KF:=_root_.id rfl
theorem st_callv(g:FuncId)(first cap:Array Value)(xs:List Value)(d:D)(r:List AOper):stR P ng (.callv (.func (.func g) first cap) xs) d r fr tm H KF=callR P ng g (first.toList++xs++cap.toList) d r fr tm H KF:=_root_.id rfl
theorem at_n(K:List Value→AHeap→Prop):Q.andThen K .normal fr H=K fr H:=_root_.id rfl
theorem at_e(K:List Value→AHeap→Prop)(i:Nat):Q.andThen K (.exit i) fr H=Q (.exit i) fr H:=_root_.id rfl
theorem at_r(K:List Value→AHeap→Prop):Q.andThen K .ret fr H=Q .ret fr H:=_root_.id rfl
theorem ib_n(i:Nat):Q.inBlock i .normal fr H=Q .normal fr H:=_root_.id rfl
theorem ib_r(i:Nat):Q.inBlock i .ret fr H=Q .ret fr H:=_root_.id rfl
theorem ib_e(i:Nat):Q.inBlock i (.exit i) fr H=Q .normal fr H:=by simp[AQ.inBlock]
theorem ib_x{i j:Nat}(h:¬j=i):Q.inBlock i (.exit j) fr H=Q (.exit j) fr H:=by simp[AQ.inBlock,h]
theorem want_x(x:AX)(b:Bool):wantA (some (x,b)) fr tm=boolIs (x.ev fr tm) b:=by
 simp only[boolIs,wantA,AX.ev]
theorem bi_tt:boolIs (.bool true) true=true:=by simp[boolIs,wantA,AX.ev]
theorem bi_tf:boolIs (.bool true) false=false:=by simp[boolIs,wantA,AX.ev]
theorem bi_ft:boolIs (.bool false) true=false:=by simp[boolIs,wantA,AX.ev]
theorem bi_ff:boolIs (.bool false) false=true:=by simp[boolIs,wantA,AX.ev]
theorem pk_t(a b:Value):asem (.pick (.bool true) a b) H=some (a,H):=_root_.id rfl
theorem pk_f(a b:Value):asem (.pick (.bool false) a b) H=some (b,H):=_root_.id rfl
theorem walk2{f:Nat}{sl:List Nat}{af:AFunc}(hc:compF P ng sl f=some af){args:List Value}{R:Value→AHeap→Prop}(hargs:argsOK P f args.length=true)
 (h:∀Q:AQ,(∀fr H2,(∃v,resO af.res fr H2=some v∧R v H2)→Q .normal fr H2)→(∀fr H2,(∃v,resO af.res fr H2=some v∧R v H2)→Q .ret fr H2)→W P ng af.body Q (initFr af.sl args) H):∃v H',ARun P ng f args H v H'∧R v H':=
 walk hc hargs (h _ (fun _ _ h=>h) (fun _ _ h=>h))
def stD(P:Program)(ng:Nat)(op:AOp Value)(d:D)(un:List Nat)(r:List (AOper×List Nat))(fr tm:List Value)(H:AHeap)(tr:List TE)(KF:List Value→AHeap→Prop):Prop:=
 stepA P ng op H fun v H'=>oblA (clsA op) (touchA op H) H H' tr un∧RD P ng r (d.frame v fr) (d.temps v tm) H' (tr++[⟨clsA op,touchA op H,H,H'⟩]) KF
def goD(P:Program)(ng:Nat)(op:AOp Value)(o:Option (Value×AHeap))(d:D)(un:List Nat)(r:List (AOper×List Nat))(fr tm:List Value)(H:AHeap)(tr:List TE)(KF:List Value→AHeap→Prop):Prop:=
 ∃v H',o=some (v,H')∧oblA (clsA op) (touchA op H) H H' tr un∧RD P ng r (d.frame v fr) (d.temps v tm) H' (tr++[⟨clsA op,touchA op H,H,H'⟩]) KF
def gdD(P:Program)(ng:Nat)(c:Bool)(op:AOp AX)(d:D)(un:List Nat)(r:List (AOper×List Nat))(fr tm:List Value)(H:AHeap)(tr:List TE)(KF:List Value→AHeap→Prop):Prop:=
 if c then stD P ng (op.map (AX.ev fr tm)) d un r fr tm H tr KF else RD P ng r (d.frame undef fr) (d.temps undef tm) H (tr++[⟨9,[],H,H⟩]) KF
abbrev callD(P:Program)(ng:Nat)(f:FuncId)(xs:List Value)(d:D)(un:List Nat)(r:List (AOper×List Nat))(fr tm:List Value)(H:AHeap)(tr:List TE)(KF:List Value→AHeap→Prop):Prop:=
 ∃v H',ARun P ng f xs H v H'∧oblA 3 [] H H' tr un∧RD P ng r (d.frame v fr) (d.temps v tm) H' (tr++[⟨3,[],H,H'⟩]) KF
theorem d_nil:RD P ng [] fr tm H tr KF=KF fr H:=_root_.id rfl
theorem cls_ev(op:AOp AX):clsA (op.map (AX.ev fr tm))=clsA op:=cls_map _ _
theorem d_cons(op:AOp AX)(d:D)(un:List Nat)(r:List (AOper×List Nat)):RD P ng ((⟨op,d,none⟩,un)::r) fr tm H tr KF=stD P ng (op.map (AX.ev fr tm)) d un r fr tm H tr KF:=by
 rw[RD_cons];unfold stD;rw[cls_ev]
theorem d_consg(op:AOp AX)(d:D)(x:AX)(b:Bool)(un:List Nat)(r:List (AOper×List Nat)):RD P ng ((⟨op,d,some (x,b)⟩,un)::r) fr tm H tr KF=gdD P ng (wantA (some (x,b)) fr tm) op d un r fr tm H tr KF:=by
 rw[RD_consg];unfold gdD stD;rw[cls_ev]
theorem gdD_true(op:AOp AX)(d:D)(un:List Nat)(r:List (AOper×List Nat)):gdD P ng true op d un r fr tm H tr KF=stD P ng (op.map (AX.ev fr tm)) d un r fr tm H tr KF:=by unfold gdD;rw[if_pos rfl]
theorem gdD_false(op:AOp AX)(d:D)(un:List Nat)(r:List (AOper×List Nat)):gdD P ng false op d un r fr tm H tr KF=RD P ng r (d.frame undef fr) (d.temps undef tm) H (tr++[⟨9,[],H,H⟩]) KF:=by unfold gdD;rw[if_neg (by simp)]
theorem goD_some{H':AHeap}(op:AOp Value)(v:Value)(d:D)(r:List (AOper×List Nat)):goD P ng op (some (v,H')) d [] r fr tm H tr KF=RD P ng r (d.frame v fr) (d.temps v tm) H' (tr++[⟨clsA op,touchA op H,H,H'⟩]) KF:=by
 exact propext ⟨fun⟨v,H',e,_,k⟩=>by cases e;exact k,fun k=>⟨_,_,rfl,trivial,k⟩⟩
theorem goD_some'{H':AHeap}(op:AOp Value)(v:Value)(d:D)(u:Nat)(un:List Nat)(r:List (AOper×List Nat)):goD P ng op (some (v,H')) d (u::un) r fr tm H tr KF=
 (oblA (clsA op) (touchA op H) H H' tr (u::un)∧RD P ng r (d.frame v fr) (d.temps v tm) H' (tr++[⟨clsA op,touchA op H,H,H'⟩]) KF):=by
 exact propext ⟨fun⟨v,H',e,k⟩=>by cases e;exact k,fun k=>⟨_,_,rfl,k⟩⟩
theorem stD_call(f:FuncId)(xs:List Value)(d:D)(un:List Nat)(r:List (AOper×List Nat)):stD P ng (.callf f xs) d un r fr tm H tr KF=callD P ng f xs d un r fr tm H tr KF:=_root_.id rfl
def condW(P:Program)(ng:Nat)(v:Value)(t e:ACode)(Q:AQ)(fr:List Value)(H:AHeap):Prop:=match v with
 | .bool b=>if b then W P ng t Q fr H else W P ng e Q fr H
 |_=>False
theorem w_cond(c:AX)(t e:ACode):W P ng (.cond c t e) Q fr H=condW P ng (c.ev fr []) t e Q fr H:=_root_.id rfl
theorem cond_true(t e:ACode):condW P ng (.bool true) t e Q fr H=W P ng t Q fr H:=by simp[condW]
theorem cond_false(t e:ACode):condW P ng (.bool false) t e Q fr H=W P ng e Q fr H:=by simp[condW]
section
variable (d:D) (r:List AOper) (un:List Nat) (rd:List (AOper×List Nat))
theorem st_of{op:AOp Value}(h1:∀f xs,op≠.callf f xs)(h2:∀f xs,op≠.callv f xs)(h3:∀nm x xs,op≠.inv nm x xs):stR P ng op d r fr tm H KF=goR P ng (asem op H) d r fr tm KF:=by
 unfold stR goR
 cases op<;>first|rfl|exact absurd rfl (h1 _ _)|exact absurd rfl (h2 _ _)|exact absurd rfl (h3 _ _ _)
theorem stD_of{op:AOp Value}(h1:∀f xs,op≠.callf f xs)(h2:∀f xs,op≠.callv f xs)(h3:∀nm x xs,op≠.inv nm x xs):stD P ng op d un rd fr tm H tr KF=goD P ng op (asem op H) d un rd fr tm H tr KF:=by
 unfold stD goD
 cases op<;>first|rfl|exact absurd rfl (h1 _ _)|exact absurd rfl (h2 _ _)|exact absurd rfl (h3 _ _ _)
theorem st_mov(x:Value):stR P ng (.mov x) d r fr tm H KF=RW P ng r (d.frame x fr) (d.temps x tm) H KF:=by rw[st_of d r (by simp) (by simp) (by simp)];exact go_some x d r
theorem st_pick(c a b:Value):stR P ng (.pick c a b) d r fr tm H KF=goR P ng (asem (.pick c a b) H) d r fr tm KF:=st_of d r (by simp) (by simp) (by simp)
theorem sd_pick(c a b:Value):stD P ng (.pick c a b) d un rd fr tm H tr KF=goD P ng (.pick c a b) (asem (.pick c a b) H) d un rd fr tm H tr KF:=stD_of d un rd (by simp) (by simp) (by simp)
theorem st_new(e s:Nat)(z:List Value):stR P ng (.new e s z) d r fr tm H KF=goR P ng (asem (.new e s z) H) d r fr tm KF:=st_of d r (by simp) (by simp) (by simp)
theorem sd_new(e s:Nat)(z:List Value):stD P ng (.new e s z) d un rd fr tm H tr KF=goD P ng (.new e s z) (asem (.new e s z) H) d un rd fr tm H tr KF:=stD_of d un rd (by simp) (by simp) (by simp)
theorem st_box(e s:Nat)(x:Value):stR P ng (.box e s x) d r fr tm H KF=goR P ng (asem (.box e s x) H) d r fr tm KF:=st_of d r (by simp) (by simp) (by simp)
theorem sd_box(e s:Nat)(x:Value):stD P ng (.box e s x) d un rd fr tm H tr KF=goD P ng (.box e s x) (asem (.box e s x) H) d un rd fr tm H tr KF:=stD_of d un rd (by simp) (by simp) (by simp)
theorem st_build(z:List Value)(ps:List (Nat×Nat×Value)):stR P ng (.build z ps) d r fr tm H KF=goR P ng (asem (.build z ps) H) d r fr tm KF:=st_of d r (by simp) (by simp) (by simp)
theorem sd_build(z:List Value)(ps:List (Nat×Nat×Value)):stD P ng (.build z ps) d un rd fr tm H tr KF=goD P ng (.build z ps) (asem (.build z ps) H) d un rd fr tm H tr KF:=stD_of d un rd (by simp) (by simp) (by simp)
theorem st_bslice(e s n:Nat)(z:List Value)(ps:List (Nat×Nat×Value)):stR P ng (.bslice e s n z ps) d r fr tm H KF=goR P ng (asem (.bslice e s n z ps) H) d r fr tm KF:=st_of d r (by simp) (by simp) (by simp)
theorem sd_bslice(e s n:Nat)(z:List Value)(ps:List (Nat×Nat×Value)):stD P ng (.bslice e s n z ps) d un rd fr tm H tr KF=goD P ng (.bslice e s n z ps) (asem (.bslice e s n z ps) H) d un rd fr tm H tr KF:=stD_of d un rd (by simp) (by simp) (by simp)
theorem st_load1(x:Value):stR P ng (.load1 x) d r fr tm H KF=goR P ng (asem (.load1 x) H) d r fr tm KF:=st_of d r (by simp) (by simp) (by simp)
theorem sd_load1(x:Value):stD P ng (.load1 x) d un rd fr tm H tr KF=goD P ng (.load1 x) (asem (.load1 x) H) d un rd fr tm H tr KF:=stD_of d un rd (by simp) (by simp) (by simp)
theorem st_loadn(n:Nat)(x:Value):stR P ng (.loadn n x) d r fr tm H KF=goR P ng (asem (.loadn n x) H) d r fr tm KF:=st_of d r (by simp) (by simp) (by simp)
theorem sd_loadn(n:Nat)(x:Value):stD P ng (.loadn n x) d un rd fr tm H tr KF=goD P ng (.loadn n x) (asem (.loadn n x) H) d un rd fr tm H tr KF:=stD_of d un rd (by simp) (by simp) (by simp)
theorem st_store1(a x:Value):stR P ng (.store1 a x) d r fr tm H KF=goR P ng (asem (.store1 a x) H) d r fr tm KF:=st_of d r (by simp) (by simp) (by simp)
theorem sd_store1(a x:Value):stD P ng (.store1 a x) d un rd fr tm H tr KF=goD P ng (.store1 a x) (asem (.store1 a x) H) d un rd fr tm H tr KF:=stD_of d un rd (by simp) (by simp) (by simp)
theorem st_storen(n:Nat)(a x:Value):stR P ng (.storen n a x) d r fr tm H KF=goR P ng (asem (.storen n a x) H) d r fr tm KF:=st_of d r (by simp) (by simp) (by simp)
theorem sd_storen(n:Nat)(a x:Value):stD P ng (.storen n a x) d un rd fr tm H tr KF=goD P ng (.storen n a x) (asem (.storen n a x) H) d un rd fr tm H tr KF:=stD_of d un rd (by simp) (by simp) (by simp)
theorem st_nilck(x:Value):stR P ng (.nilck x) d r fr tm H KF=goR P ng (asem (.nilck x) H) d r fr tm KF:=st_of d r (by simp) (by simp) (by simp)
theorem sd_nilck(x:Value):stD P ng (.nilck x) d un rd fr tm H tr KF=goD P ng (.nilck x) (asem (.nilck x) H) d un rd fr tm H tr KF:=stD_of d un rd (by simp) (by simp) (by simp)
theorem st_bin(o:BinOp)(x y:Value):stR P ng (.bin o x y) d r fr tm H KF=goR P ng (asem (.bin o x y) H) d r fr tm KF:=st_of d r (by simp) (by simp) (by simp)
theorem sd_bin(o:BinOp)(x y:Value):stD P ng (.bin o x y) d un rd fr tm H tr KF=goD P ng (.bin o x y) (asem (.bin o x y) H) d un rd fr tm H tr KF:=stD_of d un rd (by simp) (by simp) (by simp)
theorem st_eqv(k:Nat)(n:Bool)(x y:Value):stR P ng (.eqv k n x y) d r fr tm H KF=goR P ng (asem (.eqv k n x y) H) d r fr tm KF:=st_of d r (by simp) (by simp) (by simp)
theorem sd_eqv(k:Nat)(n:Bool)(x y:Value):stD P ng (.eqv k n x y) d un rd fr tm H tr KF=goD P ng (.eqv k n x y) (asem (.eqv k n x y) H) d un rd fr tm H tr KF:=stD_of d un rd (by simp) (by simp) (by simp)
theorem st_un(o:UnOp)(x:Value):stR P ng (.un o x) d r fr tm H KF=goR P ng (asem (.un o x) H) d r fr tm KF:=st_of d r (by simp) (by simp) (by simp)
theorem sd_un(o:UnOp)(x:Value):stD P ng (.un o x) d un rd fr tm H tr KF=goD P ng (.un o x) (asem (.un o x) H) d un rd fr tm H tr KF:=stD_of d un rd (by simp) (by simp) (by simp)
theorem st_i2i(k:IntKind)(x:Value):stR P ng (.i2i k x) d r fr tm H KF=goR P ng (asem (.i2i k x) H) d r fr tm KF:=st_of d r (by simp) (by simp) (by simp)
theorem sd_i2i(k:IntKind)(x:Value):stD P ng (.i2i k x) d un rd fr tm H tr KF=goD P ng (.i2i k x) (asem (.i2i k x) H) d un rd fr tm H tr KF:=stD_of d un rd (by simp) (by simp) (by simp)
theorem st_s2s(x:Value):stR P ng (.s2s x) d r fr tm H KF=goR P ng (asem (.s2s x) H) d r fr tm KF:=st_of d r (by simp) (by simp) (by simp)
theorem sd_s2s(x:Value):stD P ng (.s2s x) d un rd fr tm H tr KF=goD P ng (.s2s x) (asem (.s2s x) H) d un rd fr tm H tr KF:=stD_of d un rd (by simp) (by simp) (by simp)
theorem st_s2b(e:Nat)(x:Value):stR P ng (.s2b e x) d r fr tm H KF=goR P ng (asem (.s2b e x) H) d r fr tm KF:=st_of d r (by simp) (by simp) (by simp)
theorem sd_s2b(e:Nat)(x:Value):stD P ng (.s2b e x) d un rd fr tm H tr KF=goD P ng (.s2b e x) (asem (.s2b e x) H) d un rd fr tm H tr KF:=stD_of d un rd (by simp) (by simp) (by simp)
theorem st_b2s(x:Value):stR P ng (.b2s x) d r fr tm H KF=goR P ng (asem (.b2s x) H) d r fr tm KF:=st_of d r (by simp) (by simp) (by simp)
theorem sd_b2s(x:Value):stD P ng (.b2s x) d un rd fr tm H tr KF=goD P ng (.b2s x) (asem (.b2s x) H) d un rd fr tm H tr KF:=stD_of d un rd (by simp) (by simp) (by simp)
theorem st_iface(t:TypeId)(x:Value):stR P ng (.iface t x) d r fr tm H KF=goR P ng (asem (.iface t x) H) d r fr tm KF:=st_of d r (by simp) (by simp) (by simp)
theorem sd_iface(t:TypeId)(x:Value):stD P ng (.iface t x) d un rd fr tm H tr KF=goD P ng (.iface t x) (asem (.iface t x) H) d un rd fr tm H tr KF:=stD_of d un rd (by simp) (by simp) (by simp)
theorem st_mkfn(f:Fn)(xs ys:List Value):stR P ng (.mkfn f xs ys) d r fr tm H KF=goR P ng (asem (.mkfn f xs ys) H) d r fr tm KF:=st_of d r (by simp) (by simp) (by simp)
theorem sd_mkfn(f:Fn)(xs ys:List Value):stD P ng (.mkfn f xs ys) d un rd fr tm H tr KF=goD P ng (.mkfn f xs ys) (asem (.mkfn f xs ys) H) d un rd fr tm H tr KF:=stD_of d un rd (by simp) (by simp) (by simp)
theorem st_mksl(e s b:Nat)(z:List Value)(l c:Value):stR P ng (.mksl e s b z l c) d r fr tm H KF=goR P ng (asem (.mksl e s b z l c) H) d r fr tm KF:=st_of d r (by simp) (by simp) (by simp)
theorem sd_mksl(e s b:Nat)(z:List Value)(l c:Value):stD P ng (.mksl e s b z l c) d un rd fr tm H tr KF=goD P ng (.mksl e s b z l c) (asem (.mksl e s b z l c) H) d un rd fr tm H tr KF:=stD_of d un rd (by simp) (by simp) (by simp)
theorem st_slstr(x:Value)(lo hi:Option Value):stR P ng (.slstr x lo hi) d r fr tm H KF=goR P ng (asem (.slstr x lo hi) H) d r fr tm KF:=st_of d r (by simp) (by simp) (by simp)
theorem sd_slstr(x:Value)(lo hi:Option Value):stD P ng (.slstr x lo hi) d un rd fr tm H tr KF=goD P ng (.slstr x lo hi) (asem (.slstr x lo hi) H) d un rd fr tm H tr KF:=stD_of d un rd (by simp) (by simp) (by simp)
theorem st_slsl(s:Nat)(x:Value)(lo hi mx:Option Value):stR P ng (.slsl s x lo hi mx) d r fr tm H KF=goR P ng (asem (.slsl s x lo hi mx) H) d r fr tm KF:=st_of d r (by simp) (by simp) (by simp)
theorem sd_slsl(s:Nat)(x:Value)(lo hi mx:Option Value):stD P ng (.slsl s x lo hi mx) d un rd fr tm H tr KF=goD P ng (.slsl s x lo hi mx) (asem (.slsl s x lo hi mx) H) d un rd fr tm H tr KF:=stD_of d un rd (by simp) (by simp) (by simp)
theorem st_faddr(o:Nat)(x:Value):stR P ng (.faddr o x) d r fr tm H KF=goR P ng (asem (.faddr o x) H) d r fr tm KF:=st_of d r (by simp) (by simp) (by simp)
theorem sd_faddr(o:Nat)(x:Value):stD P ng (.faddr o x) d un rd fr tm H tr KF=goD P ng (.faddr o x) (asem (.faddr o x) H) d un rd fr tm H tr KF:=stD_of d un rd (by simp) (by simp) (by simp)
theorem st_fld1(o:Nat)(x:Value):stR P ng (.fld1 o x) d r fr tm H KF=goR P ng (asem (.fld1 o x) H) d r fr tm KF:=st_of d r (by simp) (by simp) (by simp)
theorem sd_fld1(o:Nat)(x:Value):stD P ng (.fld1 o x) d un rd fr tm H tr KF=goD P ng (.fld1 o x) (asem (.fld1 o x) H) d un rd fr tm H tr KF:=stD_of d un rd (by simp) (by simp) (by simp)
theorem st_fldn(o n:Nat)(x:Value):stR P ng (.fldn o n x) d r fr tm H KF=goR P ng (asem (.fldn o n x) H) d r fr tm KF:=st_of d r (by simp) (by simp) (by simp)
theorem sd_fldn(o n:Nat)(x:Value):stD P ng (.fldn o n x) d un rd fr tm H tr KF=goD P ng (.fldn o n x) (asem (.fldn o n x) H) d un rd fr tm H tr KF:=stD_of d un rd (by simp) (by simp) (by simp)
theorem st_iaddr(s:Nat)(x i:Value):stR P ng (.iaddr s x i) d r fr tm H KF=goR P ng (asem (.iaddr s x i) H) d r fr tm KF:=st_of d r (by simp) (by simp) (by simp)
theorem sd_iaddr(s:Nat)(x i:Value):stD P ng (.iaddr s x i) d un rd fr tm H tr KF=goD P ng (.iaddr s x i) (asem (.iaddr s x i) H) d un rd fr tm H tr KF:=stD_of d un rd (by simp) (by simp) (by simp)
theorem st_idxs(x i:Value):stR P ng (.idxs x i) d r fr tm H KF=goR P ng (asem (.idxs x i) H) d r fr tm KF:=st_of d r (by simp) (by simp) (by simp)
theorem sd_idxs(x i:Value):stD P ng (.idxs x i) d un rd fr tm H tr KF=goD P ng (.idxs x i) (asem (.idxs x i) H) d un rd fr tm H tr KF:=stD_of d un rd (by simp) (by simp) (by simp)
theorem st_assert(t:TypeId)(z:Value)(ok:Bool)(x:Value):stR P ng (.assert t z ok x) d r fr tm H KF=goR P ng (asem (.assert t z ok x) H) d r fr tm KF:=st_of d r (by simp) (by simp) (by simp)
theorem sd_assert(t:TypeId)(z:Value)(ok:Bool)(x:Value):stD P ng (.assert t z ok x) d un rd fr tm H tr KF=goD P ng (.assert t z ok x) (asem (.assert t z ok x) H) d un rd fr tm H tr KF:=stD_of d un rd (by simp) (by simp) (by simp)
theorem st_extract(x:Value)(i:Nat):stR P ng (.extract x i) d r fr tm H KF=goR P ng (asem (.extract x i) H) d r fr tm KF:=st_of d r (by simp) (by simp) (by simp)
theorem sd_extract(x:Value)(i:Nat):stD P ng (.extract x i) d un rd fr tm H tr KF=goD P ng (.extract x i) (asem (.extract x i) H) d un rd fr tm H tr KF:=stD_of d un rd (by simp) (by simp) (by simp)
theorem st_len(s:Bool)(x:Value):stR P ng (.len s x) d r fr tm H KF=goR P ng (asem (.len s x) H) d r fr tm KF:=st_of d r (by simp) (by simp) (by simp)
theorem sd_len(s:Bool)(x:Value):stD P ng (.len s x) d un rd fr tm H tr KF=goD P ng (.len s x) (asem (.len s x) H) d un rd fr tm H tr KF:=stD_of d un rd (by simp) (by simp) (by simp)
theorem st_mark(x:Value):stR P ng (.mark x) d r fr tm H KF=goR P ng (asem (.mark x) H) d r fr tm KF:=st_of d r (by simp) (by simp) (by simp)
theorem sd_mark(x:Value):stD P ng (.mark x) d un rd fr tm H tr KF=goD P ng (.mark x) (asem (.mark x) H) d un rd fr tm H tr KF:=stD_of d un rd (by simp) (by simp) (by simp)
theorem sd_mov(x:Value):stD P ng (.mov x) d un rd fr tm H tr KF=goD P ng (.mov x) (asem (.mov x) H) d un rd fr tm H tr KF:=stD_of d un rd (by simp) (by simp) (by simp)
theorem sd_app(e s b:Nat)(x y:Value):stD P ng (.app e s b x y) d un rd fr tm H tr KF=goD P ng (.app e s b x y) (asem (.app e s b x y) H) d un rd fr tm H tr KF:=stD_of d un rd (by simp) (by simp) (by simp)
end
theorem a_mov(x:Value):asem (.mov x) H=some (x,H):=_root_.id rfl
theorem a_pick(t:Bool)(a b:Value):asem (.pick (.bool t) a b) H=some (if t then a else b,H):=_root_.id rfl
theorem a_new(e esz:Nat)(z:List Value):asem (.new e esz z) H=if z.all Value.oneCell' then some (ptr H.n 0,H.alloc (.cells true false esz z e))else none:=_root_.id rfl
theorem a_box(e esz:Nat)(x:Value):asem (.box e esz x) H=if x.cells.toList.all Value.oneCell' then some (ptr H.n 0,H.alloc (.cells true false esz x.cells.toList e))else none:=_root_.id rfl
theorem a_build(z:List Value)(ps:List (Nat×Nat×Value)):asem (.build z ps) H=(fillA z ps).map fun c=>(.agg c.toArray,H):=_root_.id rfl
theorem a_load1(b o:Nat):asem (.load1 (ptr b o)) H=(cellA H b o).map fun v=>(v,H):=_root_.id rfl
theorem a_loadn(n b o:Nat):asem (.loadn n (ptr b o)) H=(rangeA H b o n).map fun c=>(.agg c.toArray,H):=_root_.id rfl
theorem a_nilck(b o:Nat):asem (.nilck (ptr b o)) H=some (ptr b o,H):=_root_.id rfl
theorem a_bin(op:BinOp)(x y:Value):asem (.bin op x y) H=(binA op x y).map fun v=>(v,H):=_root_.id rfl
theorem a_eqv(k:Nat)(neg:Bool)(x y:Value):asem (.eqv k neg x y) H=(eqA k x y).map fun b=>(.bool (if neg then !b else b),H):=_root_.id rfl
theorem a_not(b:Bool):asem (.un .not (.bool b)) H=some (.bool (!b),H):=_root_.id rfl
theorem a_neg(k:IntKind)(n:Int):asem (.un .neg (.int k n)) H=some (.int k (k.wrap (0-n)),H):=_root_.id rfl
theorem a_i2i(k k':IntKind)(n:Int):asem (.i2i k (.int k' n)) H=some (.int k (k.wrap n),H):=_root_.id rfl
theorem a_s2s(s:ByteArray):asem (.s2s (.string s)) H=some (.string s,H):=_root_.id rfl
theorem a_s2b(e:Nat)(l:List UInt8):asem (.s2b e (.string ⟨l.toArray⟩)) H=some (slc H.n 0 l.length l.length,H.alloc (.cells true true 1 (cellsOf l) e)):=by
 simp only[asem,cellsOf]
 simp[ByteArray.size]
theorem a_iface(t:TypeId)(x:Value):asem (.iface t x) H=some (.iface t x,H):=_root_.id rfl
theorem a_mkfn(fn:Fn)(xs ys:List Value):asem (.mkfn fn xs ys) H=some (.func fn xs.toArray ys.toArray,H):=_root_.id rfl
theorem a_faddr(off b o:Nat):asem (.faddr off (ptr b o)) H=some (ptr b (o+off),H):=_root_.id rfl
theorem a_fld1(off:Nat)(cs:Array Value):asem (.fld1 off (.agg cs)) H=cs.toList[off]?.map fun v=>(v,H):=_root_.id rfl
theorem a_iaddr(esz b o n k:Nat)(kd:IntKind)(i:Int):asem (.iaddr esz (slc b o n k) (.int kd i)) H=if 0≤i∧i<(n:Int)then some (ptr b (o+i.toNat*esz),H)else none:=_root_.id rfl
theorem a_assert(t u:TypeId)(z v:Value)(ok:Bool):asem (.assert t z ok (.iface u v)) H=if u=t then some (if ok then .tuple #[v,.bool true]else v,H)else if ok then some (.tuple #[z,.bool false],H)else none:=_root_.id rfl
theorem a_extract(vs:Array Value)(i:Nat):asem (.extract (.tuple vs) i) H=vs.toList[i]?.map fun v=>(v,H):=_root_.id rfl
theorem a_len(a:Option Addr)(n k:Nat):asem (.len false (.slice a n k)) H=some (.int .i64 n,H):=_root_.id rfl
theorem a_lenc(b o n k:Nat):asem (.len false (slc b o n k)) H=some (.int .i64 n,H):=_root_.id rfl
theorem a_lens(l:List UInt8):asem (.len true (.string ⟨l.toArray⟩)) H=some (.int .i64 l.length,H):=by
 simp[asem,lenA,ByteArray.size]
theorem a_slsl_nil{esz:Nat}{lo hi mx:Option Value}(h:∃m hh l,bndA mx 0 0=some m∧bndA hi 0 m=some hh∧bndA lo 0 hh=some l):asem (.slsl esz (.slice none 0 0) lo hi mx) H=some (.slice none 0 0,H):=by
 obtain⟨m,hh,l,h1,h2,h3⟩:=h
 simp only[asem,h1,h2,h3]
theorem a_slsl{esz b o n k m hh l e:Nat}{own room:Bool}{c:List Value}{lo hi mx:Option Value}(hb:H.get b=some (.cells own room esz c e))(h1:bndA mx k k=some m)(h2:bndA hi n m=some hh)(h3:bndA lo 0 hh=some l):
 asem (.slsl esz (slc b o n k) lo hi mx) H=some (slc b (o+l*esz) (hh-l) (m-l),H):=by
 simp only[asem,slc,h1,h2,h3,hb,true_or,if_true]
theorem one_int(k:IntKind)(n:Int):(Value.int k n).oneCell'=true:=_root_.id rfl
theorem one_bool(b:Bool):(Value.bool b).oneCell'=true:=_root_.id rfl
theorem one_str(b:ByteArray):(Value.string b).oneCell'=true:=_root_.id rfl
theorem one_sl(a:Option Addr)(n k:Nat):(Value.slice a n k).oneCell'=true:=_root_.id rfl
theorem one_slc(b o n k:Nat):(slc b o n k).oneCell'=true:=_root_.id rfl
theorem one_ptr(b o:Nat):(ptr b o).oneCell'=true:=_root_.id rfl
theorem one_pn(a:Option Addr):(Value.pointer a).oneCell'=true:=_root_.id rfl
theorem one_if(t:TypeId)(v:Value):(Value.iface t v).oneCell'=true:=_root_.id rfl
theorem one_map(t:Option Nat):(Value.map t).oneCell'=true:=_root_.id rfl
def one1(x:Value):Prop:=x.oneCell'=true
theorem o_int(k:IntKind)(n:Int):one1 (Value.int k n)=True:=by simp[one1,one_int]
theorem o_bool(b:Bool):one1 (Value.bool b)=True:=by simp[one1,one_bool]
theorem o_str(b:ByteArray):one1 (Value.string b)=True:=by simp[one1,one_str]
theorem o_sl(a:Option Addr)(n k:Nat):one1 (Value.slice a n k)=True:=by simp[one1,one_sl]
theorem o_slc(b o n k:Nat):one1 (slc b o n k)=True:=by simp[one1,one_slc]
theorem o_ptr(b o:Nat):one1 (ptr b o)=True:=by simp[one1,one_ptr]
theorem o_pn(a:Option Addr):one1 (Value.pointer a)=True:=by simp[one1,one_pn]
theorem o_if(t:TypeId)(v:Value):one1 (Value.iface t v)=True:=by simp[one1,one_if]
theorem o_map(t:Option Nat):one1 (Value.map t)=True:=by simp[one1,one_map]
theorem appR{d:D}{r:List AOper}{e esz bytes:Nat}{s x:Value}{n m:Nat}{c news:List Value}(h:AP H e esz s n c)(hx:∃a k,x=.slice a m k)(h1:elemsA H esz x=some news)(hm:news.length=m*esz)
 (hs:(n+m)*bytes≤140737488355328∧n+m≤140737488355328)
 (hk:∀v' H',AP H' e esz v' (n+m) (c++news)→Chg (blkL s) H H'→(blk v'=blk s∨blk v'=some H.n)→RW P ng r (d.frame v' fr) (d.temps v' tm) H' KF):stR P ng (.app e esz bytes s x) d r fr tm H KF:=
 s_appAP h hx h1 hm hs hk
end
end Go.AM

namespace Go.AM
def okFs(P:Program)(f:TypeId→Bool):List Field→Nat→Nat→Bool
 |[],off,tot=>off==tot
 |fd::r,off,tot=>fd.offset==off&&f fd.type&&okFs P f r (off+P.cellsOf fd.type) tot
def okT(P:Program):Nat→TypeId→Bool
 |0,_=>false
 |d+1,t=>match P.underlying t with
  |some .bool=>P.cellsOf t==1
  |some (.int _)=>P.cellsOf t==1
  |some .string=>P.cellsOf t==1
  |some (.slice e)=>P.cellsOf t==1&&decide (0<P.cellsOf e)&&okT P d e
  |some (.struct fs)=>okFs P (okT P d) fs.toList 0 (P.cellsOf t)
  |some (.array n e)=>n*P.cellsOf e==P.cellsOf t&&okT P d e
  |_=>false
inductive AR (P:Program) (G:Gf):TypeId→List Value→Prop
 |bool {t:TypeId} {b:Bool} (h:P.underlying t=some .bool):AR P G t [.bool b]
 |int {t:TypeId} {k:IntKind} {n:Int} (h:P.underlying t=some (.int k)) (hw:(Lit.int k n).wf=true):AR P G t [.int k n]
 |str {t:TypeId} {s:ByteArray} (h:P.underlying t=some .string) (hs:s.size≤maxLen∧s.size≤reachBytes):AR P G t [.string s]
 |nil {t e:TypeId} (h:P.underlying t=some (.slice e)):AR P G t [.slice none 0 0]
 |zero {t e:TypeId} {x:Addr} (h:P.underlying t=some (.slice e)) (hx:x.spot.isSome=true):AR P G t [.slice (some x) 0 0]
 |sl {t e:TypeId} {b n k:Nat} {c:List Value} {u:TypeId} (h:P.underlying t=some (.slice e)) (hk:0<k) (hn:n≤k) (hm:k≤maxLen∧k*P.bytesOf e≤reachBytes) (hb:G b=some (.cells false false (P.cellsOf e) c u)) (hc:c.length=k*P.cellsOf e)
  (hi:∀i,i<k→AR P G e ((c.drop (i*P.cellsOf e)).take (P.cellsOf e))):AR P G t [slc b 0 n k]
 |struct {t:TypeId} {fs:Array Field} {cs:List Value} (h:P.underlying t=some (.struct fs)) (hl:cs.length=P.cellsOf t)
  (hf:∀(i:Nat) (f:Field),fs[i]? =some f→AR P G f.type ((cs.drop f.offset).take (P.cellsOf f.type))):AR P G t cs
 |array {t e:TypeId} {n:Nat} {cs:List Value} (h:P.underlying t=some (.array n e)) (hl:cs.length=P.cellsOf t)
  (hi:∀i,i<n→AR P G e ((cs.drop (i*P.cellsOf e)).take (P.cellsOf e))):AR P G t cs
theorem AR.mono{P:Program}{G G':Gf}(hg:∀b o,G b=some o→G' b=some o){t:TypeId}{cs:List Value}(h:AR P G t cs):AR P G' t cs:=by
 induction h with
 |bool h=>exact .bool h
 |int h hw=>exact .int h hw
 |str h hs=>exact .str h hs
 |nil h=>exact .nil h
 |zero h hx=>exact .zero h hx
 |sl h hk hn hm hb hc _ ih=>exact .sl h hk hn hm (hg _ _ hb) hc ih
 |struct h hl _ ih=>exact .struct h hl ih
 |array h hl _ ih=>exact .array h hl ih
def NoOwn(H:AHeap):Prop:=∀b o,H.get b=some o→o.own=false
section
variable {H0:Type} {enc:TypeId×Value→H0} {P:Program} {w:World} {ng:Nat}
structure Opened (P:Program) (ng:Nat) (w:World) (σ:Sg) (H:AHeap) (σ':Sg) (H':AHeap):Prop where
 le:σ.le σ'
 keep:Keeps H H'
 hr:HR ng σ' H'.get w
 no:NoOwn H'
theorem Opened.refl{σ:Sg}{H:AHeap}(hr:HR ng σ H.get w)(no:NoOwn H):Opened P ng w σ H σ H:=⟨Sg.le.refl σ,Keeps.refl H,hr,no⟩
theorem Opened.trans{σ σ1 σ2:Sg}{H H1 H2:AHeap}(h:Opened P ng w σ H σ1 H1)(k:Opened P ng w σ1 H1 σ2 H2):Opened P ng w σ H σ2 H2:=⟨h.le.trans k.le,h.keep.trans k.keep,k.hr,k.no⟩
theorem Keeps.ar{H H':AHeap}(k:Keeps H H'){t:TypeId}{cs:List Value}(h:AR P H.get t cs):AR P H'.get t cs:=h.mono (fun b o hb=>k.at_ hb)
def OpenP(P:Program)(ng:Nat)(w:World)(t:TypeId)(cs:List Value):Prop:=∀σ H,HR ng σ H.get w→NoOwn H→∃σ' H' cs',Opened P ng w σ H σ' H'∧VL σ' cs' cs∧AR P H'.get t cs'∧∀v∈cs',v.oneCell'=true
theorem open_row{e:TypeId}{z:Nat}:∀(k:Nat) (css:Nat→List Value),(∀i,i<k→(css i).length=z∧OpenP P ng w e (css i))→∀σ H,HR ng σ H.get w→NoOwn H→
 ∃σ' H' c,Opened P ng w σ H σ' H'∧VL σ' c ((List.range k).flatMap css)∧c.length=k*z∧(∀v∈c,v.oneCell'=true)∧∀i,i<k→AR P H'.get e ((c.drop (i*z)).take z)
 |0,css,_,σ,H,hr,no=>⟨σ,H,[],Opened.refl hr no,.nil,by simp,by simp,fun i hi=>by omega⟩
 |k+1,css,h,σ,H,hr,no=>by
  obtain⟨σ1,H1,c,h1,h2,h3,h4,h5⟩:=open_row k css (fun i hi=>h i (by omega)) σ H hr no
  obtain⟨hz,hop⟩:=h k (by omega)
  obtain⟨σ2,H2,cs',g1,g2,g3,g4⟩:=hop σ1 H1 h1.hr h1.no
  have hl:cs'.length=z:=by rw[g2.length,hz]
  refine⟨σ2,H2,c++cs',h1.trans g1,?_,by rw[List.length_append,h3,hl,Nat.add_mul];omega,?_,?_⟩
  ·rw[List.range_succ,List.flatMap_append]
   simpa using(h2.mono g1.le).append g2
  ·intro v hv
   rcases List.mem_append.1 hv with hv|hv
   ·exact h4 v hv
   ·exact g4 v hv
  ·intro i hi
   by_cases hik:i<k
   ·have hle:i*z+z≤c.length:=by
     rw[h3]
     have:(i+1)*z≤k*z:=Nat.mul_le_mul_right _ hik
     rw[Nat.add_mul]at this
     omega
    rw[List.drop_append_of_le_length (by omega),List.take_append_of_le_length (by rw[List.length_drop];omega)]
    exact g1.keep.ar (h5 i hik)
   ·have:i=k:=by omega
    subst this
    rw[←h3,List.drop_left,←hl,List.take_length]
    exact g3
theorem open_fields{cs:List Value}{tot:Nat}{f:TypeId→Bool}:∀(fs:List Field) (off:Nat),okFs P f fs off tot=true→off≤cs.length→cs.length=tot→
 (∀fd∈fs,f fd.type=true→OpenP P ng w fd.type ((cs.drop fd.offset).take (P.cellsOf fd.type)))→(∀fd∈fs,f fd.type=true→((cs.drop fd.offset).take (P.cellsOf fd.type)).length=P.cellsOf fd.type)→∀σ H,HR ng σ H.get w→NoOwn H→
 ∃σ' H' c,Opened P ng w σ H σ' H'∧VL σ' c (cs.drop off)∧(∀v∈c,v.oneCell'=true)∧∀fd∈fs,off≤fd.offset∧AR P H'.get fd.type ((c.drop (fd.offset-off)).take (P.cellsOf fd.type))
 |[],off,hk,hle,ht,_,_,σ,H,hr,no=>by
  simp only[okFs,beq_iff_eq]at hk
  refine⟨σ,H,[],Opened.refl hr no,?_,by simp,by simp⟩
  rw[List.drop_eq_nil_of_le (by omega)];exact .nil
 |fd::fs,off,hk,hle,ht,hop,hfit,σ,H,hr,no=>by
  simp only[okFs,Bool.and_eq_true,beq_iff_eq]at hk
  obtain⟨⟨h1,h2⟩,h3⟩:=hk
  have hft0:=hfit fd (by simp) h2
  have hft:fd.offset+P.cellsOf fd.type≤cs.length:=by rw[List.length_take,List.length_drop]at hft0;omega
  obtain⟨σ1,H1,c1,g1,g2,g3,g4⟩:=hop fd (by simp) h2 σ H hr no
  obtain⟨σ2,H2,c2,k1,k2,k3,k4⟩:=open_fields fs (off+P.cellsOf fd.type) h3 (by omega) ht (fun x hx=>hop x (by simp[hx])) (fun x hx=>hfit x (by simp[hx])) σ1 H1 g1.hr g1.no
  have hl:c1.length=P.cellsOf fd.type:=by rw[g2.length,List.length_take,List.length_drop];omega
  refine⟨σ2,H2,c1++c2,g1.trans k1,?_,?_,?_⟩
  ·have e:cs.drop off=(cs.drop fd.offset).take (P.cellsOf fd.type)++cs.drop (off+P.cellsOf fd.type):=by
    rw[h1,←List.drop_drop,List.take_append_drop]
   rw[e]
   exact(g2.mono k1.le).append k2
  ·intro v hv
   rcases List.mem_append.1 hv with hv|hv
   ·exact g4 v hv
   ·exact k3 v hv
  ·intro x hx
   rcases List.mem_cons.1 hx with rfl|hx
   ·refine⟨by omega,?_⟩
    rw[h1,Nat.sub_self,List.drop_zero,←hl,List.take_left]
    exact k1.keep.ar g3
   ·obtain⟨a1,a2⟩:=k4 x hx
    refine⟨by omega,?_⟩
    rw[show x.offset-off=c1.length+(x.offset-(off+P.cellsOf fd.type)) by omega,List.drop_length_add_append]
    exact a2
theorem row_flat(l:List Value)(o z:Nat):∀k,(List.range k).flatMap (fun i=>(l.drop (o+i*z)).take z)=(l.drop o).take (k*z)
 |0=>by simp
 |k+1=>by
  rw[List.range_succ,List.flatMap_append,row_flat l o z k,Nat.add_mul,Nat.one_mul,List.take_add,List.drop_drop]
  simp
theorem cells_of{b:Nat}{a:Addr}{n:Nat}{l:List Value}(h:w.cells? b a n=some l):l.length=n∧∀i,i<n→w.cell? (a.add i)=l[i]? :=by
 unfold World.cells? at h
 split at h
 ·exact⟨by simpa using mapM_some_length h,fun i hi=>mapM_some_get h i i (by simp[hi])⟩
 ·cases h
def Rch(P:Program)(t:TypeId)(d:DataW H0):Prop:=∀m∈d.weights P t,m≤reachBytes
theorem rch_all{e:TypeId}:∀{l:List (DataW H0)},(∀m∈DataW.weightsAll P e l,m≤reachBytes)→∀d∈l,Rch P e d
 |[],_,d,hd=>by simp at hd
 |y::l,h,d,hd=>by
  simp only[DataW.weightsAll,List.mem_append]at h
  rcases List.mem_cons.1 hd with rfl|hd
  ·exact fun m hm=>h m (.inl hm)
  ·exact rch_all (fun m hm=>h m (.inr hm)) d hd
theorem mem_weightsAll{e:TypeId}{m:Nat}:∀{l:List (DataW H0×List MemPlace)} {y:DataW H0×List MemPlace},y∈l→m∈y.1.weights P e→m∈DataW.weightsAll P e (l.map (·.1))
 |[],_,hy,_=>by simp at hy
 |z::zs,y,hy,hm=>by
  simp only[List.map_cons,DataW.weightsAll,List.mem_append]
  rcases List.mem_cons.1 hy with rfl|hy
  ·exact .inl hm
  ·exact .inr (mem_weightsAll hy hm)
theorem rch_each:∀{ts:List TypeId} {l:List (DataW H0)},(∀m∈DataW.weightsEach P ts l,m≤reachBytes)→∀(i:Nat) t d,ts[i]? =some t→l[i]? =some d→Rch P t d
 |[],_,_,i,t,d,h1,_=>by simp at h1
 |_::_,[],_,i,t,d,_,h2=>by simp at h2
 |t0::ts,y::l,h,i,t,d,h1,h2=>by
  simp only[DataW.weightsEach,List.mem_append]at h
  cases i with
  |zero=>simp only[List.getElem?_cons_zero,Option.some.injEq]at h1 h2;subst h1 h2;exact fun m hm=>h m (.inl hm)
  |succ i=>exact rch_each (fun m hm=>h m (.inr hm)) i t d (by simpa using h1) (by simpa using h2)
theorem open_cells:∀(fuel:Nat) (d:Nat) (t:TypeId) (cs:List Value) (x:DataW H0×List MemPlace),okT P d t=true→Rch P t x.1→DataW.trod enc P w 0 (fun _=>true) true fuel t cs=some x→cs.length=P.cellsOf t∧OpenP P ng w t cs:=by
 intro fuel
 induction fuel with
 |zero=>intro d t cs x _ _ h;simp[DataW.trod]at h
 |succ fuel ih=>
  intro d t cs x hok hx h
  cases d with
  |zero=>simp[okT]at hok
  |succ d=>
   simp only[okT]at hok
   split at hok
   ·rename_i hu
    obtain⟨b,rfl,_⟩:=DataW.trod_bool hu h
    exact⟨by simpa using(beq_iff_eq.1 hok).symm,fun σ H hr no=>⟨σ,H,[.bool b],Opened.refl hr no,.cons (.bool b) .nil,.bool hu,by simp[Value.oneCell']⟩⟩
   ·rename_i k hu
    obtain⟨n,rfl,_,hw⟩:=DataW.trod_int hu h
    exact⟨by simpa using(beq_iff_eq.1 hok).symm,fun σ H hr no=>⟨σ,H,[.int k n],Opened.refl hr no,.cons (.int k n) .nil,.int hu hw,by simp[Value.oneCell']⟩⟩
   ·rename_i hu
    obtain⟨s,rfl,rfl,hs⟩:=DataW.trod_string hu h
    have hs2:s.size≤reachBytes:=hx _ (by simp only[DataW.weights,List.mem_singleton,Array.length_toList];rfl)
    exact⟨by simpa using(beq_iff_eq.1 hok).symm,fun σ H hr no=>⟨σ,H,[.string s],Opened.refl hr no,.cons (.string s) .nil,.str hu ⟨hs,hs2⟩,by simp[Value.oneCell']⟩⟩
   ·rename_i e hu
    simp only[Bool.and_eq_true,beq_iff_eq,decide_eq_true_eq]at hok
    obtain⟨⟨hc1,hz⟩,hoke⟩:=hok
    rcases DataW.trod_slice hu h with⟨rfl,_⟩|⟨a,len,cap,elems,rest,m,hfu,rfl,rfl,_,hlc,hcm,hel,helems,hrest,_⟩
    ·exact⟨by simpa using hc1.symm,fun σ H hr no=>⟨σ,H,[.slice none 0 0],Opened.refl hr no,.cons .nilSl .nil,.nil hu,by simp[Value.oneCell']⟩⟩
    ·cases hfu
     refine⟨by simpa using hc1.symm,fun σ H hr no=>?_⟩
     by_cases hcap:cap=0
     ·subst hcap
      have:len=0:=by omega
      subst this
      exact⟨σ,H,[.slice (some ⟨0,0,some 0⟩) 0 0],Opened.refl hr no,.cons (.slz rfl) .nil,.zero hu rfl,by simp[Value.oneCell']⟩
     ·obtain⟨hr1,hr2⟩:=hrest rfl
      have hx2:cap*P.bytesOf e≤reachBytes:=by
       refine hx _ ?_
       unfold DataW.weights
       rw[hu]
       simp only[List.length_map,hel,hr1,show len+(cap-len)=cap by omega]
       exact List.mem_cons_self
      have hx3:∀y∈elems,Rch P e y.1:=fun y hy m hm=>hx m (by
       unfold DataW.weights
       rw[hu]
       exact List.mem_cons_of_mem _ (List.mem_append.2 (.inl (mem_weightsAll hy hm))))
      have hx4:∀y∈rest,Rch P e y.1:=fun y hy m hm=>hx m (by
       unfold DataW.weights
       rw[hu]
       exact List.mem_cons_of_mem _ (List.mem_append.2 (.inr (mem_weightsAll hy hm))))
      have elem:∀i,i<cap→∃l,w.cells? 0 (a.add (i*P.cellsOf e)) (P.cellsOf e)=some l∧∃y,Rch P e y.1∧DataW.trod enc P w 0 (fun _=>true) true fuel e l=some y:=by
       intro i hi
       by_cases hil:i<len
       ·have:=helems i hil
        rw[List.getElem?_eq_getElem (by omega)]at this
        simp only[Option.bind_eq_some_iff]at this
        obtain⟨l,h1,h2⟩:=this
        exact⟨l,h1,_,hx3 _ (List.getElem_mem _),h2⟩
       ·have:=hr2 (i-len) (by omega)
        rw[List.getElem?_eq_getElem (by omega),show len+(i-len)=i by omega]at this
        simp only[Option.bind_eq_some_iff]at this
        obtain⟨l,h1,h2⟩:=this
        exact⟨l,h1,_,hx4 _ (List.getElem_mem _),h2⟩
      -- the block
      obtain⟨l0,hl0,_⟩:=elem 0 (by omega)
      obtain⟨hl0n,hl0c⟩:=cells_of hl0
      have hc0:=hl0c 0 hz
      rw[Nat.zero_mul,show a.add 0=a by simp[Addr.add],show a.add 0=a by simp[Addr.add],List.getElem?_eq_getElem (by omega)]at hc0
      obtain⟨cc,ty,fr,hblk,hspot,hc0'⟩:∃cc ty fr,w.heap[a.block]? =some (.cells cc ty fr)∧a.spot=none∧cc[a.off]? =some (l0[0]'(by omega)):=by
       unfold World.cell? at hc0
       split at hc0
       ·rename_i cc ty fr hb
        split at hc0
        ·cases hc0
        ·rename_i hs
         exact⟨cc,ty,fr,hb,by simpa using hs,hc0⟩
       ·cases hc0
      obtain⟨ab,ao,asp⟩:=a
      simp only at hspot hblk hc0'
      subst hspot
      have cell:∀j,w.cell? ⟨ab,j,none⟩=cc[j]? :=fun j=>by simp[World.cell?,hblk]
      have elem2:∀i,i<cap→((cc.toList.drop (ao+i*P.cellsOf e)).take (P.cellsOf e)).length=P.cellsOf e∧OpenP P ng w e ((cc.toList.drop (ao+i*P.cellsOf e)).take (P.cellsOf e)):=by
       intro i hi
       obtain⟨l,h1,y,hyr,h2⟩:=elem i hi
       obtain⟨hln,hlc⟩:=cells_of h1
       have hl:l=(cc.toList.drop (ao+i*P.cellsOf e)).take (P.cellsOf e):=by
        apply List.ext_getElem?
        intro j
        by_cases hj:j<P.cellsOf e
        ·rw[←hlc j hj,List.getElem?_take_of_lt hj,List.getElem?_drop,add_plain,add_plain,cell]
         simp
        ·rw[List.getElem?_eq_none (by omega),List.getElem?_eq_none (by rw[List.length_take];omega)]
       rw[←hl]
       have:=ih d e l y hoke hyr h2
       exact⟨hln,this.2⟩
      obtain⟨σ1,H1,c,g1,g2,g3,g4,g5⟩:=open_row cap (fun i=>(cc.toList.drop (ao+i*P.cellsOf e)).take (P.cellsOf e)) elem2 σ H hr no
      rw[row_flat]at g2
      have hsz:ao+cap*P.cellsOf e≤cc.size∧0<cap*P.cellsOf e:=by
       have h1:=g2.length
       have h2:0<cap*P.cellsOf e:=Nat.mul_pos (by omega) hz
       rw[g3,List.length_take,List.length_drop,Array.length_toList]at h1
       omega
      have hnone:=g1.hr.none_of_ge (Nat.le_refl H1.n)
      have hlt:ab<w.heap.size:=by
       by_cases hh:ab<w.heap.size
       ·exact hh
       ·rw[Array.getElem?_eq_none (by omega)]at hblk;cases hblk
      let bi:BI:=⟨ab,ao,cap*P.cellsOf e,cc.size-ao,P.cellsOf e,false⟩
      let o2:AO:=.cells false false (P.cellsOf e) c ty
      have hor:OR σ1 w bi o2:=⟨g3.symm,rfl,rfl,by show c.length≤cc.size-ao;omega,g4,cc,fr,hblk,by show cc.size=ao+(cc.size-ao);omega,by rw[g3];exact g2,by simp⟩
      have hadd:=HR.add (o2:=o2) (G':=(H1.alloc o2).get) g1.hr hnone (fun x hx=>AHeap.get_alloc_ne H1 o2 hx) (AHeap.get_alloc_new H1 o2) hlt hor (fun x j ox _ hox hh=>by
       have:=g1.no x ox hox
       rcases hh with⟨_,h2⟩|⟨h2,_⟩
       ·cases h2
       ·rw[this]at h2;cases h2)
      have hk:Keeps H1 (H1.alloc o2):=(Keeps.refl H1).alloc o2
      refine⟨σ1.up H1.n bi,H1.alloc o2,[slc H1.n 0 len cap],g1.trans ⟨Sg.le_up _ hnone,hk,hadd,fun b o hb=>?_⟩,.cons ?_ .nil,?_,by simp[slc,Value.oneCell']⟩
      ·rw[alloc_get]at hb
       split at hb
       ·cases hb;rfl
       ·exact g1.no b o hb
      ·exact VR.sl (i:=bi) (o:=0) (Sg.up_same _ _ _) hlc (.inl rfl)
      ·exact .sl hu (by omega) hlc ⟨hcm,hx2⟩ (AHeap.get_alloc_new H1 o2) g3 (fun i hi=>hk.ar (g5 i hi))
   ·rename_i fs hu
    obtain⟨xs,m,hfu,rfl,hl,hxl,hxs⟩:=DataW.trod_struct hu h
    cases hfu
    have hx2:=rch_each (P:=P) (ts:=fs.toList.map (·.type)) (l:=xs.map (·.1)) (fun m hm=>hx m (by unfold DataW.weights;rw[hu];exact hm))
    refine⟨hl,fun σ H hr no=>?_⟩
    have each:∀fd∈fs.toList,okT P d fd.type=true→((cs.drop fd.offset).take (P.cellsOf fd.type)).length=P.cellsOf fd.type∧OpenP P ng w fd.type ((cs.drop fd.offset).take (P.cellsOf fd.type)):=by
     intro fd hfd hokf
     obtain⟨i,hi,hfi⟩:=List.mem_iff_getElem.1 hfd
     have hi':i<fs.size:=by simpa using hi
     have h1:fs[i]? =some fd:=by
      rw[Array.getElem?_eq_getElem hi']
      rw[←hfi];simp
     have h2:=hxs i fd h1
     rw[List.getElem?_eq_getElem (by omega)]at h2
     exact ih d fd.type _ _ hokf (hx2 i fd.type _ (by simpa using⟨fd,h1,rfl⟩) (by simp[List.getElem?_eq_getElem (show i<xs.length by omega)])) h2
    obtain⟨σ',H',c,g1,g2,g3,g4⟩:=open_fields fs.toList 0 hok (Nat.zero_le _) hl (fun fd hfd hf=>(each fd hfd hf).2) (fun fd hfd hf=>(each fd hfd hf).1) σ H hr no
    rw[List.drop_zero]at g2
    refine⟨σ',H',c,g1,g2,.struct hu (by rw[g2.length,hl]) (fun i f hf=>?_),g3⟩
    have:=(g4 f (by
     have:fs.toList[i]? =some f:=by simpa using hf
     exact List.mem_of_getElem? this)).2
    simpa using this
   ·rename_i n e hu
    simp only[Bool.and_eq_true,beq_iff_eq]at hok
    obtain⟨hn,hoke⟩:=hok
    obtain⟨xs,m,hfu,rfl,hl,hxl,hxs⟩:=DataW.trod_array hu h
    cases hfu
    have hx2:=rch_all (P:=P) (e:=e) (l:=xs.map (·.1)) (fun m hm=>hx m (by unfold DataW.weights;rw[hu];exact hm))
    refine⟨hl,fun σ H hr no=>?_⟩
    obtain⟨σ',H',c,g1,g2,g3,g4,g5⟩:=open_row (P:=P) (ng:=ng) (w:=w) (e:=e) (z:=P.cellsOf e) n (fun i=>(cs.drop (0+i*P.cellsOf e)).take (P.cellsOf e)) (fun i hi=>by
     have h2:=hxs i hi
     rw[List.getElem?_eq_getElem (by omega)]at h2
     rw[Nat.zero_add]
     exact ih d e _ _ hoke (hx2 _ (List.mem_map_of_mem (List.getElem_mem _))) h2) σ H hr no
    rw[row_flat,List.drop_zero,hn,←hl,List.take_length]at g2
    exact⟨σ',H',c,g1,g2,.array hu (by rw[g3,hn]) g5,g4⟩
   ·cases hok
end
end Go.AM

namespace Go.AM
open Go.RowKit Go.WideShapes Go.ChangeShapes
section
variable {H0:Type} {enc:TypeId×Value→H0} {P:Program} {w:World} {ng:Nat}
def AV(P:Program)(G:Gf)(t:TypeId)(v:Value):Prop:=AR P G t v.cells.toList∧(isAggT P t=some true→∃cs,v=.agg cs)∧(isAggT P t=some false→v.oneCell'=true)
def AVs(P:Program)(G:Gf):List TypeId→List Value→Prop
 |[],[]=>True
 |t::ts,v::vs=>AV P G t v∧AVs P G ts vs
 |_,_=>False
theorem AV.mono{G G':Gf}(hg:∀b o,G b=some o→G' b=some o){t:TypeId}{v:Value}(h:AV P G t v):AV P G' t v:=⟨h.1.mono hg,h.2⟩
theorem okWide_shape{t:TypeId}{v:Value}{d:Nat}(hok:okT P d t=true)(hv:Value.okWide P w .any 0 t v):(∃cs,v=.agg cs∧isAggT P t=some true)∨(v.cells= #[v]∧isAggT P t=some false∧v.oneCell'=true):=by
 cases d with
 |zero=>simp[okT]at hok
 |succ d=>
  simp only[okT]at hok
  split at hok
  ·rename_i hu
   obtain⟨b,rfl⟩:=okWide_bool hu hv
   exact .inr ⟨rfl,by unfold isAggT;rw[hu];rfl,rfl⟩
  ·rename_i hu
   obtain⟨b,rfl⟩:=okWide_int hu hv
   exact .inr ⟨rfl,by unfold isAggT;rw[hu];rfl,rfl⟩
  ·rename_i hu
   obtain⟨b,rfl⟩:=okWide_string hu hv
   exact .inr ⟨rfl,by unfold isAggT;rw[hu];rfl,rfl⟩
  ·rename_i hu
   obtain⟨a,n,k,rfl⟩:=okWide_slice hu hv
   exact .inr ⟨rfl,by unfold isAggT;rw[hu];rfl,rfl⟩
  ·rename_i hu
   obtain⟨cs,rfl,_⟩:=okWide_struct hu hv
   exact .inl ⟨cs,rfl,by unfold isAggT;rw[hu];rfl⟩
  ·rename_i n e hu
   unfold Value.okWide at hv
   rw[hu]at hv
   obtain⟨cs,rfl,_⟩:=hv
   exact .inl ⟨cs,rfl,by unfold isAggT;rw[hu];rfl⟩
  ·cases hok
theorem open_arg{t:TypeId}{v:Value}{d:DataW H0}{ps:List MemPlace}(hok:okT P 20 t=true)(hv:Value.okWide P w .any 0 t v)(hx:Rch P t d)(h:DataW.Trod enc P w 0 (fun _=>true) true t v d ps){σ:Sg}{H:AHeap}(hr:HR ng σ H.get w)(no:NoOwn H):
 ∃σ' H' v',Opened P ng w σ H σ' H'∧VR σ' v' v∧AV P H'.get t v':=by
 obtain⟨fuel,hf⟩:=h
 obtain⟨hl,hop⟩:=open_cells (ng:=ng) fuel 20 t _ _ hok hx hf
 obtain⟨σ',H',cs',g1,g2,g3,g4⟩:=hop σ H hr no
 rcases okWide_shape hok hv with⟨cs,rfl,hag⟩|⟨hc,hag,hone⟩
 ·refine⟨σ',H',.agg cs'.toArray,g1,?_,g3,fun _=>⟨_,rfl⟩,(fun h=>by rw[hag]at h;cases h)⟩
  have:=VR.agg_of g2
  simpa[Value.cells]using this
 ·rw[hc]at g2
  match cs',g2 with
  |[u],.cons hu .nil=>
   have h1:=g4 u (by simp)
   refine⟨σ',H',u,g1,hu,?_,(fun h=>by rw[hag]at h;cases h),fun _=>h1⟩
   rw[cells_one h1];exact g3
theorem open_args:∀{ts:List TypeId} {vs:List Value} {ds:List (DataW H0)} {ps:List MemPlace},(∀t∈ts,okT P 20 t=true)→(∀(j:Nat) t v,ts[j]? =some t→vs[j]? =some v→Value.okWide P w .any 0 t v)→(∀m∈DataW.weightsEach P ts ds,m≤reachBytes)→DataW.TrodAll enc P w 0 (fun _=>true) true ts vs ds ps→
 ∀{σ:Sg} {H:AHeap},HR ng σ H.get w→NoOwn H→∃σ' H' vs',Opened P ng w σ H σ' H'∧VL σ' vs' vs∧AVs P H'.get ts vs'
 |[],vs,ds,ps,_,_,_,h,σ,H,hr,no=>by
  obtain⟨rfl,_,_⟩:=trodAll_nil h
  exact⟨σ,H,[],Opened.refl hr no,.nil,trivial⟩
 |t::ts,vs,ds,ps,hok,hv,hx,h,σ,H,hr,no=>by
  obtain⟨v,vs',d,ds',p,q,rfl,rfl,rfl,h1,h2⟩:=trodAll_cons h
  obtain⟨σ1,H1,u,g1,g2,g3⟩:=open_arg (ng:=ng) (hok t (by simp)) (hv 0 t v rfl rfl) (fun m hm=>hx m (List.mem_append.2 (.inl hm))) h1 hr no
  obtain⟨σ2,H2,us,k1,k2,k3⟩:=open_args (fun t ht=>hok t (by simp[ht])) (fun j t v a b=>hv (j+1) t v (by simpa using a) (by simpa using b)) (fun m hm=>hx m (List.mem_append.2 (.inr hm))) h2 g1.hr g1.no
  exact⟨σ2,H2,u::us,g1.trans k1,.cons (g2.mono k1.le) k2,g3.mono (fun b o hb=>k1.keep.at_ hb),k3⟩
def globsH(n:Nat):AHeap:=⟨n,List.replicate n .dead⟩
theorem globsH_get{n b:Nat}(h:b<n):(globsH n).get b=some .dead:=by
 unfold globsH AHeap.get
 simp only[h,if_true]
 rw[List.getElem?_replicate,if_pos (by omega)]
theorem HR.globs(n:Nat)(w:World)(h:n≤w.heap.size):HR n (fun b=>if b<n then some ⟨b,0,0,0,0,false⟩else none) (globsH n).get w:=by
 refine⟨fun b i hb=>?_,fun b1 b2 i1 i2 o1 o2 _ h1 _ g1 _ hw=>?_,fun b i hb=>?_,fun g hg=>⟨⟨g,0,0,0,0,false⟩,by simp[hg],rfl,rfl⟩⟩
 ·by_cases hn:b<n
  ·exact⟨.dead,globsH_get hn,trivial⟩
  ·simp[hn]at hb
 ·by_cases hn:b1<n
  ·rw[globsH_get hn]at g1;cases g1;cases hw
  ·simp[hn]at h1
 ·by_cases hn:b<n
  ·simp only[hn,if_true,Option.some.injEq]at hb;subst hb;exact Nat.lt_of_lt_of_le hn h
  ·simp[hn]at hb
theorem globsH_no(n:Nat):NoOwn (globsH n):=fun b o h=>by
 have hb:b<n:=AHeap.get_lt h
 rw[globsH_get hb]at h
 cases h;rfl
theorem law_calls{ng:Nat}{f:FuncId}{ts:List TypeId}(hts:∀t∈ts,okT P 20 t=true)(hlaw:∀H args,NoOwn H→AVs P H.get ts args→∃H',ARun P ng f args H (.bool true) H'){args:Array Value}{ds:List (DataW H0)}{ps:List MemPlace}
 (hA:DataW.TrodAll enc P w 0 (fun _=>true) true ts args.toList ds ps) (hws:(DataW.weightsEach P ts ds).all (· ≤reachBytes)=true) (hval:∀(j:Nat) t v,ts[j]? =some t→args[j]? =some v→Value.okWide P w .any 0 t v)
 (hng:ng≤w.heap.size:=by exact Nat.zero_le _) (hb:bodiedB P f=true:=by kernel_rfl):
 Calls P f args w fun e w'=>e=.returned (.bool true)∧Below w.heap.size w w':=by
 obtain⟨σ,H,args',g1,g2,g3⟩:=open_args (ng:=ng) hts (fun j t v a b=>hval j t v a (by simpa using b)) (fun m hm=>by simpa using List.all_eq_true.1 hws m hm) hA (HR.globs ng w hng) (globsH_no ng)
 obtain⟨H',_,_,hrun⟩:=hlaw H args' g1.no g3
 refine((hrun σ w args.toList g1.hr g2).calls (bodied_of hb)).mono ?_
 rintro e w' ⟨v',σ',rfl,k1,k2,k3⟩
 rw[k3.bool_inv]
 refine⟨rfl,k2.os,k2.tape,k2.output,k2.size,fun k hk=>k2.keep k hk (fun b i o hb ho hown=>?_)⟩
 rw[g1.no b o ho]at hown;cases hown
theorem trodAll_stays(hl:laidOutB P=true){W W':World}(hb:Below W.heap.size W W'){sp:Nat→Bool}:∀{ts:List TypeId} {vs:List Value} {ds:List (DataW H0)} {ps:List MemPlace},(∀t∈ts,P.readableRec t=true∧t<P.types.size)→
 DataW.TrodAll enc P W 0 (fun _=>true) true ts vs ds ps→(∀x∈ps,x.block<W.heap.size)→(∀p∈ps,sp p.block=true)→DataW.TrodAll enc P W' 0 sp true ts vs ds ps
 |[],vs,ds,ps,_,h,_,_=>by obtain⟨rfl,rfl,rfl⟩:=trodAll_nil h;rfl
 |t::ts,vs,ds,ps,hr,h,hlt,hsp=>by
  obtain⟨v,vs',d,ds',p,q,rfl,rfl,rfl,h1,h2⟩:=trodAll_cons h
  obtain⟨r1,r2⟩:=hr t (by simp)
  exact⟨p,q,WideElems.Trod_stays hl r1 r2 h1 (fun x hx=>hb.same (hlt x (by simp[hx]))) (fun x hx=>hsp x (by simp[hx])),
   trodAll_stays hl hb (fun t ht=>hr t (by simp[ht])) h2 (fun x hx=>hlt x (by simp[hx])) (fun x hx=>hsp x (by simp[hx])),rfl⟩
theorem post_of_below{H:Type}{enc:TypeId×Value→H}{f:Func}{s:ChangeSpec}{apart fresh handsOn again:Bool}{W W':World}{args:Array Value}{v:Value}{ds gs:List (DataW H)}{before pa pv:List MemPlace}
 (hW:DataW.Whole enc P f.params.toList s.vars apart W args.toList ds gs before)
 (hres:∀(b:Nat) (sp:Nat→Bool) (hd:Bool),DataW.TrodAll enc P W' b sp hd f.resultTypes.toList (v.resultList f.resultTypes.size) (s.fn H (ds++gs)).results [])
 (hargs:∀sp:Nat→Bool,(∀p∈before,sp p.block=true)→DataW.TrodAll enc P W' 0 sp true f.params.toList args.toList (s.fn H (ds++gs)).args pa)
 (hvars:∀sp:Nat→Bool,(∀p∈before,sp p.block=true)→DataW.TrodVars enc P W' sp s.vars (s.fn H (ds++gs)).vars pv)
 (hps:before=pa++pv) (hb:Below W.heap.size W W')
 (hok:∀(j:Nat) (t:TypeId) (r:Value),f.resultTypes[j]? =some t→(v.resultList f.resultTypes.size)[j]? =some r→Value.okWide P W' .any 0 t r):
 s.post enc P f apart fresh handsOn again W args v W':=by
 have hlt:∀p∈before,p.block<W.heap.size:=fun p hp=>hW.lt p hp
 have hold:∀p∈before,(fun b=>decide (b<W.heap.size)) p.block=true:=fun p hp=>by simpa using hlt p hp
 refine⟨ds,gs,before,[],pa,pv,hW,hres _ _ _,hargs _ hold,hvars _ hold,World.keptBut_mono (fun p hp=>⟨hp,?_⟩) (hb.frame (· ∈before)),fun _=>?_⟩
 ·rw[hps,List.mem_append]at hp
  exact Or.inr hp
 ·obtain⟨_,_,_,_,_,hz,hn⟩:=hW
  refine⟨hok,_,_,([]++pa)++pv,⟨[]++pa,pv,trodAll_append (hargs _ (fun _ _=>rfl)) (hres _ _ _),hvars _ (fun _ _=>rfl),rfl,?_,?_⟩,?_⟩
  ·intro b off hp
   have hin:MemPlace.cell b off∈before:=by rw[hps];simpa using hp
   rw[hb.frozen (hlt _ hin)]
   exact hz b off hin
  ·intro ha
   have:=hn ha
   rw[hps]at this
   simpa using this
  ·intro p hp _
   rw[hps]
   simpa using hp
end
end Go.AM

namespace Go.AM
section
variable {P:Program} {G:Gf} {t e:TypeId} {v:Value} {cs:List Value}
theorem AR.int_inv{k:IntKind}(hu:P.underlying t=some (.int k))(h:AR P G t cs):∃n,cs=[.int k n]∧(Lit.int k n).wf=true:=by
 cases h with
 |int h hw=>rw[hu]at h;cases h;exact⟨_,rfl,hw⟩
 |bool h=>rw[hu]at h;cases h
 |str h _=>rw[hu]at h;cases h
 |nil h=>rw[hu]at h;cases h
 |zero h _=>rw[hu]at h;cases h
 |sl h=>rw[hu]at h;cases h
 |struct h _=>rw[hu]at h;cases h
 |array h _=>rw[hu]at h;cases h
theorem AR.str_inv(hu:P.underlying t=some .string)(h:AR P G t cs):∃s:ByteArray,cs=[.string s]∧s.size≤maxLen∧s.size≤reachBytes:=by
 cases h with
 |int h hw=>rw[hu]at h;cases h
 |bool h=>rw[hu]at h;cases h
 |str h hs=>exact⟨_,rfl,hs⟩
 |nil h=>rw[hu]at h;cases h
 |zero h _=>rw[hu]at h;cases h
 |sl h=>rw[hu]at h;cases h
 |struct h _=>rw[hu]at h;cases h
 |array h _=>rw[hu]at h;cases h
theorem AR.slice_inv(hu:P.underlying t=some (.slice e))(h:AR P G t cs):cs=[.slice none 0 0]∨(∃x:Addr,x.spot.isSome=true∧cs=[.slice (some x) 0 0])∨
 ∃b n k c u,cs=[slc b 0 n k]∧0<k∧n≤k∧(k≤maxLen∧k*P.bytesOf e≤reachBytes)∧G b=some (.cells false false (P.cellsOf e) c u)∧c.length=k*P.cellsOf e∧∀i,i<k→AR P G e ((c.drop (i*P.cellsOf e)).take (P.cellsOf e)):=by
 cases h with
 |int h hw=>rw[hu]at h;cases h
 |bool h=>rw[hu]at h;cases h
 |str h hs=>rw[hu]at h;cases h
 |nil h=>exact .inl rfl
 |zero h hx=>exact .inr (.inl ⟨_,hx,rfl⟩)
 |sl h a b c d e f=>rw[hu]at h;cases h;exact .inr (.inr ⟨_,_,_,_,_,rfl,a,b,c,d,e,f⟩)
 |struct h _=>rw[hu]at h;cases h
 |array h _=>rw[hu]at h;cases h
theorem AV.one(ha:isAggT P t=some false)(h:AV P G t v):v.cells.toList=[v]:=by
 rw[cells_one (h.2.2 ha)]
theorem AV.int_inv{k:IntKind}(hu:P.underlying t=some (.int k))(h:AV P G t v):∃n,v=.int k n∧(Lit.int k n).wf=true:=by
 have h1:=h.one (by unfold isAggT;rw[hu];rfl)
 obtain⟨n,h2,h3⟩:=h.1.int_inv hu
 rw[h1]at h2
 exact⟨n,by simpa using h2,h3⟩
end
end Go.AM

namespace Go.AM
section
variable {P:Program} {ng:Nat} {H:AHeap} {Q:AQ} {fr tm:List Value}
theorem W_loop2{c:ACode}(I:Nat→List Value→AHeap→Prop)(n:Nat)(h0:I n fr H)
 (hs:∀(Q':AQ) (k:Nat) (fr:List Value) (H:AHeap),I k fr H→(∀k' fr H,I k' fr H→k'<k→Q' .normal fr H)→(∀i fr H,Q (.exit i) fr H→Q' (.exit i) fr H)→(∀fr H,Q .ret fr H→Q' .ret fr H)→W P ng c Q' fr H):W P ng (.loop c) Q fr H:=
 ⟨I,n,h0,fun k fr H hI=>hs _ k fr H hI (fun k' fr H h1 h2=>⟨k',h2,h1⟩) (fun _ _ _ h=>h) (fun _ _ h=>h)⟩
theorem alloc_set(H:AHeap)(o o':AO):(H.alloc o).set H.n o'=H.alloc o':=by
 simp[AHeap.alloc,AHeap.set]
end
set_option linter.defProp false in
def ANs:=(And.intro (And.intro (And.intro (And.intro (And.intro (And.intro (And.intro @W_skip @W_reg) (And.intro @W_seq (And.intro @w_cond @cond_true))) (And.intro (And.intro @cond_false (And.intro @W_exit @W_ret)) (And.intro @W_dreg (And.intro @r_nil @r_cons)))) (And.intro (And.intro (And.intro @r_consg (And.intro @gd_true @gd_false)) (And.intro @go_some (And.intro @st_call @st_callv))) (And.intro (And.intro @d_nil (And.intro @d_cons @d_consg)) (And.intro @gdD_true (And.intro @gdD_false @goD_some))))) (And.intro (And.intro (And.intro (And.intro @goD_some' @stD_call) (And.intro @st_mov (And.intro @st_pick @st_new))) (And.intro (And.intro @st_box (And.intro @st_build @st_bslice)) (And.intro @st_load1 (And.intro @st_loadn @st_store1)))) (And.intro (And.intro (And.intro @st_storen (And.intro @st_nilck @st_bin)) (And.intro @st_eqv (And.intro @st_un @st_i2i))) (And.intro (And.intro @st_s2s (And.intro @st_s2b @st_b2s)) (And.intro @st_iface (And.intro @st_mkfn @st_mksl)))))) (And.intro (And.intro (And.intro (And.intro (And.intro @st_slstr @st_slsl) (And.intro @st_faddr (And.intro @st_fld1 @st_fldn))) (And.intro (And.intro @st_iaddr (And.intro @st_idxs @st_assert)) (And.intro @st_extract (And.intro @st_len @st_mark)))) (And.intro (And.intro (And.intro @sd_pick (And.intro @sd_new @sd_box)) (And.intro @sd_build (And.intro @sd_bslice @sd_load1))) (And.intro (And.intro @sd_loadn (And.intro @sd_store1 @sd_storen)) (And.intro @sd_nilck (And.intro @sd_bin @sd_eqv))))) (And.intro (And.intro (And.intro (And.intro @sd_un @sd_i2i) (And.intro @sd_s2s (And.intro @sd_s2b @sd_b2s))) (And.intro (And.intro @sd_iface (And.intro @sd_mkfn @sd_mksl)) (And.intro @sd_slstr (And.intro @sd_slsl @sd_faddr)))) (And.intro (And.intro (And.intro @sd_fld1 (And.intro @sd_fldn @sd_iaddr)) (And.intro @sd_idxs (And.intro @sd_assert @sd_extract))) (And.intro (And.intro @sd_len (And.intro @sd_mark @sd_mov)) (And.intro @a_mov (And.intro @a_pick @a_new))))))) (And.intro (And.intro (And.intro (And.intro (And.intro (And.intro @a_box @a_build) (And.intro @a_load1 (And.intro @a_loadn @a_nilck))) (And.intro (And.intro @a_bin (And.intro @a_eqv @a_not)) (And.intro @a_neg (And.intro @a_i2i @a_s2s)))) (And.intro (And.intro (And.intro @a_s2b (And.intro @a_iface @a_mkfn)) (And.intro @a_faddr (And.intro @a_fld1 @a_iaddr))) (And.intro (And.intro @a_assert (And.intro @a_extract @a_len)) (And.intro @a_lenc (And.intro @a_lens @AX_fr))))) (And.intro (And.intro (And.intro (And.intro @AX_tm @AX_c) (And.intro @AX_fn (And.intro @AX_g @D_no))) (And.intro (And.intro @D_no' (And.intro @D_tm @D_tm')) (And.intro @D_fr (And.intro @D_fr' @getD_nil')))) (And.intro (And.intro (And.intro @want_x (And.intro @bi_tt @bi_tf)) (And.intro @bi_ft (And.intro @bi_ff @pk_t))) (And.intro (And.intro @pk_f (And.intro @resO0 @resO1)) (And.intro @resO2 (And.intro @resO3 @e_sn)))))) (And.intro (And.intro (And.intro (And.intro (And.intro @e_ss @e_pn) (And.intro @e_ps (And.intro @e_bb @fill0))) (And.intro (And.intro @fill1 (And.intro @b_add @b_sub)) (And.intro @b_mul (And.intro @b_eql @b_neq)))) (And.intro (And.intro (And.intro @b_lss (And.intro @b_leq @b_gtr)) (And.intro @b_geq (And.intro @b_and @b_or))) (And.intro (And.intro @b_xor (And.intro @b_seql @b_sneq)) (And.intro @b_slss (And.intro @at_n @at_e))))) (And.intro (And.intro (And.intro (And.intro @at_r (And.intro @ib_n @ib_r)) (And.intro @ib_e (And.intro @ib_x @one_int))) (And.intro (And.intro @one_bool (And.intro @one_str @one_sl)) (And.intro @one_slc (And.intro @one_ptr @one_pn)))) (And.intro (And.intro (And.intro @one_if (And.intro @one_map @bnd_none)) (And.intro @o_int (And.intro @o_bool @o_str))) (And.intro (And.intro @o_sl (And.intro @o_slc @o_ptr)) (And.intro @o_pn (And.intro @o_if @o_map))))))))
set_option linter.defProp false in
def ANc:=(And.intro (And.intro (And.intro (And.intro (And.intro @List.getD_cons_zero.{0} @List.getD_cons_succ.{0}) (And.intro @List.set_cons_zero.{0} @List.set_cons_succ.{0})) (And.intro (And.intro @List.map_cons.{0,0} @List.map_nil.{0,0}) (And.intro @Option.map_some.{0,0} (And.intro @Option.map_none.{0,0} @beq_self_eq_true.{0})))) (And.intro (And.intro (And.intro @if_true.{1} @if_true.{0}) (And.intro @Bool.false_eq_true @if_false.{1})) (And.intro (And.intro @if_false.{0} @Bool.not_true) (And.intro @Bool.not_false (And.intro @Nat.add_zero @Nat.zero_add))))) (And.intro (And.intro (And.intro (And.intro @Nat.mul_one @Int.toNat_natCast) (And.intro @List.getElem?_cons_zero.{0} @List.getElem?_cons_succ.{0})) (And.intro (And.intro @true_and @and_true) (And.intro @false_and (And.intro @Exit.exit.injEq @Bool.true_beq)))) (And.intro (And.intro (And.intro @Bool.false_beq @beq_true) (And.intro @beq_false (And.intro @List.length_cons.{0} @List.length_nil.{0}))) (And.intro (And.intro @List.all_cons.{0} @List.all_nil.{0}) (And.intro @Bool.and_true (And.intro @Bool.true_and @and_self))))))
end Go.AM

namespace Go.AM
section
variable {P:Program} {ng:Nat} {H H':AHeap} {Q:AQ} {fr tm:List Value}
def cellO(g:Option AO)(o:Nat):Option Value:=match g with
 |some (.cells _ _ _ c _)=>c[o]?
 |_=>none
def rangeO(g:Option AO)(o n:Nat):Option (List Value):=match g with
 |some (.cells _ _ _ c _)=>if o+n≤c.length then some ((c.drop o).take n)else none
 |_=>none
theorem cellA_e(H:AHeap)(b o:Nat):cellA H b o=cellO (H.get b) o:=by unfold cellA cellO;rfl
theorem rangeA_e(H:AHeap)(b o n:Nat):rangeA H b o n=rangeO (H.get b) o n:=by unfold rangeA rangeO;rfl
theorem cellO_c(own room:Bool)(esz e:Nat)(c:List Value)(o:Nat):cellO (some (.cells own room esz c e)) o=c[o]? :=_root_.id rfl
theorem rangeO_c(own room:Bool)(esz e:Nat)(c:List Value)(o n:Nat):rangeO (some (.cells own room esz c e)) o n=if o+n≤c.length then some ((c.drop o).take n)else none:=_root_.id rfl
def st1O(H:AHeap)(b o:Nat)(x:Value)(g:Option AO):Option (Value×AHeap):=match g with
 |some (.cells true room esz c e)=>if o<c.length∧x.oneCell'=true then some (undef,H.set b (.cells true room esz (c.set o x) e))else none
 |_=>none
def stnO(H:AHeap)(b o n:Nat)(x:List Value)(g:Option AO):Option (Value×AHeap):=match g with
 |some (.cells true room esz c e)=>if o+n≤c.length∧x.length=n∧x.all Value.oneCell'=true then some (undef,H.set b (.cells true room esz (c.take o++x++c.drop (o+n)) e))else none
 |_=>none
theorem a_store1e(H:AHeap)(b o:Nat)(x:Value):asem (.store1 (ptr b o) x) H=st1O H b o x (H.get b):=by
 unfold st1O
 rfl
theorem a_storene(H:AHeap)(b o n:Nat)(x:Value):asem (.storen n (ptr b o) x) H=stnO H b o n x.cells.toList (H.get b):=by
 unfold stnO
 rfl
theorem st1O_c(b o:Nat)(x:Value)(room:Bool)(esz e:Nat)(c:List Value):st1O H b o x (some (.cells true room esz c e))=if o<c.length∧x.oneCell'=true then some (undef,H.set b (.cells true room esz (c.set o x) e))else none:=by
 unfold st1O;rfl
theorem stnO_c(b o n:Nat)(x:List Value)(room:Bool)(esz e:Nat)(c:List Value):stnO H b o n x (some (.cells true room esz c e))=if o+n≤c.length∧x.length=n∧x.all Value.oneCell'=true then some (undef,H.set b (.cells true room esz (c.take o++x++c.drop (o+n)) e))else none:=by
 unfold stnO;rfl
theorem rng_full{own room:Bool}{esz e n:Nat}{c:List Value}(h:c.length=n):rangeO (some (.cells own room esz c e)) 0 n=some c:=by
 rw[rangeO_c,if_pos (by omega),List.drop_zero,List.take_of_length_le (by omega)]
theorem rng_part{own room:Bool}{esz e o n:Nat}{c:List Value}(h:c.length≠n):rangeO (some (.cells own room esz c e)) o n=if o+n≤c.length then some ((c.drop o).take n)else none:=rangeO_c ..
theorem stn_full{b n:Nat}{x:List Value}{room:Bool}{esz e:Nat}{c:List Value}(h:c.length=n):stnO H b 0 n x (some (.cells true room esz c e))=if x.length=n∧x.all Value.oneCell'=true then some (undef,H.set b (.cells true room esz x e))else none:=by
 rw[stnO_c]
 by_cases hx:x.length=n∧x.all Value.oneCell'=true
 ·rw[if_pos ⟨by omega,hx⟩,if_pos hx,List.take_zero,List.nil_append,List.drop_of_length_le (by omega),List.append_nil]
 ·rw[if_neg (fun h=>hx h.2),if_neg hx]
theorem stn_part{b o n:Nat}{x:List Value}{room:Bool}{esz e:Nat}{c:List Value}(h:c.length≠n):stnO H b o n x (some (.cells true room esz c e))=if o+n≤c.length∧x.length=n∧x.all Value.oneCell'=true then some (undef,H.set b (.cells true room esz (c.take o++x++c.drop (o+n)) e))else none:=stnO_c ..
theorem cells_agg(l:List Value):(Value.agg l.toArray).cells.toList=l:=by simp[Value.cells]
theorem toList_arr(l:List Value):l.toArray.toList=l:=by simp
theorem size_arr(l:List Value):l.toArray.size=l.length:=by simp
theorem g_new{b:Nat}(o:AO)(h:b=H.n):(H.alloc o).get b=some o:=by subst h;exact AHeap.get_alloc_new H o
theorem g_old{b:Nat}(o:AO)(h:b<H.n):(H.alloc o).get b=H.get b:=AHeap.get_alloc_old H o h
theorem g_set(b:Nat)(o:AO):(H.set b o).get b=(H.get b).map fun _=>o:=by
 by_cases hb:b<H.n
 ·by_cases h:H.n-1-b<H.l.length
  ·simp[AHeap.get,AHeap.set,hb,h]
  ·simp only[AHeap.get,AHeap.set,hb,if_true,List.getElem?_eq_none (Nat.le_of_not_lt h),Option.map_none]
   exact List.getElem?_eq_none (by simpa using Nat.le_of_not_lt h)
 ·simp[AHeap.get,AHeap.set,hb]
theorem g_sets{b b':Nat}(o:AO)(h:b'≠b)(h2:b<H.n):(H.set b o).get b'=H.get b':=AHeap.get_set_other H h h2 o
theorem set_new{b:Nat}(o o':AO)(h:b=H.n):(H.alloc o).set b o'=H.alloc o':=by subst h;exact alloc_set H o o'
theorem set_old{b:Nat}(o o':AO)(h:b<H.n):(H.alloc o).set b o'=(H.set b o').alloc o:=by
 simp only[AHeap.alloc,AHeap.set,show H.n+1-1-b=(H.n-1-b)+1 by omega,List.set_cons_succ]
theorem set_set(b:Nat)(o o':AO):(H.set b o).set b o'=H.set b o':=by simp[AHeap.set]
theorem lt_yes{a b:Nat}(h:a<b):(a<b)=True:=by simp[h]
theorem le_yes{a b:Nat}(h:a≤b):(a≤b)=True:=by simp[h]
theorem eqn_yes{a b:Nat}(h:a=b):(a=b)=True:=by simp[h]
theorem lti_yes{a b:Int}(h:a<b):(a<b)=True:=by simp[h]
theorem lei_yes{a b:Int}(h:a≤b):(a≤b)=True:=by simp[h]
theorem lti_no{a b:Int}(h:¬a<b):(a<b)=False:=by simp[h]
theorem lei_no{a b:Int}(h:¬a≤b):(a≤b)=False:=by simp[h]
theorem beqi_no{a b:Int}(h:¬a=b):(a==b)=false:=by simp[h]
theorem beqi_yes{a b:Int}(h:a=b):(a==b)=true:=by simp[h]
theorem bnei_no{a b:Int}(h:a=b):(a != b)=false:=by simp[h]
theorem bnei_yes{a b:Int}(h:¬a=b):(a != b)=true:=by simp[h]
theorem bi_u(b:Bool):boolIs undef b=false:=by cases b<;>rfl
theorem boolIs_t(b:Bool):boolIs (.bool b) true=b:=by cases b<;>rfl
theorem boolIs_f(b:Bool):boolIs (.bool b) false= !b:=by cases b<;>rfl
theorem callK{f:FuncId}{xs:List Value}{R K:Value→AHeap→Prop}(h:∃v H',ARun P ng f xs H v H'∧R v H')(k:∀v H',R v H'→K v H'):∃v H',ARun P ng f xs H v H'∧K v H':=by
 obtain⟨v,H',h1,h2⟩:=h;exact⟨v,H',h1,k v H' h2⟩
theorem callQ{f:FuncId}{xs:List Value}{K:Value→AHeap→Prop}{x:Value}{H2:AHeap}(h:∃v H',ARun P ng f xs H v H'∧v=x∧H'=H2)(k:K x H2):∃v H',ARun P ng f xs H v H'∧K v H':=by
 obtain⟨v,H',h1,rfl,rfl⟩:=h;exact⟨_,_,h1,k⟩
theorem Chg1.get{r:Nat}(c:Chg [r] H H'){b:Nat}(h1:b<H.n)(h2:b≠r):H'.get b=H.get b:=c.get b h1 (by simpa using h2)
def bn(v:Value):Nat:=match blk v with
 |some b=>b+1
 |none=>0
def elP(v:Value)(esz j off:Nat):Value:=match v with
 | .slice (some ⟨b,o,none⟩) _ _=>ptr b (o+j*esz+off)
 |_=>undef
def nnS(v:Value):Bool:=match v with
 | .slice (some ⟨_,_,none⟩) _ _=>true
 |_=>false
def lenS(v:Value):Nat:=match v with
 | .slice _ n _=>n
 |_=>0
def isS(v:Value):Bool:=match v with
 | .slice _ _ _=>true
 |_=>false
def rowA(H:AHeap)(esz:Nat)(v:Value)(j:Nat):Option (List Value):=match v with
 | .slice (some ⟨b,o,none⟩) _ _=>rangeA H b (o+j*esz) esz
 |_=>none
theorem nnS_inv{v:Value}(h:nnS v=true):∃b o n k,v=slc b o n k:=by
 unfold nnS at h
 split at h
 ·exact⟨_,_,_,_,rfl⟩
 ·cases h
theorem isS_inv{v:Value}(h:isS v=true):∃a n k,v=.slice a n k:=by
 unfold isS at h
 split at h
 ·exact⟨_,_,_,rfl⟩
 ·cases h
theorem a_lenv{v:Value}(h:isS v=true):asem (.len false v) H=some (.int .i64 (lenS v),H):=by
 obtain⟨a,n,k,rfl⟩:=isS_inv h;rfl
theorem a_iaddrv{v:Value}{esz:Nat}{kd:IntKind}{i:Int}(h:nnS v=true)(h1:0≤i)(h2:i<(lenS v:Int)):asem (.iaddr esz v (.int kd i)) H=some (elP v esz i.toNat 0,H):=by
 obtain⟨b,o,n,k,rfl⟩:=nnS_inv h
 rw[a_iaddr,if_pos ⟨h1,h2⟩];rfl
theorem a_faddrv{v:Value}{esz j off d:Nat}(h:nnS v=true):asem (.faddr d (elP v esz j off)) H=some (elP v esz j (off+d),H):=by
 obtain⟨b,o,n,k,rfl⟩:=nnS_inv h
 show asem (.faddr d (ptr b (o+j*esz+off))) H=_
 rw[a_faddr,Nat.add_assoc];rfl
theorem rowA_range{v:Value}{esz j:Nat}{r:List Value}(h:rowA H esz v j=some r):∃b o n k,v=slc b o n k∧r.length=esz∧∃own room z c e,H.get b=some (.cells own room z c e)∧o+j*esz+esz≤c.length∧r=(c.drop (o+j*esz)).take esz:=by
 unfold rowA at h
 split at h
 ·rename_i b o n k
  refine⟨b,o,n,k,rfl,?_⟩
  unfold rangeA at h
  split at h
  ·rename_i own room z c e hg
   split at h
   ·rename_i hl
    simp only[Option.some.injEq]at h;subst h
    exact⟨by rw[List.length_take,List.length_drop];omega,own,room,z,c,e,hg,hl,rfl⟩
   ·cases h
  ·cases h
 ·cases h
theorem a_load1v{v:Value}{esz j off:Nat}{r:List Value}(h:rowA H esz v j=some r)(ho:off<esz):asem (.load1 (elP v esz j off)) H=r[off]?.map fun x=>(x,H):=by
 obtain⟨b,o,n,k,rfl,h1,own,room,z,c,e,h2,h3,h4⟩:=rowA_range h
 show asem (.load1 (ptr b (o+j*esz+off))) H=_
 rw[a_load1,cellA_of h2,h4,List.getElem?_take_of_lt ho,List.getElem?_drop]
theorem a_loadnv{v:Value}{esz j off n:Nat}{r:List Value}(h:rowA H esz v j=some r)(ho:off+n≤esz):asem (.loadn n (elP v esz j off)) H=some (.agg ((r.drop off).take n).toArray,H):=by
 obtain⟨b,o,n',k,rfl,h1,own,room,z,c,e,h2,h3,h4⟩:=rowA_range h
 show asem (.loadn n (ptr b (o+j*esz+off))) H=_
 rw[a_loadn,rangeA_of h2,if_pos (by omega),h4,List.drop_take,List.take_take,List.drop_drop,Nat.min_eq_left (by omega)]
 rfl
theorem a_loadnvf{v:Value}{n j:Nat}{r:List Value}(h:rowA H n v j=some r):asem (.loadn n (elP v n j 0)) H=some (.agg r.toArray,H):=by
 obtain⟨_,_,_,_,_,hl,_⟩:=rowA_range h
 rw[a_loadnv h (by omega),List.drop_zero,List.take_of_length_le (by omega)]
theorem a_loadnvp{v:Value}{esz j off n:Nat}{r:List Value}(hne:n≠esz)(h:rowA H esz v j=some r)(ho:off+n≤esz):asem (.loadn n (elP v esz j off)) H=some (.agg ((r.drop off).take n).toArray,H):=a_loadnv h ho
theorem stD_callv{KF:List Value→AHeap→Prop}{tr:List TE}(g:FuncId)(first cap:Array Value)(xs:List Value)(d:D)(un:List Nat)(r:List (AOper×List Nat)):stD P ng (.callv (.func (.func g) first cap) xs) d un r fr tm H tr KF=callD P ng g (first.toList++xs++cap.toList) d un r fr tm H tr KF:=_root_.id rfl
theorem reads_el{v:Value}{esz j off:Nat}(h:nnS v=true):readsA (.load1 (elP v esz j off))=[bn v-1]:=by
 obtain⟨b,o,n',k,rfl⟩:=nnS_inv h;rfl
theorem readsn_el{v:Value}{esz j off n:Nat}(h:nnS v=true):readsA (.loadn n (elP v esz j off))=[bn v-1]:=by
 obtain⟨b,o,n',k,rfl⟩:=nnS_inv h;rfl
theorem rowA_get{esz:Nat}{v:Value}{j:Nat}(h:∀b,blk v=some b→H'.get b=H.get b):rowA H' esz v j=rowA H esz v j:=by
 unfold rowA
 split
 ·rename_i b o n k
  rw[rangeA_e,rangeA_e,h b rfl]
 ·rfl
theorem bn_lt{v:Value}{n b:Nat}(h:bn v≤n)(e:blk v=some b):b<n:=by
 unfold bn at h;rw[e]at h;exact h
theorem row_alloc{esz:Nat}{v:Value}{j:Nat}(o:AO)(h:bn v≤H.n):rowA (H.alloc o) esz v j=rowA H esz v j:=rowA_get fun b e=>g_old o (bn_lt h e)
theorem row_set{esz:Nat}{v:Value}{j b:Nat}(o:AO)(h:bn v≠b+1)(hb:b<H.n):rowA (H.set b o) esz v j=rowA H esz v j:=rowA_get fun x e=>g_sets o (by intro hx;subst hx;apply h;unfold bn;rw[e]) hb
structure Sl (H:AHeap) (esz:Nat) (v:Value) (rows:List (List Value)):Prop where
 sh:∃a k,v=.slice a rows.length k
 row:∀r∈rows,r.length=esz
 el:elemsA H esz v=some rows.flatten
theorem Sl.len{esz:Nat}{v:Value}{rows:List (List Value)}(h:Sl H esz v rows):lenS v=rows.length:=by
 obtain⟨a,k,rfl⟩:=h.sh;rfl
theorem Sl.is{esz:Nat}{v:Value}{rows:List (List Value)}(h:Sl H esz v rows):isS v=true:=by
 obtain⟨a,k,rfl⟩:=h.sh;rfl
theorem Sl.one{esz:Nat}{v:Value}{rows:List (List Value)}(h:Sl H esz v rows):v.oneCell'=true:=by
 obtain⟨a,k,rfl⟩:=h.sh;rfl
theorem Sl.nil(H:AHeap)(esz:Nat):Sl H esz (.slice none 0 0) []:=⟨⟨_,_,rfl⟩,by simp,rfl⟩
theorem flat_len{esz:Nat}:∀{rows:List (List Value)},(∀r∈rows,r.length=esz)→rows.flatten.length=rows.length*esz
 |[],_=>by simp
 |r::rows,h=>by
  have h1:=h r (by simp)
  have h2:=flat_len (rows:=rows) (fun x hx=>h x (by simp[hx]))
  rw[List.flatten_cons,List.length_append,h1,h2,List.length_cons,Nat.add_mul];omega
theorem flat_at{esz:Nat}:∀{rows:List (List Value)},(∀r∈rows,r.length=esz)→∀(i:Nat) (hi:i<rows.length),(rows.flatten.drop (i*esz)).take esz=rows[i]
 |r::rows,h,0,_=>by
  have h1:=h r (by simp)
  rw[Nat.zero_mul,List.drop_zero,List.flatten_cons,List.take_append_of_le_length (by omega),List.take_of_length_le (by omega)];rfl
 |r::rows,h,i+1,hi=>by
  have h1:=h r (by simp)
  have h2:=flat_at (rows:=rows) (fun x hx=>h x (by simp[hx])) i (by simpa using hi)
  rw[Nat.add_mul,Nat.one_mul,Nat.add_comm,←List.drop_drop,List.flatten_cons]
  rw[show(r++rows.flatten).drop esz=rows.flatten by rw[←h1,List.drop_left],h2]
  rfl
theorem Sl.at_{esz:Nat}{v:Value}{rows:List (List Value)}(h:Sl H esz v rows)(hz:0<esz){i:Nat}(hi:i<rows.length):nnS v=true∧rowA H esz v i=some rows[i]:=by
 have h2:=h.el
 have hfl:=flat_len h.row
 have hpos:0<rows.flatten.length:=by rw[hfl];exact Nat.mul_pos (by omega) hz
 obtain⟨a,k,rfl⟩:=h.sh
 match a,h2 with
 |none,h2=>simp only[elemsA,Option.some.injEq]at h2;rw[←h2]at hpos;simp at hpos
 |some ⟨b,o,some q⟩,h2=>
  simp only[elemsA]at h2
  rw[if_neg (by omega)]at h2;cases h2
 |some ⟨b,o,none⟩,h2=>
  refine⟨rfl,?_⟩
  simp only[elemsA]at h2
  simp only[rowA,rangeA]
  split at h2
  ·rename_i own room z c e hg
   split at h2
   ·rename_i hl
    have hm:(i+1)*esz≤rows.length*esz:=Nat.mul_le_mul_right esz hi
    rw[Nat.add_mul,Nat.one_mul]at hm
    rw[if_pos (by omega)]
    simp only[Option.some.injEq]at h2
    have:=flat_at h.row i hi
    rw[←h2,List.drop_take,List.take_take,List.drop_drop,Nat.min_eq_left (by omega)]at this
    rw[this]
   ·cases h2
  ·cases h2
theorem Sl.bn_le{esz:Nat}{v:Value}{rows:List (List Value)}(h:Sl H esz v rows)(hr:rows≠[])(hz:0<esz):bn v≤H.n:=by
 have hl:0<rows.length:=List.length_pos_iff.2 hr
 obtain⟨h1,h2⟩:=h.at_ hz hl
 obtain⟨b,o,n,k,rfl,_,own,room,z,c,e,hg,_⟩:=rowA_range h2
 exact AHeap.get_lt hg
theorem Sl.get'{esz:Nat}{v:Value}{rows:List (List Value)}(h:Sl H esz v rows)(k:∀b,blk v=some b→b<H.n→H'.get b=H.get b):Sl H' esz v rows:=by
 refine⟨h.sh,h.row,?_⟩
 have h2:=h.el
 obtain⟨a,c,rfl⟩:=h.sh
 match a,h2 with
 |none,h2=>exact h2
 |some ⟨b,o,none⟩,h2=>
  simp only[elemsA]at h2 ⊢
  cases hg:H.get b with
  |none=>rw[hg]at h2;cases h2
  |some ob=>rw[k b rfl (AHeap.get_lt hg)];exact h2
 |some ⟨b,o,some _⟩,h2=>simpa[elemsA]using h2
theorem Sl.keeps{esz:Nat}{v:Value}{rows:List (List Value)}(h:Sl H esz v rows)(k:Keeps H H'):Sl H' esz v rows:=h.get' fun b _ hb=>k.get b hb
theorem Sl.chg{esz:Nat}{v:Value}{rows:List (List Value)}{S:List Nat}(h:Sl H esz v rows)(k:Chg S H H')(hS:∀b,blk v=some b→b∉S):Sl H' esz v rows:=h.get' fun b e hb=>k.get b hb (hS b e)
theorem Sl.chg1{esz:Nat}{v:Value}{rows:List (List Value)}{r:Nat}(h:Sl H esz v rows)(k:Chg [r] H H')(hS:bn v≠r+1):Sl H' esz v rows:=h.get' fun b e hb=>Chg1.get k hb (by intro hx;subst hx;apply hS;unfold bn;rw[e])
theorem AP.sl{e esz:Nat}{v:Value}{n:Nat}{rows:List (List Value)}(h:AP H e esz v n rows.flatten)(hr:∀r∈rows,r.length=esz)(hn:n=rows.length):Sl H esz v rows:=by
 obtain⟨a,ha⟩:=h.shape
 exact⟨⟨a,n,by rw[←hn];exact ha⟩,hr,h.elems⟩
section
variable {KF:List Value→AHeap→Prop} {tr:List TE} (d:D) (r:List AOper) (un:List Nat) (rd:List (AOper×List Nat))
theorem st_app(e s b:Nat)(x y:Value):stR P ng (.app e s b x y) d r fr tm H KF=goR P ng (asem (.app e s b x y) H) d r fr tm KF:=st_of d r (by simp) (by simp) (by simp)
theorem st_apps(e b:Nat)(x y:Value):stR P ng (.apps e b x y) d r fr tm H KF=goR P ng (asem (.apps e b x y) H) d r fr tm KF:=st_of d r (by simp) (by simp) (by simp)
theorem sd_apps(e b:Nat)(x y:Value):stD P ng (.apps e b x y) d un rd fr tm H tr KF=goD P ng (.apps e b x y) (asem (.apps e b x y) H) d un rd fr tm H tr KF:=stD_of d un rd (by simp) (by simp) (by simp)
theorem st_iaddrp(s n:Nat)(x i:Value):stR P ng (.iaddrp s n x i) d r fr tm H KF=goR P ng (asem (.iaddrp s n x i) H) d r fr tm KF:=st_of d r (by simp) (by simp) (by simp)
theorem sd_iaddrp(s n:Nat)(x i:Value):stD P ng (.iaddrp s n x i) d un rd fr tm H tr KF=goD P ng (.iaddrp s n x i) (asem (.iaddrp s n x i) H) d un rd fr tm H tr KF:=stD_of d un rd (by simp) (by simp) (by simp)
theorem st_idxa(a:Bool)(s n:Nat)(x i:Value):stR P ng (.idxa a s n x i) d r fr tm H KF=goR P ng (asem (.idxa a s n x i) H) d r fr tm KF:=st_of d r (by simp) (by simp) (by simp)
theorem sd_idxa(a:Bool)(s n:Nat)(x i:Value):stD P ng (.idxa a s n x i) d un rd fr tm H tr KF=goD P ng (.idxa a s n x i) (asem (.idxa a s n x i) H) d un rd fr tm H tr KF:=stD_of d un rd (by simp) (by simp) (by simp)
theorem st_slarr(s n:Nat)(x:Value)(lo hi mx:Option Value):stR P ng (.slarr s n x lo hi mx) d r fr tm H KF=goR P ng (asem (.slarr s n x lo hi mx) H) d r fr tm KF:=st_of d r (by simp) (by simp) (by simp)
theorem sd_slarr(s n:Nat)(x:Value)(lo hi mx:Option Value):stD P ng (.slarr s n x lo hi mx) d un rd fr tm H tr KF=goD P ng (.slarr s n x lo hi mx) (asem (.slarr s n x lo hi mx) H) d un rd fr tm H tr KF:=stD_of d un rd (by simp) (by simp) (by simp)
theorem st_eqs(c:List Nat)(n:Bool)(x y:Value):stR P ng (.eqs c n x y) d r fr tm H KF=goR P ng (asem (.eqs c n x y) H) d r fr tm KF:=st_of d r (by simp) (by simp) (by simp)
theorem sd_eqs(c:List Nat)(n:Bool)(x y:Value):stD P ng (.eqs c n x y) d un rd fr tm H tr KF=goD P ng (.eqs c n x y) (asem (.eqs c n x y) H) d un rd fr tm H tr KF:=stD_of d un rd (by simp) (by simp) (by simp)
theorem st_mm(m:Bool)(x y:Value):stR P ng (.mm m x y) d r fr tm H KF=goR P ng (asem (.mm m x y) H) d r fr tm KF:=st_of d r (by simp) (by simp) (by simp)
theorem sd_mm(m:Bool)(x y:Value):stD P ng (.mm m x y) d un rd fr tm H tr KF=goD P ng (.mm m x y) (asem (.mm m x y) H) d un rd fr tm H tr KF:=stD_of d un rd (by simp) (by simp) (by simp)
theorem st_i2str(x:Value):stR P ng (.i2str x) d r fr tm H KF=goR P ng (asem (.i2str x) H) d r fr tm KF:=st_of d r (by simp) (by simp) (by simp)
theorem sd_i2str(x:Value):stD P ng (.i2str x) d un rd fr tm H tr KF=goD P ng (.i2str x) (asem (.i2str x) H) d un rd fr tm H tr KF:=stD_of d un rd (by simp) (by simp) (by simp)
theorem st_rng(x:Value):stR P ng (.rng x) d r fr tm H KF=goR P ng (asem (.rng x) H) d r fr tm KF:=st_of d r (by simp) (by simp) (by simp)
theorem st_next(x:Value):stR P ng (.next x) d r fr tm H KF=goR P ng (asem (.next x) H) d r fr tm KF:=st_of d r (by simp) (by simp) (by simp)
theorem st_copy(e:Nat)(x y:Value):stR P ng (.copy e x y) d r fr tm H KF=goR P ng (asem (.copy e x y) H) d r fr tm KF:=st_of d r (by simp) (by simp) (by simp)
theorem sd_copy(e:Nat)(x y:Value):stD P ng (.copy e x y) d un rd fr tm H tr KF=goD P ng (.copy e x y) (asem (.copy e x y) H) d un rd fr tm H tr KF:=stD_of d un rd (by simp) (by simp) (by simp)
theorem st_clr(e:Nat)(z:List Value)(x:Value):stR P ng (.clr e z x) d r fr tm H KF=goR P ng (asem (.clr e z x) H) d r fr tm KF:=st_of d r (by simp) (by simp) (by simp)
end
theorem a_mm(m:Bool)(k:IntKind)(a b:Int):asem (.mm m (.int k a) (.int k b)) H=some (.int k (if m then(if b>a then b else a)else(if b<a then b else a)),H):=by
 simp[asem]
theorem a_mmx(k:IntKind)(a b:Int):asem (.mm true (.int k a) (.int k b)) H=some (.int k (max a b),H):=by
 rw[a_mm];simp only[if_true];congr 3;split<;>omega
theorem a_mmn(k:IntKind)(a b:Int):asem (.mm false (.int k a) (.int k b)) H=some (.int k (min a b),H):=by
 rw[a_mm];simp only[Bool.false_eq_true,if_false];congr 3;split<;>omega
theorem a_iaddrp(esz n b o:Nat)(kd:IntKind)(i:Int):asem (.iaddrp esz n (ptr b o) (.int kd i)) H=if 0≤i∧i<(n:Int)then some (ptr b (o+i.toNat*esz),H)else none:=_root_.id rfl
theorem a_bslicee(e esz n:Nat)(z:List Value)(ps:List (Nat×Nat×Value)):asem (.bslice e esz n z ps) H=(fillA z ps).bind fun c=>if c.all Value.oneCell'=true∧c.length=n*esz then some (slc H.n 0 n n,H.alloc (.cells true false esz c e))else none:=by
 simp only[asem];cases fillA z ps<;>rfl
theorem fill_cons(c:List Value)(o n:Nat)(v:Value)(r:List (Nat×Nat×Value)):fillA c ((o,n,v)::r)=if v.cells.toList.length=n∧o+n≤c.length then fillA (c.take o++v.cells.toList++c.drop (o+n)) r else none:=by
 simp only[fillA]
theorem cells_int(k:IntKind)(n:Int):(Value.int k n).cells.toList=[.int k n]:=_root_.id rfl
theorem cells_bool(n:Bool):(Value.bool n).cells.toList=[.bool n]:=_root_.id rfl
theorem cells_str(n:ByteArray):(Value.string n).cells.toList=[.string n]:=_root_.id rfl
theorem cells_sl(a:Option Addr)(n k:Nat):(Value.slice a n k).cells.toList=[.slice a n k]:=_root_.id rfl
theorem cells_slc(b o n k:Nat):(slc b o n k).cells.toList=[slc b o n k]:=_root_.id rfl
theorem cells_ptr(b o:Nat):(ptr b o).cells.toList=[ptr b o]:=_root_.id rfl
theorem cells_pn(a:Option Addr):(Value.pointer a).cells.toList=[.pointer a]:=_root_.id rfl
theorem cells_isS{v:Value}(h:isS v=true):v.cells.toList=[v]:=by obtain⟨a,n,k,rfl⟩:=isS_inv h;rfl
theorem one_isS{v:Value}(h:isS v=true):v.oneCell'=true:=by obtain⟨a,n,k,rfl⟩:=isS_inv h;rfl
theorem resC(i n:Nat)(fr:List Value):resO [.cn n i] fr H=(celln n (fr.getD i undef) H):=by
 simp only[resO,resVs,RX.get]
 cases celln n (fr.getD i undef) H<;>rfl
theorem cellnp(n b o:Nat):celln n (ptr b o) H=(rangeA H b o n).map fun c=>.agg c.toArray:=_root_.id rfl
theorem cell1p(b o:Nat):cell1 (ptr b o) H=cellA H b o:=_root_.id rfl
theorem touch_load1(b o:Nat)(H:AHeap):touchA (.load1 (ptr b o)) H=[b]:=_root_.id rfl
theorem touch_loadn(n b o:Nat)(H:AHeap):touchA (.loadn n (ptr b o)) H=[b]:=_root_.id rfl
theorem touch_load1v{v:Value}{esz j off:Nat}(h:nnS v=true)(H:AHeap):touchA (.load1 (elP v esz j off)) H=[bn v-1]:=by
 show readsA _=_;exact reads_el h
theorem touch_loadnv{v:Value}{esz j off n:Nat}(h:nnS v=true)(H:AHeap):touchA (.loadn n (elP v esz j off)) H=[bn v-1]:=by
 show readsA _=_;exact readsn_el h
theorem keepsB_n(A B:AHeap):keepsB [] A B=True:=_root_.id rfl
theorem keepsB_c(b:Nat)(l:List Nat)(A B:AHeap):keepsB (b::l) A B=(B.get b=A.get b∧keepsB l A B):=_root_.id rfl
theorem olderB_n(A:AHeap):olderB [] A=True:=_root_.id rfl
theorem olderB_c(b:Nat)(l:List Nat)(A:AHeap):olderB (b::l) A=(b<A.n∧olderB l A):=_root_.id rfl
def ob1(k:Nat)(bs:List Nat)(A B:AHeap)(x:Option TE):Prop:=match x with
 |some t=>if k=1∧t.k=3 then olderB bs t.H∧keepsB bs t.H t.H' else if k=3∧(t.k=1∨t.k=2)then keepsB t.bs A B else True
 |none=>True
theorem obl_c(k:Nat)(bs:List Nat)(A B:AHeap)(tr:List TE)(i:Nat)(un:List Nat):oblA k bs A B tr (i::un)=(ob1 k bs A B tr[i]? ∧oblA k bs A B tr un):=_root_.id rfl
theorem ob1_0(bs:List Nat)(A B:AHeap)(x:Option TE):ob1 0 bs A B x=True:=by unfold ob1;split<;>simp
theorem ob1_2(bs:List Nat)(A B:AHeap)(x:Option TE):ob1 2 bs A B x=True:=by unfold ob1;split<;>simp
theorem ob1_s(k:Nat)(bs:List Nat)(A B:AHeap)(j:Nat)(cs:List Nat)(C D:AHeap):ob1 k bs A B (some ⟨j,cs,C,D⟩)=if k=1∧j=3 then olderB bs C∧keepsB bs C D else if k=3∧(j=1∨j=2)then keepsB cs A B else True:=_root_.id rfl
end
set_option linter.defProp false in
def A3s:=(And.intro (And.intro (And.intro (And.intro (And.intro (And.intro @cellA_e @rangeA_e) (And.intro @cellO_c (And.intro @rng_full @rng_part))) (And.intro (And.intro @a_store1e (And.intro @a_storene @st1O_c)) (And.intro @stn_full (And.intro @stn_part @a_load1v)))) (And.intro (And.intro (And.intro @a_loadnvf (And.intro @a_loadnvp @stD_callv)) (And.intro @cells_agg (And.intro @toList_arr @size_arr))) (And.intro (And.intro @g_new (And.intro @g_old @g_set)) (And.intro @g_sets (And.intro @set_new @set_old))))) (And.intro (And.intro (And.intro (And.intro @set_set @alloc_n) (And.intro @set_n (And.intro @lt_yes @le_yes))) (And.intro (And.intro @eqn_yes (And.intro @lti_yes @lei_yes)) (And.intro @lti_no (And.intro @lei_no @beqi_no)))) (And.intro (And.intro (And.intro @beqi_yes (And.intro @bnei_no @bnei_yes)) (And.intro @boolIs_t (And.intro @boolIs_f @a_lenv))) (And.intro (And.intro @a_iaddrv (And.intro @a_faddrv @row_alloc)) (And.intro @row_set (And.intro @st_app @st_apps)))))) (And.intro (And.intro (And.intro (And.intro (And.intro @sd_apps @sd_app) (And.intro @st_iaddrp (And.intro @sd_iaddrp @st_idxa))) (And.intro (And.intro @sd_idxa (And.intro @st_slarr @sd_slarr)) (And.intro @st_eqs (And.intro @sd_eqs @st_mm)))) (And.intro (And.intro (And.intro @sd_mm (And.intro @st_i2str @sd_i2str)) (And.intro @st_rng (And.intro @st_next @st_copy))) (And.intro (And.intro @sd_copy (And.intro @st_clr @a_mmx)) (And.intro @a_mmn (And.intro @a_iaddrp @a_bslicee))))) (And.intro (And.intro (And.intro (And.intro @cells_int (And.intro @cells_bool @cells_str)) (And.intro @cells_sl (And.intro @cells_slc @cells_ptr))) (And.intro (And.intro @cells_pn (And.intro @touch_load1 @touch_loadn)) (And.intro @touch_load1v (And.intro @touch_loadnv @keepsB_n)))) (And.intro (And.intro (And.intro @keepsB_c (And.intro @olderB_n @olderB_c)) (And.intro @obl_nil (And.intro @obl_c @ob1_0))) (And.intro (And.intro @ob1_2 (And.intro @ob1_s @bi_u)) (And.intro @resC (And.intro @cellnp @cell1p)))))))
set_option linter.defProp false in
def A3c:=(And.intro (And.intro (And.intro (And.intro @List.append_nil.{0} @List.nil_append.{0}) (And.intro @List.cons_append.{0} @decide_true)) (And.intro (And.intro @decide_false @List.drop_zero.{0}) (And.intro @Option.bind_some.{0,0} @List.toList_toArray.{0}))) (And.intro (And.intro (And.intro @implies_true.{1} @implies_true.{0}) (And.intro @not_true_eq_false @not_false_eq_true)) (And.intro (And.intro @and_false @Int.toNat_zero) (And.intro @bne_self_eq_false.{0} @Bool.not_not))))
set_option linter.defProp false in
def LN:=And.intro @List.length_cons.{0} (And.intro @List.length_nil.{0} (And.intro @alloc_n @set_n))
set_option linter.defProp false in
def P3:=And.intro ANs (And.intro A3s (And.intro ANc (And.intro A3c (And.intro (And.intro (And.intro (And.intro (And.intro @AOp.map.eq_1 (And.intro @AOp.map.eq_2 @AOp.map.eq_3)) (And.intro @AOp.map.eq_4 (And.intro @AOp.map.eq_5 @AOp.map.eq_6))) (And.intro (And.intro @AOp.map.eq_7 (And.intro @AOp.map.eq_8 @AOp.map.eq_9)) (And.intro (And.intro @AOp.map.eq_10 @AOp.map.eq_11) (And.intro @AOp.map.eq_12 @AOp.map.eq_13)))) (And.intro (And.intro (And.intro @AOp.map.eq_14 (And.intro @AOp.map.eq_15 @AOp.map.eq_16)) (And.intro @AOp.map.eq_17 (And.intro @AOp.map.eq_18 @AOp.map.eq_19))) (And.intro (And.intro @AOp.map.eq_20 (And.intro @AOp.map.eq_21 @AOp.map.eq_22)) (And.intro (And.intro @AOp.map.eq_23 @AOp.map.eq_24) (And.intro @AOp.map.eq_25 @AOp.map.eq_26))))) (And.intro (And.intro (And.intro (And.intro @AOp.map.eq_27 (And.intro @AOp.map.eq_28 @AOp.map.eq_29)) (And.intro @AOp.map.eq_30 (And.intro @AOp.map.eq_31 @AOp.map.eq_32))) (And.intro (And.intro @AOp.map.eq_33 (And.intro @AOp.map.eq_34 @AOp.map.eq_35)) (And.intro (And.intro @AOp.map.eq_36 @AOp.map.eq_37) (And.intro @AOp.map.eq_38 @AOp.map.eq_39)))) (And.intro (And.intro (And.intro @AOp.map.eq_40 (And.intro @AOp.map.eq_41 @AOp.map.eq_42)) (And.intro (And.intro @AOp.map.eq_43 @AOp.map.eq_44) (And.intro @AOp.map.eq_45 @AOp.map.eq_46))) (And.intro (And.intro @AOp.map.eq_47 (And.intro (And.intro @AOp.map.eq_48 (And.intro @AOp.map.eq_49 (And.intro @AOp.map.eq_50 (And.intro @AOp.map.eq_51 (And.intro @AOp.map.eq_52 (And.intro @AOp.map.eq_53 @AOp.map.eq_54)))))) (And.intro @List.take_nil.{0} @List.take_zero.{0}))) (And.intro (And.intro @List.take_succ_cons.{0} @List.drop_nil.{0}) (And.intro @List.drop_zero.{0} @List.drop_succ_cons.{0})))))))))
end Go.AM

namespace Go.AM
structure Th where
 P:AHeap→Prop
 F:List Nat
 lt:∀H,P H→∀b∈F,b<H.n
 st:∀H H',P H→H.n≤H'.n→(∀b∈F,H'.get b=H.get b)→P H'
section
variable {P:Program} {ng:Nat} {H:AHeap} {KF:List Value→AHeap→Prop} {fr tm:List Value} {tr:List TE} {Q:AQ}
theorem appG{d:D}{r:List AOper}{e esz bytes:Nat}{s x:Value}{n m:Nat}{c news:List Value}(h:AP H e esz s n c)(hx:∃a k,x=.slice a m k)(h1:elemsA H esz x=some news)(hm:news.length=m*esz)
 (hs:(n+m)*bytes≤140737488355328∧n+m≤140737488355328)
 (hk:∀v' H',AP H' e esz v' (n+m) (c++news)→Chg (blkL s) H H'→(blk v'=blk s∨blk v'=some H.n)→RW P ng r (d.frame v' fr) (d.temps v' tm) H' KF):goR P ng (asem (.app e esz bytes s x) H) d r fr tm KF:=by
 rw[←st_app];exact appR h hx h1 hm hs hk
theorem appGD{d:D}{r:List (AOper×List Nat)}{e esz bytes:Nat}{s x:Value}{n m:Nat}{c news:List Value}(h:AP H e esz s n c)(hx:∃a k,x=.slice a m k)(h1:elemsA H esz x=some news)(hm:news.length=m*esz)
 (hs:(n+m)*bytes≤140737488355328∧n+m≤140737488355328)
 (hk:∀v' H',AP H' e esz v' (n+m) (c++news)→Chg (blkL s) H H'→(blk v'=blk s∨blk v'=some H.n)→RD P ng r (d.frame v' fr) (d.temps v' tm) H' (tr++[⟨3,[],H,H'⟩]) KF):goD P ng (.app e esz bytes s x) (asem (.app e esz bytes s x) H) d [] r fr tm H tr KF:=by
 obtain⟨v',H',e1,e2,e3,e4⟩:=h.app (bytes:=bytes) hm hs
 obtain⟨a,k,rfl⟩:=hx
 exact⟨v',H',by simp only[asem,h1];exact e1,trivial,hk v' H' e2 e3 e4⟩
theorem AP.chg1{H H':AHeap}{e esz:Nat}{v:Value}{n:Nat}{c:List Value}{b:Nat}(h:AP H e esz v n c)(k:Chg [b] H H')(hb:Go.AM.bn v≠b+1):AP H' e esz v n c:=
 h.chg k (by intro z hz e;simp at e;subst e;apply hb;unfold Go.AM.bn;rw[mem_blkL.1 hz])
end
theorem elems_new{H:AHeap}{own room:Bool}{esz e n:Nat}{c:List Value}{b:Nat}(hb:b=H.n)(h:c.length=n*esz):elemsA (H.alloc (.cells own room esz c e)) esz (slc b 0 n n)=some c:=by
 subst hb;exact elems_own (AHeap.get_alloc_new H _) h
def chunks(esz:Nat):Nat→List Value→List (List Value)
 |0,_=>[]
 |n+1,c=>c.take esz::chunks esz n (c.drop esz)
theorem chunks_len(esz:Nat):∀(n:Nat) (c:List Value),(chunks esz n c).length=n
 |0,_=>rfl
 |n+1,c=>by simp[chunks,chunks_len esz n]
theorem chunks_flat(esz:Nat):∀(n:Nat) (c:List Value),(chunks esz n c).flatten=c.take (n*esz)
 |0,_=>by simp[chunks]
 |n+1,c=>by
  rw[chunks,List.flatten_cons,chunks_flat esz n,Nat.add_mul,Nat.one_mul,Nat.add_comm (n*esz) esz,List.take_add]
theorem chunks_mem(esz:Nat):∀(n:Nat) (c:List Value) (r:List Value),r∈chunks esz n c→∃i,i<n∧r=(c.drop (i*esz)).take esz
 |n+1,c,r,h=>by
  simp only[chunks,List.mem_cons]at h
  rcases h with rfl|h
  ·exact⟨0,by omega,by simp⟩
  ·obtain⟨i,hi,rfl⟩:=chunks_mem esz n _ r h
   exact⟨i+1,by omega,by rw[List.drop_drop,Nat.add_mul,Nat.one_mul,Nat.add_comm]⟩
theorem AR.rows{P:Program}{t e esz:Nat}{H:AHeap}{v:Value}(hu:P.underlying t=some (.slice e))(hz:P.cellsOf e=esz)(h:AR P H.get t [v]):∃rows,Sl H esz v rows∧∀r∈rows,AR P H.get e r:=by
 subst hz
 rcases h.slice_inv hu with h2|⟨x,hx,h2⟩|⟨b,n,k,c,u,h2,h3,h4,h5,h6,h7,h8⟩
 ·cases h2;exact⟨[],Sl.nil _ _,by simp⟩
 ·cases h2
  refine⟨[],⟨⟨_,_,rfl⟩,by simp,?_⟩,by simp⟩
  obtain⟨b,o,s⟩:=x
  cases s with
  |none=>simp at hx
  |some s=>simp[elemsA]
 ·cases h2
  have hnk:n*P.cellsOf e≤c.length:=by rw[h7];exact Nat.mul_le_mul_right _ h4
  refine⟨chunks (P.cellsOf e) n c,⟨⟨_,k,by rw[chunks_len];rfl⟩,?_,?_⟩,?_⟩
  ·intro r hr
   obtain⟨i,hi,rfl⟩:=chunks_mem _ _ _ _ hr
   have:(i+1)*P.cellsOf e≤n*P.cellsOf e:=Nat.mul_le_mul_right _ hi
   rw[Nat.add_mul,Nat.one_mul]at this
   rw[List.length_take,List.length_drop];omega
  ·rw[chunks_flat]
   simp only[elemsA,slc,h6]
   rw[if_pos (by omega),List.drop_zero]
  ·intro r hr
   obtain⟨i,hi,rfl⟩:=chunks_mem _ _ _ _ hr
   exact h8 i (by omega)
theorem list_choose{α β:Type}{f:β→α}{Q:β→Prop}:∀{l:List α},(∀x∈l,∃y,x=f y∧Q y)→∃m:List β,l=m.map f∧∀y∈m,Q y
 |[],_=>⟨[],rfl,by simp⟩
 |x::l,h=>by
  obtain⟨y,rfl,hy⟩:=h x (by simp)
  obtain⟨m,rfl,hm⟩:=list_choose (l:=l) (fun z hz=>h z (by simp[hz]))
  exact⟨y::m,rfl,by intro z hz;rcases List.mem_cons.1 hz with rfl|hz;exact hy;exact hm z hz⟩
end Go.AM

namespace Go.AM
def via(ρ:Nat→Option Nat)(σ:Sg):Sg:=fun b=>(ρ b).bind σ
theorem via_of{ρ:Nat→Option Nat}{σ:Sg}{b c:Nat}{i:BI}(h:ρ b=some c)(k:σ c=some i):via ρ σ b=some i:=by
 unfold via;rw[h];exact k
theorem via_inv{ρ:Nat→Option Nat}{σ:Sg}{b:Nat}{i:BI}(h:via ρ σ b=some i):∃c,ρ b=some c∧σ c=some i:=by
 unfold via at h
 cases hb:ρ b with
 |none=>rw[hb]at h;cases h
 |some c=>rw[hb]at h;exact⟨c,rfl,h⟩
inductive NV (ρ:Nat→Option Nat):Value→Value→Prop
 |bool (b:Bool):NV ρ (.bool b) (.bool b)
 |int (k:IntKind) (n:Int):NV ρ (.int k n) (.int k n)
 |string (s:ByteArray):NV ρ (.string s) (.string s)
 |nilPtr:NV ρ (.pointer none) (.pointer none)
 |ptr {b c o:Nat} (h:ρ b=some c):NV ρ (.pointer (some ⟨b,o,none⟩)) (.pointer (some ⟨c,o,none⟩))
 |nilSl:NV ρ (.slice none 0 0) (.slice none 0 0)
 |sl {b c o n k:Nat} (h:ρ b=some c):NV ρ (.slice (some ⟨b,o,none⟩) n k) (.slice (some ⟨c,o,none⟩) n k)
 |slz {x:Addr} (hx:x.spot.isSome=true):NV ρ (.slice (some x) 0 0) (.slice (some x) 0 0)
 |nilMap:NV ρ (.map none) (.map none)
 |map {b c:Nat} (h:ρ b=some c):NV ρ (.map (some b)) (.map (some c))
 |func (fn:Fn) (xs xs' ys ys':Array Value) (h1:xs.size=xs'.size) (h2:∀i (a:i<xs.size) (b:i<xs'.size),NV ρ xs[i] xs'[i])
  (h3:ys.size=ys'.size) (h4:∀i (a:i<ys.size) (b:i<ys'.size),NV ρ ys[i] ys'[i]):NV ρ (.func fn xs ys) (.func fn xs' ys')
 |nilFunc:NV ρ .nilFunc .nilFunc
 |iface (t:TypeId) {v v':Value} (h:NV ρ v v'):NV ρ (.iface t v) (.iface t v')
 |nilIface:NV ρ .nilIface .nilIface
 |agg (xs xs':Array Value) (h1:xs.size=xs'.size) (h2:∀i (a:i<xs.size) (b:i<xs'.size),NV ρ xs[i] xs'[i]):NV ρ (.agg xs) (.agg xs')
 |tuple (xs xs':Array Value) (h1:xs.size=xs'.size) (h2:∀i (a:i<xs.size) (b:i<xs'.size),NV ρ xs[i] xs'[i]):NV ρ (.tuple xs) (.tuple xs')
inductive NL (ρ:Nat→Option Nat):List Value→List Value→Prop
 |nil:NL ρ [] []
 |cons {v v':Value} {l l':List Value} (h:NV ρ v v') (t:NL ρ l l'):NL ρ (v::l) (v'::l')
theorem NV.via{ρ:Nat→Option Nat}{σ:Sg}{a b:Value}(h:NV ρ a b):∀{c:Value},VR σ b c→VR (AM.via ρ σ) a c:=by
 induction h with
 |bool b=>intro c k;cases k;exact .bool _
 |int k n=>intro c k;cases k;exact .int _ _
 |string s=>intro c k;cases k;exact .string _
 |nilPtr=>intro c k;cases k;exact .nilPtr
 |ptr e=>intro c k;cases k with|ptr e2=>exact .ptr (via_of e e2)
 |nilSl=>intro c k;cases k;exact .nilSl
 |sl e=>
  intro c k
  cases k with
  |sl e2 hn2 hk2=>exact .sl (via_of e e2) hn2 hk2
  |sl0 e2=>exact .sl0 (via_of e e2)
  |slz hx=>simp at hx
 |slz hx=>
  intro c k
  cases k with
  |sl e2 hn2 hk2=>simp at hx
  |sl0 e2=>exact .slz hx
  |slz _=>exact .slz hx
 |nilMap=>intro c k;cases k;exact .nilMap
 |map e=>intro c k;cases k with|map e2=>exact .map (via_of e e2)
 |func fn xs xs' ys ys' h1 _ h3 _ i2 i4=>
  intro c k
  cases k with
  |func _ _ zs _ us g1 g2 g3 g4=>exact .func fn xs zs ys us (by omega) (fun i a b=>i2 i a (by omega) (g2 i (by omega) b)) (by omega) (fun i a b=>i4 i a (by omega) (g4 i (by omega) b))
 |nilFunc=>intro c k;cases k;exact .nilFunc
 |iface t _ ih=>intro c k;cases k with|iface _ k=>exact .iface t (ih k)
 |nilIface=>intro c k;cases k;exact .nilIface
 |agg xs xs' h1 _ ih=>
  intro c k
  cases k with
  |agg _ zs g1 g2=>exact .agg xs zs (by omega) (fun i a b=>ih i a (by omega) (g2 i (by omega) b))
 |tuple xs xs' h1 _ ih=>
  intro c k
  cases k with
  |tuple _ zs g1 g2=>exact .tuple xs zs (by omega) (fun i a b=>ih i a (by omega) (g2 i (by omega) b))
theorem NL.via{ρ:Nat→Option Nat}{σ:Sg}{a b:List Value}(h:NL ρ a b):∀{c:List Value},VL σ b c→VL (AM.via ρ σ) a c:=by
 induction h with
 |nil=>intro c k;cases k;exact .nil
 |cons h _ ih=>intro c k;cases k with|cons k1 k2=>exact .cons (h.via k1) (ih k2)
theorem NL.length{ρ:Nat→Option Nat}{a b:List Value}(h:NL ρ a b):a.length=b.length:=by
 induction h with
 |nil=>rfl
 |cons _ _ ih=>simp[ih]
theorem NL.one{ρ:Nat→Option Nat}{a b:List Value}(h:NL ρ a b)(hb:∀v∈b,v.oneCell'=true):∀v∈a,v.oneCell'=true:=by
 induction h with
 |nil=>simp
 |cons h _ ih=>
  intro v hv
  rcases List.mem_cons.1 hv with rfl|hv
  ·have:=hb _ (List.mem_cons_self ..)
   cases h<;>first|exact this|rfl
  ·exact ih (fun v hv=>hb v (List.mem_cons_of_mem _ hv)) v hv
def AOr(ρ:Nat→Option Nat)(a b:AO):Prop:=match a with
 | .dead=>True
 | .cells own room esz c e=>∃own' c',b=.cells own' room esz c' e∧(own=true→own'=true)∧NL ρ c c'
 | .obj own o=>∃own',b=.obj own' o∧(own=true→own'=true)
 | .loop .. =>False
theorem AOr.own{ρ:Nat→Option Nat}{a b:AO}(h:AOr ρ a b)(ha:a.own=true):b.own=true:=by
 cases a with
 |dead=>cases ha
 |cells own room esz c e=>obtain⟨own',c',rfl,h1,_⟩:=h;exact h1 ha
 |obj own o=>obtain⟨own',rfl,h1⟩:=h;exact h1 ha
 |loop own st pe L=>exact h.elim
theorem AOr.live{ρ:Nat→Option Nat}{a b:AO}(h:AOr ρ a b)(ha:a.live=true):b.live=true:=by
 cases a with
 |dead=>cases ha
 |cells own room esz c e=>obtain⟨own',c',rfl,h1,_⟩:=h;rfl
 |obj own o=>obtain⟨own',rfl,h1⟩:=h;rfl
 |loop own st pe L=>exact h.elim
theorem AOr.or{ρ:Nat→Option Nat}{a b:AO}(h:AOr ρ a b){σ:Sg}{w:World}{i:BI}(k:OR σ w i b):OR (AM.via ρ σ) w i a:=by
 cases a with
 |dead=>trivial
 |cells own room esz c e=>
  obtain⟨own',c',rfl,h1,h2⟩:=h
  obtain⟨a1,a2,a3,a4,a9,d,fr,a5,a6,a7,a8⟩:=k
  have hl:=h2.length
  exact⟨by rw[hl];exact a1,a2,a3,by rw[hl];exact a4,h2.one a9,d,fr,a5,a6,by rw[hl];exact h2.via a7,fun ho=>by rw[hl];exact a8 (h1 ho)⟩
 |obj own o=>obtain⟨own',rfl,h1⟩:=h;exact k
 |loop own st pe L=>exact h.elim
variable {P:Program} {ng:Nat} {f:FuncId} {args:List Value} {H H' H'':AHeap} {v v'':Value}
def Stood(ng:Nat)(args:List Value)(H:AHeap)(v:Value):Prop:=∀(σ:Sg) (w:World) (args':List Value),HR ng σ H.get w→VL σ args args'→∃x,VR σ v x
theorem ARun.gc(h:ARun P ng f args H v H')(ρ:Nat→Option Nat)(hn:H.n≤H''.n)
 (r0:∀b,b<H.n→ρ b=some b) (r1:∀b c,ρ b=some c→b<H''.n∧(H.n≤b→H.n≤c)) (ri:∀b1 b2 c,ρ b1=some c→ρ b2=some c→b1=b2)
 (ro:∀b c o',ρ b=some c→H'.get c=some o'→(b=c∧b<H.n∧H.get b=some o'∧H''.get b=some o')∨∃o'',H''.get b=some o''∧AOr ρ o'' o')
 (rv:(v''=v∧Stood ng args H v)∨NV ρ v'' v):ARun P ng f args H v'' H'':=by
 obtain⟨h0,h1,h2⟩:=h
 refine⟨h0,hn,fun σ w args' hr ha=>?_⟩
 refine(h2 σ w args' hr ha).mono ?_
 rintro e w' ⟨v',σ',rfl,k1,k2,k3⟩
 have old:∀b i,σ b=some i→b<H.n:=fun b i hb=>by
  obtain⟨o,g,_⟩:=hr.obj b i hb
  exact AHeap.get_lt g
 have sub:σ.le (AM.via ρ σ'):=fun b i hb=>via_of (r0 b (old b i hb)) (k2.sub b i hb)
 have back:∀b i,b<H.n→σ' b=some i→σ b=some i:=fun b i hb hs=>by
  cases hsb:σ b with
  |none=>have:=(k2.new b i hsb hs).1.1;omega
  |some j=>have:=k2.sub b j hsb;rw[hs]at this;exact this.symm
 have meet_le:(meet σ' σ).le (AM.via ρ σ'):=fun b i hb=>by
  unfold meet at hb
  split at hb
  ·rename_i hs
   obtain⟨j,hj⟩:=Option.isSome_iff_exists.1 hs
   exact via_of (r0 b (old b j hj)) hb
  ·cases hb
 have obj:∀b i,AM.via ρ σ' b=some i→∃c o'' o',ρ b=some c∧σ' c=some i∧H''.get b=some o''∧H'.get c=some o'∧OR (AM.via ρ σ') w' i o''∧(o''.own=true→o'.own=true)∧(o''.live=true→o'.live=true):=by
  intro b i hb
  obtain⟨c,hc,hs⟩:=via_inv hb
  obtain⟨o',g1,g2⟩:=k1.obj c i hs
  rcases ro b c o' hc g1 with⟨rfl,hlt,e1,e2⟩|⟨o'',e1,e2⟩
  ·refine⟨b,o',o',hc,hs,e2,g1,?_,fun x=>x,fun x=>x⟩
   have hsb:=back b i hlt hs
   obtain⟨o2,f1,f2⟩:=hr.obj b i hsb
   rw[e1]at f1;cases f1
   exact(g2.meet f2).mono meet_le
  ·exact⟨c,o'',o',hc,hs,e1,g1,e2.or g2,e2.own,e2.live⟩
 refine⟨v',AM.via ρ σ',rfl,⟨?_,?_,?_,?_⟩,⟨sub,?_,?_,?_,k2.keep,k2.size,hn,k2.os,k2.tape,k2.output⟩,?_⟩
 ·intro b i hb
  obtain⟨c,o'',o',_,_,e1,_,e2,_⟩:=obj b i hb
  exact⟨o'',e1,e2⟩
 ·intro b1 b2 i1 i2 o1 o2 hne hb1 hb2 ho1 ho2 hw hl
  obtain⟨c1,p1,q1,a1,a2,a3,a4,_,a5,_⟩:=obj b1 i1 hb1
  obtain⟨c2,p2,q2,d1,d2,d3,d4,_,_,d6⟩:=obj b2 i2 hb2
  rw[ho1]at a3;cases a3
  rw[ho2]at d3;cases d3
  exact k1.inj c1 c2 i1 i2 q1 q2 (fun hc=>by subst hc;exact hne (ri b1 b2 c1 a1 d1)) a2 d2 a4 d4 (a5 hw) (d6 hl)
 ·intro b i hb
  obtain⟨c,_,hs⟩:=via_inv hb
  exact k1.lt c i hs
 ·intro g hg
  obtain⟨i,g1,g2,g3⟩:=hr.glob g hg
  exact⟨i,sub g i g1,g2,g3⟩
 ·intro b i hb hs
  obtain⟨c,hc,hs'⟩:=via_inv hs
  by_cases hlt:b<H.n
  ·have:=r0 b hlt
   rw[hc]at this;cases this
   rw[back b i hlt hs']at hb;cases hb
  ·have hcn:=(r1 b c hc).2 (by omega)
   have hsc:σ c=none:=by
    cases hsc:σ c with
    |none=>rfl
    |some j=>have:=old c j hsc;omega
   exact⟨⟨by omega,(r1 b c hc).1⟩,(k2.new c i hsc hs').2⟩
 ·intro b i o'' hb ho hw
  obtain⟨c,p1,q1,a1,a2,a3,a4,_,a5,_⟩:=obj b i (sub b i hb)
  rw[r0 b (old b i hb)]at a1;cases a1
  rw[ho]at a3;cases a3
  exact k2.own b i q1 hb a4 (a5 hw)
 ·intro b i o'' hb ho hw
  obtain⟨c,p1,q1,a1,a2,a3,a4,_,_,a6⟩:=obj b i (sub b i hb)
  rw[r0 b (old b i hb)]at a1;cases a1
  rw[ho]at a3;cases a3
  exact k2.live b i q1 hb a4 (a6 hw)
 ·rcases rv with⟨rfl,hst⟩|hrv
  ·obtain⟨x,hx⟩:=hst σ w args' hr ha
   exact(k3.meet hx).mono meet_le
  ·exact hrv.via k3
theorem NV.plain{ρ:Nat→Option Nat}{v:Value}(h:plain1 v=true):NV ρ v v:=by
 unfold plain1 at h
 split at h<;>first|constructor|cases h
theorem NL.plain{ρ:Nat→Option Nat}:∀{l:List Value},l.all plain1=true→NL ρ l l
 |[],_=>.nil
 |v::l,h=>by
  simp only[List.all_cons,Bool.and_eq_true]at h
  exact .cons (NV.plain h.1) (NL.plain h.2)
theorem NL.get{ρ:Nat→Option Nat}{l l':List Value}(h:NL ρ l l'):∀(i:Nat) (a:i<l.length) (b:i<l'.length),NV ρ l[i] l'[i]:=by
 induction h with
 |nil=>intro i a;simp at a
 |cons h _ ih=>
  intro i a b
  cases i with
  |zero=>exact h
  |succ i=>exact ih i (by simpa using a) (by simpa using b)
theorem NV.agg_of{ρ:Nat→Option Nat}{l l':List Value}(h:NL ρ l l'):NV ρ (.agg l.toArray) (.agg l'.toArray):=
 .agg _ _ (by simpa using h.length) (fun i a b=>by simpa using h.get i (by simpa using a) (by simpa using b))
theorem NV.tuple_of{ρ:Nat→Option Nat}{l l':List Value}(h:NL ρ l l'):NV ρ (.tuple l.toArray) (.tuple l'.toArray):=
 .tuple _ _ (by simpa using h.length) (fun i a b=>by simpa using h.get i (by simpa using a) (by simpa using b))
def rho(n:Nat)(bs:List Nat):Nat→Option Nat:=fun b=>if b<n then some b else bs[b-n]?
theorem rho_old{n:Nat}{bs:List Nat}{b:Nat}(h:b<n):rho n bs b=some b:=by unfold rho;rw[if_pos h]
theorem ARun.gc0(h:ARun P ng f args H v H')(k:Keeps H H')(hv:Stood ng args H v∨NV (rho H.n []) v v):ARun P ng f args H v H:=by
 refine h.gc (rho H.n []) (Nat.le_refl _) (fun b hb=>rho_old hb) ?_ ?_ ?_ ?_
 ·intro b c hb
  unfold rho at hb
  split at hb
  ·cases hb;exact⟨by assumption,by omega⟩
  ·simp at hb
 ·intro b1 b2 c h1 h2
  unfold rho at h1 h2
  split at h1<;>split at h2<;>simp_all
 ·intro b c o' hb ho
  unfold rho at hb
  split at hb
  ·rename_i hlt
   cases hb
   have:=k.get b hlt
   rw[ho]at this
   exact .inl ⟨rfl,hlt,this.symm,this.symm⟩
  ·simp at hb
 ·rcases hv with hv|hv
  ·exact .inl ⟨rfl,hv⟩
  ·exact .inr hv
section
variable {KF:List Value→AHeap→Prop} {fr tm:List Value} {tr:List TE} {K:AHeap}
end
theorem gcb{P:Program}{ng:Nat}{f:FuncId}{xs:List Value}{H:AHeap}{b:Bool}(h:∃w H',ARun P ng f xs H w H'∧w=.bool b∧Keeps H H'):∃w H',ARun P ng f xs H w H'∧w=.bool b∧H'=H:=by
 obtain⟨_,_,a,rfl,k⟩:=h
 exact⟨_,_,a.gc0 k (.inr (.bool _)),rfl,rfl⟩
end Go.AM

namespace Go.AM
def WR(H:AHeap)(e esz:Nat)(v:Value)(n:Nat)(c:List Value):Prop:=
 (v=.slice none 0 0∧n=0∧c=[])∨∃b k room d,v=slc b 0 n k∧n≤k∧d.length=k*esz∧d.take (n*esz)=c∧H.get b=some (.cells true room esz d e)
section
variable {H H':AHeap} {e esz:Nat} {v:Value} {n:Nat} {c:List Value}
theorem AP.wr(h:AP H e esz v n c):WR H e esz v n c:=by
 rcases h with h|⟨b,room,rfl,h1,h2⟩
 ·exact .inl h
 ·exact .inr ⟨b,n,room,c,rfl,Nat.le_refl _,h1,by rw[←h1,List.take_length],h2⟩
theorem WR.elems(h:WR H e esz v n c):elemsA H esz v=some c:=by
 rcases h with⟨rfl,rfl,rfl⟩|⟨b,k,room,d,rfl,h1,h2,rfl,h4⟩
 ·rfl
 ·have:=Nat.mul_le_mul_right esz h1
  simp only[elemsA,slc,h4]
  rw[if_pos (by omega),List.drop_zero]
theorem WR.shape(h:WR H e esz v n c):∃a k,v=.slice a n k:=by
 rcases h with⟨rfl,rfl,rfl⟩|⟨b,k,room,d,rfl,h1,h2,h3,h4⟩
 ·exact⟨_,_,rfl⟩
 ·exact⟨_,_,rfl⟩
theorem WR.is(h:WR H e esz v n c):isS v=true:=by obtain⟨a,k,rfl⟩:=h.shape;rfl
theorem WR.lt(h:WR H e esz v n c){b:Nat}(hb:blk v=some b):b<H.n:=by
 rcases h with⟨rfl,rfl,rfl⟩|⟨b',k,room,d,rfl,h1,h2,h3,h4⟩
 ·cases hb
 ·cases hb;exact AHeap.get_lt h4
theorem WR.chg{S:List Nat}(h:WR H e esz v n c)(k:Chg S H H')(hS:∀x∈blkL v,x∉S):WR H' e esz v n c:=by
 rcases h with h|⟨b,m,room,d,rfl,h1,h2,h3,h4⟩
 ·exact .inl h
 ·exact .inr ⟨b,m,room,d,rfl,h1,h2,h3,k.at_ h4 (hS b (mem_blkL.2 rfl))⟩
theorem WR.keeps(h:WR H e esz v n c)(k:Keeps H H'):WR H' e esz v n c:=h.chg (k.chg []) (by simp)
theorem WR.sl{rows:List (List Value)}(h:WR H e esz v n rows.flatten)(hr:∀r∈rows,r.length=esz)(hn:n=rows.length):Sl H esz v rows:=by
 obtain⟨a,k,rfl⟩:=h.shape
 exact⟨⟨a,k,by rw[hn]⟩,hr,h.elems⟩
theorem WR.app{bytes m:Nat}{news:List Value}(h:WR H e esz v n c)(hm:news.length=m*esz)(hs:(n+m)*bytes≤140737488355328∧n+m≤140737488355328):
 ∃v' H',appA H e esz bytes v m news=some (v',H')∧WR H' e esz v' (n+m) (c++news)∧Chg (blkL v) H H'∧(blk v'=blk v∨blk v'=some H.n):=by
 rcases h with⟨rfl,rfl,rfl⟩|⟨b,k,room,d,rfl,h1,h2,h3,h4⟩
 ·obtain⟨v',H',a,b,d⟩:=AP.app (H:=H) (e:=e) (esz:=esz) (v:=.slice none 0 0) (n:=0) (c:=[]) (.inl ⟨rfl,rfl,rfl⟩) hm hs
  exact⟨v',H',a,b.wr,d⟩
 ·simp only[appA,slc]
  by_cases hm0:m=0
  ·subst hm0
   have:news=[]:=by rw[←List.length_eq_zero_iff];omega
   subst this
   rw[if_pos rfl]
   exact⟨_,_,rfl,.inr ⟨b,k,room,d,rfl,h1,h2,by simpa using h3,h4⟩,Chg.refl _ _,.inl rfl⟩
  ·have hle:=Nat.mul_le_mul_right esz h1
   have hc:c.length=n*esz:=by rw[←h3,List.length_take,h2];omega
   have hnm:(n+m)*esz=n*esz+m*esz:=Nat.add_mul _ _ _
   rw[if_neg hm0,if_pos hs]
   simp only[h4,true_and]
   rw[if_pos (show 0+k*esz≤d.length by omega)]
   by_cases hk:n+m≤k
   ·have hle2:=Nat.mul_le_mul_right esz hk
    rw[if_pos hk]
    simp only[if_true]
    refine⟨_,_,rfl,.inr ⟨b,k,room,_,rfl,hk,?_,?_,AHeap.get_set_same h4 _⟩,Chg.set H (AHeap.get_lt h4) _,.inl rfl⟩
    ·rw[List.length_append,List.length_append,List.length_take,List.length_drop,hm];omega
    ·rw[Nat.zero_add,h3,List.take_append_of_le_length (by rw[List.length_append,hc,hm];omega),List.take_of_length_le (by rw[List.length_append,hc,hm];omega)]
   ·rw[if_neg hk,List.drop_zero,h3]
    have hlen:(c++news).length=(n+m)*esz:=by rw[List.length_append,hc,hm,Nat.add_mul]
    split
    ·exact⟨_,_,rfl,.inr ⟨H.n,n+m,true,_,rfl,Nat.le_refl _,hlen,by rw[←hlen,List.take_length],AHeap.get_alloc_new H _⟩,(Chg.refl _ _).alloc _,.inr rfl⟩
    ·exact⟨_,_,rfl,.inr ⟨H.n,n+m,true,_,rfl,Nat.le_refl _,hlen,by rw[←hlen,List.take_length],AHeap.get_alloc_new (H.set b .dead) _⟩,(Chg.set H (AHeap.get_lt h4) _).alloc _,.inr rfl⟩
end
section
variable {P:Program} {ng:Nat} {H:AHeap} {KF:List Value→AHeap→Prop} {fr tm:List Value} {tr:List TE} {e esz:Nat} {v:Value} {n:Nat} {c:List Value}
theorem WR.appR{d:D}{r:List AOper}{bytes:Nat}{x:Value}{m:Nat}{news:List Value}(h:WR H e esz v n c)(hx:∃a k,x=.slice a m k)(h1:elemsA H esz x=some news)(hm:news.length=m*esz)
 (hs:(n+m)*bytes≤140737488355328∧n+m≤140737488355328)
 (hk:∀v' H',WR H' e esz v' (n+m) (c++news)→Chg (blkL v) H H'→(blk v'=blk v∨blk v'=some H.n)→RW P ng r (d.frame v' fr) (d.temps v' tm) H' KF):goR P ng (asem (.app e esz bytes v x) H) d r fr tm KF:=by
 obtain⟨v',H',e1,e2,e3,e4⟩:=h.app (bytes:=bytes) hm hs
 obtain⟨a,k,rfl⟩:=hx
 refine⟨v',H',?_,hk v' H' e2 e3 e4⟩
 simp only[asem,h1];exact e1
end
end Go.AM

namespace Go.AM
def cpre:Nat→ACode→ACode
 |0,_=>.skip
 |1,.seq a _=>a
 |n+2,.seq a b=>.seq a (cpre (n+1) b)
 |_+1,c=>c
def cpost:Nat→ACode→ACode
 |0,c=>c
 |n+1,.seq _ b=>cpost n b
 |_+1,_=>.skip
def cok:Nat→ACode→Bool
 |0,_=>false
 |1,.seq _ _=>true
 |n+2,.seq _ b=>cok (n+1) b
 |_+1,_=>false
variable {P:Program} {ng:Nat} {H:AHeap} {Q:AQ} {fr:List Value}
theorem andThen2(Q:AQ)(K K':List Value→AHeap→Prop):(Q.andThen K).andThen K'=Q.andThen K':=by
 funext e fr H
 cases e<;>rfl
theorem W_pp:∀(n:Nat) (c:ACode) (Q:AQ) (fr:List Value) (H:AHeap),cok n c=true→W P ng c Q fr H=W P ng (cpre n c) (Q.andThen (W P ng (cpost n c) Q)) fr H
 |0,c,Q,fr,H,h=>by simp[cok]at h
 |1,c,Q,fr,H,h=>by
  cases c<;>simp[cok]at h
  rfl
 |n+2,c,Q,fr,H,h=>by
  cases c<;>simp[cok]at h
  rename_i a b
  simp only[cpre,cpost,W_seq]
  rw[andThen2]
  congr 1
  funext e fr H
  cases e
  ·exact W_pp (n+1) b Q fr H h
  all_goals rfl
theorem W_part{c:ACode}(n:Nat)(M:List Value→AHeap→Prop)(hok:cok n c=true)
 (h1:∀Q':AQ,(∀fr H,M fr H→Q' .normal fr H)→(∀i fr H,Q (.exit i) fr H→Q' (.exit i) fr H)→(∀fr H,Q .ret fr H→Q' .ret fr H)→W P ng (cpre n c) Q' fr H)
 (h2:∀fr H,M fr H→W P ng (cpost n c) Q fr H):W P ng c Q fr H:=by
 rw[W_pp n c Q fr H hok]
 exact h1 _ (fun fr H h=>h2 fr H h) (fun _ _ _ h=>h) (fun _ _ h=>h)
end Go.AM

namespace Go.AM
section
variable {P:Program} {ng:Nat} {H:AHeap} {Q:AQ} {fr tm:List Value}
theorem str_size(l:List UInt8):(⟨l.toArray⟩:ByteArray).size=l.length:=by simp[ByteArray.size]
theorem st_callvy(b:Nat)(xs:List Value)(d:D)(r:List AOper)(KF:List Value→AHeap→Prop):stR P ng (.callv (.chan (some b)) xs) d r fr tm H KF=∃v H',AYield P ng b xs H v H'∧RW P ng r (d.frame v fr) (d.temps v tm) H' KF:=_root_.id rfl
theorem yieldK{b:Nat}{xs:List Value}{R K:Value→AHeap→Prop}(h:∃v H',AYield P ng b xs H v H'∧R v H')(k:∀v H',R v H'→K v H'):∃v H',AYield P ng b xs H v H'∧K v H':=by
 obtain⟨v,H',h1,h2⟩:=h;exact⟨v,H',h1,k v H' h2⟩
end
end Go.AM

namespace Go.AM.Fd
open Nat (reduceAdd reduceEqDiff reduceLT reduceLeDiff reduceMul reduceSub)
open Go.Proofs Go.AM.F
def decB(l:List UInt8)(p:Nat):Nat×Nat:=Utf8.decode ⟨l.toArray⟩ p
theorem decB_pos{l:List UInt8}{p:Nat}:1≤(decB l p).2 :=by
 unfold decB Utf8.decode
 repeat' split
 all_goals (first|omega|(simp only[];repeat' split))
 all_goals first|omega|(dsimp only[];repeat' split)
 all_goals omega
def runs(l:List UInt8):Nat→Nat→List (Nat×Int)
 |0,_=>[]
 |k+1,p=>if p<l.length then(p,((decB l p).1 :Int))::runs l k (p+(decB l p).2)else[]
theorem runs_more{l:List UInt8}:∀{k p:Nat},l.length-p≤k→runs l k p=runs l (l.length-p) p
 |0,p,h=>by rw[show l.length-p=0 by omega]
 |k+1,p,h=>by
  by_cases hp:p<l.length
  ·obtain⟨m,hm⟩:∃m,l.length-p=m+1:=⟨l.length-p-1,by omega⟩
   have h1:=decB_pos (l:=l) (p:=p)
   rw[hm]
   simp only[runs,if_pos hp]
   rw[runs_more (k:=k) (by omega),runs_more (k:=m) (by omega)]
  ·rw[show l.length-p=0 by omega]
   simp[runs,hp]
def runF(l:List UInt8)(p:Nat):List (Nat×Int):=runs l (l.length-p) p
theorem runF_step{l:List UInt8}{p:Nat}(h:p<l.length):runF l p=(p,((decB l p).1 :Int))::runF l (p+(decB l p).2):=by
 obtain⟨m,hm⟩:∃m,l.length-p=m+1:=⟨l.length-p-1,by omega⟩
 have h1:=decB_pos (l:=l) (p:=p)
 unfold runF
 rw[hm]
 simp only[runs,if_pos h]
 rw[runs_more (k:=m) (by omega)]
theorem runF_end{l:List UInt8}{p:Nat}(h:¬p<l.length):runF l p=[]:=by
 unfold runF
 rw[show l.length-p=0 by omega]
 rfl
theorem a_rngS{H:AHeap}(l:List UInt8):asem (.rng (.string ⟨l.toArray⟩)) H=some (ptr H.n 0,H.alloc (.obj true (.stringIter ⟨l.toArray⟩ 0))):=rfl
theorem a_nextY{H:AHeap}{b p:Nat}{l:List UInt8}(hg:H.get b=some (.obj true (.stringIter ⟨l.toArray⟩ p)))(h:p<l.length):
 asem (.next (ptr b 0)) H=some (.tuple #[.bool true,.int .i64 (p:Int),.int .i32 ((decB l p).1 :Int)],H.set b (.obj true (.stringIter ⟨l.toArray⟩ (p+(decB l p).2)))):=by
 simp only[asem,ptr,hg,str_size]
 rw[if_pos h]
 rfl
theorem a_nextN{H:AHeap}{b p:Nat}{l:List UInt8}(hg:H.get b=some (.obj true (.stringIter ⟨l.toArray⟩ p)))(h:¬p<l.length):asem (.next (ptr b 0)) H=some (.tuple #[.bool false],H):=by
 simp only[asem,ptr,hg,str_size]
 rw[if_neg h]
def sgn(r:Int):Bool:=decide (33≤r)&&(decide (r<127)||decide (160<r))&&r != 58&&r != 35&&r != 43&&r != 45&&r != 65533
theorem t122(H:AHeap)(r:Int):∃w H',ARun Tryz.prog 0 122 [.int .i32 r] H w H'∧w=.bool (sgn r)∧H'=H:=by
 refine walk2 f122_ok f122_n ?_
 intro Q hq1 hq2
 by_cases h1:r<33
 ·simp(disch:=first|assumption|omega)only[f122,W_block,P3,seval,initFr,clsA]
  exact hq2 _ _ ⟨_,rfl,by simp[sgn,tupV,show¬33≤r by omega],rfl⟩
 have h1':33≤r:=by omega
 by_cases h2:r=58
 ·subst h2;simp(disch:=first|assumption|omega)only[f122,W_block,P3,seval,initFr,clsA];exact hq2 _ _ ⟨_,rfl,rfl,rfl⟩
 by_cases h3:r=35
 ·subst h3;simp(disch:=first|assumption|omega)only[f122,W_block,P3,seval,initFr,clsA];exact hq2 _ _ ⟨_,rfl,rfl,rfl⟩
 by_cases h4:r=43
 ·subst h4;simp(disch:=first|assumption|omega)only[f122,W_block,P3,seval,initFr,clsA];exact hq2 _ _ ⟨_,rfl,rfl,rfl⟩
 by_cases h5:r=45
 ·subst h5;simp(disch:=first|assumption|omega)only[f122,W_block,P3,seval,initFr,clsA];exact hq2 _ _ ⟨_,rfl,rfl,rfl⟩
 by_cases h6:r=65533
 ·subst h6;simp(disch:=first|assumption|omega)only[f122,W_block,P3,seval,initFr,clsA];exact hq2 _ _ ⟨_,rfl,rfl,rfl⟩
 by_cases h7:127≤r
 ·by_cases h8:r≤160
  ·simp(disch:=first|assumption|omega)only[f122,W_block,P3,seval,initFr,clsA]
   exact hq2 _ _ ⟨_,rfl,by simp[sgn,tupV,h1',h2,h3,h4,h5,h6,show¬r<127 by omega,show¬160<r by omega],rfl⟩
  ·simp(disch:=first|assumption|omega)only[f122,W_block,P3,seval,initFr,clsA]
   exact hq2 _ _ ⟨_,rfl,by simp[sgn,tupV,h1',h2,h3,h4,h5,h6,show¬r<127 by omega,show 160<r by omega],rfl⟩
 ·simp(disch:=first|assumption|omega)only[f122,W_block,P3,seval,initFr,clsA]
  exact hq2 _ _ ⟨_,rfl,by simp[sgn,tupV,h1',h2,h3,h4,h5,h6,show r<127 by omega],rfl⟩
def rightB(l:List UInt8):Bool:=(runF l 0).all (fun x=>sgn x.2)&&decide (1≤(runF l 0).length)&&decide ((runF l 0).length≤16)
theorem t93(H:AHeap)(l:List UInt8)(hl:l.length≤9223372036854775807):∃w H',ARun Tryz.prog 0 93 [.string ⟨l.toArray⟩] H w H'∧w=.bool (rightB l)∧H'=H:=by
 suffices h:∃w H',ARun Tryz.prog 0 93 [.string ⟨l.toArray⟩] H w H'∧w=.bool (rightB l)∧Keeps H H' by
  obtain⟨_,_,a,rfl,k⟩:=h
  exact⟨_,_,a.gc0 k (.inr (.bool _)),rfl,rfl⟩
 refine walk2 f93_ok f93_n ?_
 intro Q hq1 hq2
 simp(disch:=first|assumption|omega)only[f93,P3,seval,initFr,clsA,a_rngS]
 rw[W_block]
 refine W_loop2 (fun k fr K=>∃p n x1 x3 x5 x6 x7,fr=[.string ⟨l.toArray⟩,x1,.int .i64 ((n:Nat):Int),x3,ptr H.n 0,x5,x6,x7]∧K.get H.n=some (.obj true (.stringIter ⟨l.toArray⟩ p))∧Keeps H K∧
  rightB l=((runF l p).all (fun x=>sgn x.2)&&decide (1≤n+(runF l p).length)&&decide (n+(runF l p).length≤16))∧n≤p∧k=l.length-p) l.length
  ⟨0,0,_,_,_,_,_,rfl,AHeap.get_alloc_new _ _,(Keeps.refl H).alloc _,by simp[rightB],Nat.le_refl _,rfl⟩ ?_
 rintro Q' k fr K ⟨p,n,x1,x3,x5,x6,x7,rfl,hg,hk,hr,hnp,rfl⟩ hn hx hret
 by_cases hp:p<l.length
 ·have hstep:=runF_step hp
  have hpos:=decB_pos (l:=l) (p:=p)
  simp(disch:=first|assumption|omega)only[W_block,P3,seval,initFr,clsA,a_nextY hg hp]
  refine callK (t122 _ _) ?_
  rintro _ K2 ⟨rfl,rfl⟩
  cases hs:sgn ((decB l p).1 :Int)with
  |false=>
   simp(disch:=first|assumption|omega)only[W_block,P3,seval,initFr,clsA]
   refine hret _ _ (hq2 _ _ ⟨_,rfl,?_,?_⟩)
   ·rw[hr,hstep];simp[hs];rfl
   ·exact hk.set (Nat.le_refl _) (AHeap.get_lt hg) _
  |true=>
   have hw:IntKind.i64.wrap ((n:Int)+1)=((n+1:Nat):Int):=by rw[wrap_i64 (by omega) (by omega)];simp
   simp(disch:=first|assumption|omega)only[W_block,P3,seval,initFr,clsA,hw]
   refine hn _ _ _ ⟨p+(decB l p).2,n+1,_,_,_,_,_,rfl,AHeap.get_set_same hg _,hk.set (Nat.le_refl _) (AHeap.get_lt hg) _,?_,by omega,rfl⟩ (by omega)
   rw[hr,hstep]
   simp only[List.all_cons,hs,Bool.true_and,List.length_cons,show n+((runF l (p+(decB l p).2)).length+1)=n+1+(runF l (p+(decB l p).2)).length by omega]
 ·have hend:=runF_end hp
  simp(disch:=first|assumption|omega)only[W_block,P3,seval,initFr,clsA,a_nextN hg hp]
  refine hx 0 _ _ ?_
  rw[hend]at hr
  simp only[List.all_nil,Bool.true_and,List.length_nil,Nat.add_zero]at hr
  by_cases h1:1≤n
  ·have h1':(1:Int)≤(n:Int):=by omega
   simp(disch:=first|assumption|omega)only[W_block,P3,seval,initFr,clsA]
   refine hq2 _ _ ⟨_,rfl,?_,hk⟩
   rw[hr]
   simp only[tupV,List.getD_cons_succ,List.getD_cons_zero,h1,decide_true,Bool.true_and]
   congr 1
   rw[decide_eq_decide];omega
  ·have h1':¬(1:Int)≤(n:Int):=by omega
   simp(disch:=first|assumption|omega)only[W_block,P3,seval,initFr,clsA]
   refine hq2 _ _ ⟨_,rfl,?_,hk⟩
   rw[hr]
   simp only[tupV,List.getD_cons_succ,List.getD_cons_zero,h1,decide_false,Bool.false_and]
end Go.AM.Fd

namespace Go.AM.Fd
open Go.Proofs Go.AM.F
def tRow(t:List UInt8):List Value:=[.string ⟨t.toArray⟩]
def TL(H:AHeap)(v:Value)(ts:List (List UInt8)):Prop:=Sl H 1 v (ts.map tRow)
theorem TL.len{H:AHeap}{v:Value}{ts:List (List UInt8)}(h:TL H v ts):lenS v=ts.length:=by
 have:=Sl.len h;simpa using this
theorem TL.at_{H:AHeap}{v:Value}{ts:List (List UInt8)}(h:TL H v ts){i:Nat}(hi:i<ts.length):nnS v=true∧rowA H 1 v i=some (tRow (ts.getD i [])):=by
 have:=Sl.at_ h (by omega) (i:=i) (by simpa using hi)
 refine⟨this.1,?_⟩
 rw[this.2]
 simp[List.getD,List.getElem?_eq_getElem hi]
theorem TL.keeps{H K:AHeap}{v:Value}{ts:List (List UInt8)}(h:TL H v ts)(k:Keeps H K):TL K v ts:=Sl.keeps h k
end Go.AM.Fd

namespace Go.AM
section
variable {P:Program} {ng:Nat} {H:AHeap} {Q:AQ} {fr tm:List Value} {KF:List Value→AHeap→Prop} {tr:List TE}
variable (d:D) (r:List AOper) (un:List Nat) (rd:List (AOper×List Nat))
theorem st_mkmap:stR P ng (.mkmap) d r fr tm H KF=goR P ng (asem .mkmap H) d r fr tm KF:=st_of d r (by simp) (by simp) (by simp)
theorem st_mget(k:TypeDesc)(z:Value)(ok:Bool)(x y:Value):stR P ng (.mget k z ok x y) d r fr tm H KF=goR P ng (asem (.mget k z ok x y) H) d r fr tm KF:=st_of d r (by simp) (by simp) (by simp)
theorem st_mset(k:TypeDesc)(x y v:Value):stR P ng (.mset k x y v) d r fr tm H KF=goR P ng (asem (.mset k x y v) H) d r fr tm KF:=st_of d r (by simp) (by simp) (by simp)
theorem st_appz(e esz b:Nat)(z:List Value)(s x:Value):stR P ng (.appz e esz b z s x) d r fr tm H KF=goR P ng (asem (.appz e esz b z s x) H) d r fr tm KF:=st_of d r (by simp) (by simp) (by simp)
theorem st_cap(x:Value):stR P ng (.cap x) d r fr tm H KF=goR P ng (asem (.cap x) H) d r fr tm KF:=st_of d r (by simp) (by simp) (by simp)
end
section
variable {H:AHeap}
theorem a_mkmap:asem .mkmap H=some (.map (some H.n),H.alloc (.obj true (.map #[] 0))):=_root_.id rfl
theorem a_cap0:asem (.cap (.slice none 0 0)) H=some (.int .i64 0,H):=_root_.id rfl
end
theorem cells_map(a:Option Nat):(Value.map a).cells.toList=[.map a]:=_root_.id rfl
structure Enc (d:TypeDesc) {κ:Type} [DecidableEq κ] (enc:κ→Value):Prop where
 same:∀a b,Instr.sameNow d (enc a) (enc b)=some (decide (a=b))
 key:∀a,keyB d (enc a)=true
theorem encInt:Enc (.int .i64) (fun n:Int=>.int .i64 n):=⟨fun a b=>by
 show(if IntKind.i64=IntKind.i64 then some (a==b)else none)=_
 rw[if_pos rfl]
 by_cases h:a=b<;>simp[h],fun a=>rfl⟩
theorem encStr:Enc .string (fun l:List UInt8=>.string ⟨l.toArray⟩):=⟨fun a b=>by
 show some ((⟨a.toArray⟩:ByteArray)==⟨b.toArray⟩)=_
 have h:((⟨a.toArray⟩:ByteArray)==⟨b.toArray⟩)=true↔a=b:=by
  rw[MapKept.bytes_beq]
  constructor
  ·intro h;cases h;rfl
  ·rintro rfl;rfl
 by_cases e:a=b
 ·rw[h.2 e];simp[e]
 ·have:((⟨a.toArray⟩:ByteArray)==⟨b.toArray⟩)=false:=by
   cases hb:((⟨a.toArray⟩:ByteArray)==⟨b.toArray⟩)
   ·rfl
   ·exact absurd (h.1 hb) e
  rw[this];simp[e],fun a=>rfl⟩
section
variable {κ:Type} [DecidableEq κ] {enc:κ→Value} {d:TypeDesc} {H:AHeap}
def mfind(k:κ):List (κ×Value)→Option Value
 |[]=>none
 |(a,v)::l=>if k=a then some v else mfind k l
def mput(k:κ)(x:Value):List (κ×Value)→List (κ×Value)
 |[]=>[(k,x)]
 |(a,v)::l=>if k=a then(k,x)::l else(a,v)::mput k x l
theorem mfind_mput(a k:κ)(x:Value):∀l:List (κ×Value),mfind a (mput k x l)=if a=k then some x else mfind a l
 |[]=>by simp[mput,mfind]
 |(b,v)::l=>by
  simp only[mput]
  split
  ·rename_i h
   subst h
   simp only[mfind]
   split<;>rfl
  ·rename_i h
   simp only[mfind,mfind_mput a k x l]
   split
   ·rename_i h2
    subst h2
    rw[if_neg (fun e=>h e.symm)]
   ·rfl
theorem mput_new{k:κ}{x:Value}:∀{l:List (κ×Value)},mfind k l=none→mput k x l=l++[(k,x)]
 |[],_=>rfl
 |(a,v)::l,h=>by
  simp only[mfind]at h
  split at h
  ·cases h
  ·rename_i hk
   simp only[mput,if_neg hk,mput_new h,List.cons_append]
theorem mem_mput{k:κ}{x:Value}{p:κ×Value}:∀{l:List (κ×Value)},p∈mput k x l→p∈l∨p=(k,x)
 |[],h=>by simp[mput]at h;exact .inr h
 |(a,v)::l,h=>by
  simp only[mput]at h
  split at h
  ·simp only[List.mem_cons]at h ⊢
   rcases h with rfl|h
   ·exact .inr rfl
   ·exact .inl (.inr h)
  ·simp only[List.mem_cons]at h ⊢
   rcases h with rfl|h
   ·exact .inl (.inl rfl)
   ·rcases mem_mput h with h|h
    ·exact .inl (.inr h)
    ·exact .inr h
def MP(enc:κ→Value)(H:AHeap)(b:Nat)(l:List (κ×Value)):Prop:=
 (∃es clock,H.get b=some (.obj true (.map es clock))∧es.toList.map (fun e=>(e.key,e.val))=l.map (fun p=>(enc p.1,p.2)))∧∀p∈l,gndB p.2=true
omit [DecidableEq κ]in
theorem MP.lt{b:Nat}{l:List (κ×Value)}(h:MP enc H b l):b<H.n:=by
 obtain⟨⟨es,c,h1,_⟩,_⟩:=h;exact AHeap.get_lt h1
omit [DecidableEq κ]in
theorem MP.get{H':AHeap}{b:Nat}{l:List (κ×Value)}(h:MP enc H b l)(e:H'.get b=H.get b):MP enc H' b l:=by
 obtain⟨⟨es,c,h1,h2⟩,h3⟩:=h;exact⟨⟨es,c,by rw[e];exact h1,h2⟩,h3⟩
omit [DecidableEq κ]in
theorem MP.new(H:AHeap):MP enc (H.alloc (.obj true (.map #[] 0))) H.n []:=⟨⟨#[],0,AHeap.get_alloc_new _ _,rfl⟩,by simp⟩
theorem findNow_l(E:Enc d enc)(k:κ):∀(es:List MapEntry) (l:List (κ×Value)) (i:Nat),es.map (fun e=>(e.key,e.val))=l.map (fun p=>(enc p.1,p.2))→
 ∃r,Instr.findNow d (enc k) es i=some r∧r.map (·.2)=mfind k l∧∀j v,r=some (j,v)→i≤j∧∀x,((es.modify (j-i) fun e=>{e with key:=enc k,val:=x}).map (fun e=>(e.key,e.val)))=(mput k x l).map (fun p=>(enc p.1,p.2))
 |[],l,i,h=>by
  have:l=[]:=by cases l<;>simp_all
  subst this
  exact⟨none,rfl,rfl,fun j v h=>by cases h⟩
 |e::es,l,i,h=>by
  cases l with
  |nil=>simp at h
  |cons p l=>
   obtain⟨a,v⟩:=p
   simp only[List.map_cons,List.cons.injEq,Prod.mk.injEq]at h
   obtain⟨⟨h1,h2⟩,h3⟩:=h
   by_cases hk:k=a
   ·subst hk
    refine⟨some (i,e.val),?_,by simp[mfind,h2],?_⟩
    ·unfold Instr.findNow
     rw[h1,E.same]
     simp
    ·intro j w hj
     cases hj
     refine⟨Nat.le_refl _,fun x=>?_⟩
     simp[mput,h3]
   ·obtain⟨r,r1,r2,r3⟩:=findNow_l E k es l (i+1) h3
    refine⟨r,?_,by simp[mfind,hk,r2],?_⟩
    ·unfold Instr.findNow
     rw[h1,E.same]
     simp[hk,r1]
    ·intro j w hj
     obtain⟨q1,q2⟩:=r3 j w hj
     refine⟨by omega,fun x=>?_⟩
     rw[show j-i=(j-(i+1))+1 by omega]
     simp only[List.modify_succ_cons,List.map_cons,mput,if_neg hk,q2 x,h1,h2]
def mres(z:Value)(ok:Bool):Option Value→Value
 |some v=>if ok then .tuple #[v,.bool true]else v
 |none=>if ok then .tuple #[z,.bool false]else z
theorem mfind_mem{k:κ}{v:Value}:∀{l:List (κ×Value)},mfind k l=some v→(k,v)∈l
 |(a,w)::l,h=>by
  simp only[mfind]at h
  split at h
  ·rename_i e;cases h;subst e;simp
  ·simp[mfind_mem h]
theorem a_mget(E:Enc d enc){b:Nat}{l:List (κ×Value)}(h:MP enc H b l)(k:κ)(z:Value)(ok:Bool):asem (.mget d z ok (.map (some b)) (enc k)) H=some (mres z ok (mfind k l),H):=by
 obtain⟨⟨es,c,h1,h2⟩,h3⟩:=h
 obtain⟨r,r1,r2,_⟩:=findNow_l E k es.toList l 0 h2
 simp only[asem,E.key,if_true,h1,r1,←r2]
 cases r with
 |none=>rfl
 |some p=>
  obtain⟨j,v⟩:=p
  have:gndB v=true:=h3 _ (mfind_mem (k:=k) (by rw[←r2];rfl))
  simp[mgetA,this,mres]
theorem a_mset(E:Enc d enc){b:Nat}{l:List (κ×Value)}(h:MP enc H b l)(k:κ){x:Value}(hx:gndB x=true):∃o,asem (.mset d (.map (some b)) (enc k) x) H=some (undef,H.set b o)∧MP enc (H.set b o) b (mput k x l):=by
 obtain⟨⟨es,c,h1,h2⟩,h3⟩:=h
 obtain⟨r,r1,r2,r3⟩:=findNow_l E k es.toList l 0 h2
 have hg:∀p∈mput k x l,gndB p.2=true:=fun p hp=>by
  rcases mem_mput hp with hp|rfl
  ·exact h3 p hp
  ·exact hx
 simp only[asem,E.key,hx,and_self,if_true,h1,r1]
 cases r with
 |none=>
  refine⟨_,rfl,⟨⟨_,_,AHeap.get_set_same h1 _,?_⟩,hg⟩⟩
  rw[mput_new (by rw[←r2];rfl)]
  simp[h2]
 |some p=>
  obtain⟨j,v⟩:=p
  refine⟨_,rfl,⟨⟨_,_,AHeap.get_set_same h1 _,?_⟩,hg⟩⟩
  obtain⟨_,q⟩:=r3 j v rfl
  have:=q x
  simpa using this
end
end Go.AM

namespace Go.AM.Fd
open Go.Proofs Go.AM.F
structure Ro where
 n:List UInt8
 g:Int
 path:List Int
 pts:List (Int×Bool)
 ov:List Int
 fl:List (Int×Bool)
structure Ly where
 s:List (List UInt8)
 p:List (List UInt8×Int)
 g:List (List UInt8×Int)
 r:List Ro
def iRow(n:Int):List Value:=[.int .i64 n]
def nRow(x:Int×Bool):List Value:=[.int .i64 x.1,.bool x.2]
def pRow(x:List UInt8×Int):List Value:=[.string ⟨x.1.toArray⟩,.int .i64 x.2]
def IL(H:AHeap)(v:Value)(l:List Int):Prop:=Sl H 1 v (l.map iRow)
def NL(H:AHeap)(v:Value)(l:List (Int×Bool)):Prop:=Sl H 2 v (l.map nRow)
def PL(H:AHeap)(v:Value)(l:List (List UInt8×Int)):Prop:=Sl H 2 v (l.map pRow)
structure RV where
 r:Ro
 vp:Value
 vq:Value
 vo:Value
 vf:Value
def RV.row(x:RV):List Value:=[.string ⟨x.r.n.toArray⟩,.int .i64 x.r.g,x.vp,x.vq,x.vo,x.vf]
structure RV.ok (H:AHeap) (x:RV):Prop where
 p:IL H x.vp x.r.path
 q:NL H x.vq x.r.pts
 o:IL H x.vo x.r.ov
 f:NL H x.vf x.r.fl
def RL(H:AHeap)(v:Value)(xs:List RV):Prop:=Sl H 6 v (xs.map RV.row)
structure V4 where
 s:Value
 p:Value
 g:Value
 r:Value
def V4.l(u:V4):List Value:=[u.s,u.p,u.g,u.r]
structure LyR (H:AHeap) (u:V4) (xs:List RV) (L:Ly):Prop where
 s:TL H u.s L.s
 p:PL H u.p L.p
 g:PL H u.g L.g
 r:RL H u.r xs
 e:xs.map (·.r)=L.r
 ok:∀x∈xs,x.ok H
section
variable {H K:AHeap} {v:Value}
theorem IL.len{l:List Int}(h:IL H v l):lenS v=l.length:=by have:=Sl.len h;simpa using this
theorem NL.len{l:List (Int×Bool)}(h:NL H v l):lenS v=l.length:=by have:=Sl.len h;simpa using this
theorem PL.len{l:List (List UInt8×Int)}(h:PL H v l):lenS v=l.length:=by have:=Sl.len h;simpa using this
theorem RL.len{l:List RV}(h:RL H v l):lenS v=l.length:=by have:=Sl.len h;simpa using this
theorem IL.keeps{l:List Int}(h:IL H v l)(k:Keeps H K):IL K v l:=Sl.keeps h k
theorem NL.keeps{l:List (Int×Bool)}(h:NL H v l)(k:Keeps H K):NL K v l:=Sl.keeps h k
theorem PL.keeps{l:List (List UInt8×Int)}(h:PL H v l)(k:Keeps H K):PL K v l:=Sl.keeps h k
theorem RL.keeps{l:List RV}(h:RL H v l)(k:Keeps H K):RL K v l:=Sl.keeps h k
theorem IL.at_{l:List Int}(h:IL H v l){i:Nat}(hi:i<l.length):nnS v=true∧rowA H 1 v i=some [.int .i64 (l.getD i 0)]:=by
 have:=Sl.at_ h (by omega) (i:=i) (by simpa using hi)
 refine⟨this.1,?_⟩
 rw[this.2];simp[List.getD,List.getElem?_eq_getElem hi,iRow]
theorem NL.at_{l:List (Int×Bool)}(h:NL H v l){i:Nat}(hi:i<l.length):nnS v=true∧rowA H 2 v i=some [.int .i64 (l.getD i (0,false)).1,.bool (l.getD i (0,false)).2]:=by
 have:=Sl.at_ h (by omega) (i:=i) (by simpa using hi)
 refine⟨this.1,?_⟩
 rw[this.2];simp[List.getD,List.getElem?_eq_getElem hi,nRow]
theorem PL.at_{l:List (List UInt8×Int)}(h:PL H v l){i:Nat}(hi:i<l.length):nnS v=true∧rowA H 2 v i=some [.string ⟨(l.getD i ([],0)).1.toArray⟩,.int .i64 (l.getD i ([],0)).2]:=by
 have:=Sl.at_ h (by omega) (i:=i) (by simpa using hi)
 refine⟨this.1,?_⟩
 rw[this.2];simp[List.getD,List.getElem?_eq_getElem hi,pRow]
def rv0:RV:=⟨⟨[],0,[],[],[],[]⟩,.slice none 0 0,.slice none 0 0,.slice none 0 0,.slice none 0 0⟩
theorem RL.at_{l:List RV}(h:RL H v l){i:Nat}(hi:i<l.length):nnS v=true∧rowA H 6 v i=some (l.getD i rv0).row:=by
 have:=Sl.at_ h (by omega) (i:=i) (by simpa using hi)
 refine⟨this.1,?_⟩
 rw[this.2];simp[List.getD,List.getElem?_eq_getElem hi]
theorem RV.ok.keeps{x:RV}(h:x.ok H)(k:Keeps H K):x.ok K:=⟨h.p.keeps k,h.q.keeps k,h.o.keeps k,h.f.keeps k⟩
theorem LyR.keeps{u:V4}{xs:List RV}{L:Ly}(h:LyR H u xs L)(k:Keeps H K):LyR K u xs L:=
 ⟨h.s.keeps k,h.p.keeps k,h.g.keeps k,h.r.keeps k,h.e,fun x hx=>(h.ok x hx).keeps k⟩
theorem LyR.rlen{u:V4}{xs:List RV}{L:Ly}(h:LyR H u xs L):xs.length=L.r.length:=by rw[←h.e];simp
theorem LyR.rat{u:V4}{xs:List RV}{L:Ly}(h:LyR H u xs L){i:Nat}(hi:i<L.r.length):(xs.getD i rv0).ok H∧(xs.getD i rv0).r=L.r.getD i rv0.r:=by
 have hi':i<xs.length:=by rw[h.rlen];exact hi
 have e:xs.getD i rv0=xs[i]:=by simp[List.getD,List.getElem?_eq_getElem hi']
 refine⟨by rw[e];exact h.ok _ (List.getElem_mem _),?_⟩
 rw[e]
 have:(xs.map (·.r))[i]'(by simpa using hi')=L.r[i]:=by
  have:=h.e
  simp only[←this]
 simp only[List.getElem_map]at this
 rw[this];simp[List.getD,List.getElem?_eq_getElem hi]
end
end Go.AM.Fd

set_option maxRecDepth 100000
set_option maxHeartbeats 0
namespace Go.AM.F
def zclD:TypeId→List Value
 |87=>[(.string ByteArray.empty),(.int .i64 0),(.slice none 0 0),(.slice none 0 0),(.slice none 0 0),(.slice none 0 0)]
 |175=>[(.slice none 0 0),(.slice none 0 0),(.slice none 0 0),(.slice none 0 0),(.map none)]
 |89=>[(.string ByteArray.empty),(.int .i64 0)]
 |90=>[(.string ByteArray.empty),(.int .i64 0)]
 |120=>[(.int .i64 0),(.bool false)]
 |_=>[]
def zvlD:TypeId→Value
 |_=>undef
def zklD:TypeId→List Nat
 |_=>[]
def zrlD:Nat→TypeId→List Value
 |1,3=>[(.int .i64 0)]
 |1,9=>[(.string ByteArray.empty)]
 |_,_=>[]
noncomputable def f7:AFunc:=by
 refine(fun(_:Cz zclD zvlD zklD zrlD Go.Proofs.Tryz.prog 0 [0,1,2,4,5,6,7,8,9,10,20,41,63,85,109] 7 ?a)=>?a) ?h
 case h=>
 intro zc zv zk zr hc hv hk hr
 conv=>lhs;cbv;try simp only[hc,hv,hk,hr,zclD,zvlD,zklD,zrlD]
theorem f7_ok:compF Go.Proofs.Tryz.prog 0 [0,1,2,4,5,6,7,8,9,10,20,41,63,85,109] 7=some f7:=by kernel_rfl
theorem f7_n:argsOK Go.Proofs.Tryz.prog 7 2=true:=by kernel_rfl
noncomputable def f61:AFunc:=by
 refine(fun(_:Cz zclD zvlD zklD zrlD Go.Proofs.Tryz.prog 0 [0,1,2,3,4,5,6,7,8,9,10,11,12,13,14,15,16,42,47,48,49,50,68,69,70,71,98,99,100,101,128,129,130,131] 61 ?a)=>?a) ?h
 case h=>
 intro zc zv zk zr hc hv hk hr
 conv=>lhs;cbv;try simp only[hc,hv,hk,hr,zclD,zvlD,zklD,zrlD]
theorem f61_ok:compF Go.Proofs.Tryz.prog 0 [0,1,2,3,4,5,6,7,8,9,10,11,12,13,14,15,16,42,47,48,49,50,68,69,70,71,98,99,100,101,128,129,130,131] 61=some f61:=by kernel_rfl
theorem f61_n:argsOK Go.Proofs.Tryz.prog 61 1=true:=by kernel_rfl
noncomputable def f94:AFunc:=by
 refine(fun(_:Cz zclD zvlD zklD zrlD Go.Proofs.Tryz.prog 0 [0,1,2,6,8,18] 94 ?a)=>?a) ?h
 case h=>
 intro zc zv zk zr hc hv hk hr
 conv=>lhs;cbv;try simp only[hc,hv,hk,hr,zclD,zvlD,zklD,zrlD]
theorem f94_ok:compF Go.Proofs.Tryz.prog 0 [0,1,2,6,8,18] 94=some f94:=by kernel_rfl
theorem f94_n:argsOK Go.Proofs.Tryz.prog 94 3=true:=by kernel_rfl
noncomputable def f95:AFunc:=by
 refine(fun(_:Cz zclD zvlD zklD zrlD Go.Proofs.Tryz.prog 0 [0,1,4,6,7,8,9,10,19] 95 ?a)=>?a) ?h
 case h=>
 intro zc zv zk zr hc hv hk hr
 conv=>lhs;cbv;try simp only[hc,hv,hk,hr,zclD,zvlD,zklD,zrlD]
theorem f95_ok:compF Go.Proofs.Tryz.prog 0 [0,1,4,6,7,8,9,10,19] 95=some f95:=by kernel_rfl
theorem f95_n:argsOK Go.Proofs.Tryz.prog 95 2=true:=by kernel_rfl
noncomputable def f96:AFunc:=by
 refine(fun(_:Cz zclD zvlD zklD zrlD Go.Proofs.Tryz.prog 0 [0,1,4,5,6,7,8,9,10,23] 96 ?a)=>?a) ?h
 case h=>
 intro zc zv zk zr hc hv hk hr
 conv=>lhs;cbv;try simp only[hc,hv,hk,hr,zclD,zvlD,zklD,zrlD]
theorem f96_ok:compF Go.Proofs.Tryz.prog 0 [0,1,4,5,6,7,8,9,10,23] 96=some f96:=by kernel_rfl
theorem f96_n:argsOK Go.Proofs.Tryz.prog 96 2=true:=by kernel_rfl
end Go.AM.F

namespace Go.AM.Fd
open Nat (reduceAdd reduceEqDiff reduceLT reduceLeDiff reduceMul reduceSub)
open Go.Proofs Go.AM.F
def inB(n x:Int):Bool:=decide (0≤x)&&decide (x<n)
theorem all_take{α:Type}{p:α→Bool}{l:List α}{i:Nat}{d:α}(h:i<l.length)(hp:(l.take i).all p=true)(hx:p (l.getD i d)=true):(l.take (i+1)).all p=true:=by
 rw[List.take_add_one,List.all_append,hp,List.getElem?_eq_getElem h]
 simpa[List.getD,List.getElem?_eq_getElem h]using hx
theorem all_not{α:Type}{p:α→Bool}{l:List α}{i:Nat}{d:α}(h:i<l.length)(hx:p (l.getD i d)=false):l.all p=false:=by
 rw[List.all_eq_false]
 exact⟨l[i],List.getElem_mem _,by simpa[List.getD,List.getElem?_eq_getElem h]using hx⟩
theorem t95{H:AHeap}{v:Value}{l:List Int}(n:Int)(h:IL H v l)(hl:l.length≤9223372036854775807):∃w H',ARun Tryz.prog 0 95 [.int .i64 n,v] H w H'∧w=.bool (l.all (inB n))∧H'=H:=by
 refine walk2 f95_ok f95_n ?_
 intro Q hq1 hq2
 have ia:=Sl.is h
 have la:=h.len
 simp(disch:=first|assumption|omega)only[f95,P3,seval,initFr,clsA,la]
 rw[W_block]
 refine W_loop2 (fun k fr K=>∃i x3 x7 x8,fr=[.int .i64 n,v,.bool false,x3,v,.int .i64 ((l.length:Nat):Int),.int .i64 ((i:Nat):Int),x7,x8]∧K=H∧i≤l.length∧(l.take i).all (inB n)=true∧k=l.length-i) l.length
  ⟨0,_,_,_,rfl,rfl,by omega,by simp,rfl⟩ ?_
 rintro Q' k fr K ⟨i,x3,x7,x8,rfl,rfl,hi,hp,rfl⟩ hn hx hret
 by_cases hlt:i<l.length
 ·obtain⟨na,ra⟩:=h.at_ hlt
  have h0:(0:Int)≤(i:Int):=by omega
  have h1:(i:Int)<((lenS v:Nat):Int):=by omega
  have h3:(i:Int)<((l.length:Nat):Int):=by omega
  have hw:IntKind.i64.wrap ((i:Int)+1)=((i+1:Nat):Int):=by rw[wrap_i64 (by omega) (by omega)];simp
  have stop:inB n (l.getD i 0)=false→l.all (inB n)=false:=fun e=>all_not hlt e
  have go:inB n (l.getD i 0)=true→(l.take (i+1)).all (inB n)=true:=fun e=>all_take hlt hp e
  generalize l.getD i 0=x at*
  by_cases hx0:x<0
  ·simp(disch:=first|assumption|omega)only[W_block,P3,seval,initFr,clsA,la,ra,na,a_load1v]
   refine hret _ _ (hq2 _ _ ⟨_,rfl,?_,rfl⟩)
   rw[stop (by simp[inB];omega)];rfl
  ·by_cases hxn:n≤x
   ·simp(disch:=first|assumption|omega)only[W_block,P3,seval,initFr,clsA,la,ra,na,a_load1v]
    refine hret _ _ (hq2 _ _ ⟨_,rfl,?_,rfl⟩)
    rw[stop (by simp[inB];omega)];rfl
   ·simp(disch:=first|assumption|omega)only[W_block,P3,seval,initFr,clsA,la,ra,na,a_load1v,hw]
    exact hn _ _ _ ⟨i+1,_,_,_,rfl,rfl,by omega,go (by simp[inB];omega),rfl⟩ (by omega)
 ·have h3:¬(i:Int)<((l.length:Nat):Int):=by omega
  simp(disch:=first|assumption|omega)only[W_block,P3,seval,initFr,clsA,la]
  refine hx 0 _ _ ?_
  simp(disch:=first|assumption|omega)only[W_block,P3,seval,initFr,clsA]
  refine hq2 _ _ ⟨_,rfl,?_,rfl⟩
  rw[List.take_of_length_le (by omega)]at hp
  rw[hp];rfl
end Go.AM.Fd

namespace Go.AM.Fd
open Nat (reduceAdd reduceEqDiff reduceLT reduceLeDiff reduceMul reduceSub)
open Go.Proofs Go.AM.F
theorem t96{H:AHeap}{v:Value}{l:List (Int×Bool)}(n:Int)(h:NL H v l)(hl:l.length≤9223372036854775807):∃w H',ARun Tryz.prog 0 96 [v,.int .i64 n] H w H'∧w=.bool (decide (l.length≤16)&&l.all (fun x=>inB n x.1))∧H'=H:=by
 refine gcb ?_
 refine walk2 f96_ok f96_n ?_
 intro Q hq1 hq2
 have ia:=Sl.is h
 have la:=h.len
 simp(disch:=first|assumption|omega)only[f96,P3,seval,initFr,clsA,la]
 rw[W_block]
 refine W_loop2 (fun k fr K=>∃i x3 x4 x8 x9,fr=[v,.int .i64 n,.bool false,x3,x4,v,.int .i64 ((l.length:Nat):Int),.int .i64 ((i:Nat):Int),x8,x9]∧Keeps H K∧i≤l.length∧i≤16∧(l.take i).all (fun x=>inB n x.1)=true∧k=l.length-i) l.length
  ⟨0,_,_,_,_,rfl,Keeps.refl H,by omega,by omega,by simp,rfl⟩ ?_
 rintro Q' k fr K ⟨i,x3,x4,x8,x9,rfl,hk,hi,hi6,hp,rfl⟩ hn hx hret
 by_cases hlt:i<l.length
 ·obtain⟨na,ra⟩:=(h.keeps hk).at_ hlt
  have hbl:=Sl.bn_le (h.keeps hk) (by intro e;simp at e;subst e;simp at hlt) (by omega)
  have h0:(0:Int)≤(i:Int):=by omega
  have h1:(i:Int)<((lenS v:Nat):Int):=by omega
  have h3:(i:Int)<((l.length:Nat):Int):=by omega
  have hw:IntKind.i64.wrap ((i:Int)+1)=((i+1:Nat):Int):=by rw[wrap_i64 (by omega) (by omega)];simp
  have stop:inB n (l.getD i (0,false)).1 =false→l.all (fun x=>inB n x.1)=false:=fun e=>all_not (d:=(0,false)) hlt e
  have go:inB n (l.getD i (0,false)).1 =true→(l.take (i+1)).all (fun x=>inB n x.1)=true:=fun e=>all_take (d:=(0,false)) hlt hp e
  generalize l.getD i (0,false)=x at*
  have o1:one1 (Value.int .i64 x.1)=True:=by simp[one1,one_int]
  by_cases h6:(16:Int)≤(i:Int)
  ·simp(disch:=first|assumption|omega|(simp only[LN]<;>omega)|(simp(disch:=first|assumption|omega|(simp only[LN]<;>omega))only[row_alloc,row_set];assumption))only[W_block,P3,seval,initFr,clsA,la,ra,na,a_loadnvf,h6]
   refine hret _ _ (hq2 _ _ ⟨_,rfl,?_,?_⟩)
   ·have:¬l.length≤16:=by omega
    simp[tupV,this]
   ·exact(hk.alloc _)
  ·simp(disch:=first|assumption|omega|(simp only[LN]<;>omega)|(simp(disch:=first|assumption|omega|(simp only[LN]<;>omega))only[row_alloc,row_set];assumption))only[W_block,P3,seval,initFr,clsA,la,ra,na,a_loadnvf,h6]
   have hk2:=(hk.alloc (.cells true false 2 [.int .i64 x.1,.bool x.2] 120)).alloc (.cells true false 1 [.int .i64 x.1] 3)
   have hil:IL ((K.alloc (.cells true false 2 [.int .i64 x.1,.bool x.2] 120)).alloc (.cells true false 1 [.int .i64 x.1] 3)) (slc (K.n+1) 0 1 1) [x.1]:=
    ⟨⟨_,_,rfl⟩,by simp[iRow],by rw[elems_new (by simp[alloc_n]) rfl];rfl⟩
   refine callK (t95 n hil (by simp)) ?_
   rintro _ _ ⟨rfl,rfl⟩
   cases hb:inB n x.1 with
   |false=>
    have e:[x.1].all (inB n)=false:=by simp[hb]
    simp(disch:=first|assumption|omega)only[W_block,P3,seval,initFr,clsA,e]
    refine hret _ _ (hq2 _ _ ⟨_,rfl,?_,hk2⟩)
    rw[stop hb];simp[tupV]
   |true=>
    have e:[x.1].all (inB n)=true:=by simp[hb]
    simp(disch:=first|assumption|omega)only[W_block,P3,seval,initFr,clsA,e,hw]
    exact hn _ _ _ ⟨i+1,_,_,_,_,rfl,hk2,by omega,by omega,go hb,rfl⟩ (by omega)
 ·have h3:¬(i:Int)<((l.length:Nat):Int):=by omega
  simp(disch:=first|assumption|omega)only[W_block,P3,seval,initFr,clsA,la]
  refine hx 0 _ _ ?_
  simp(disch:=first|assumption|omega)only[W_block,P3,seval,initFr,clsA]
  refine hq2 _ _ ⟨_,rfl,?_,hk⟩
  rw[List.take_of_length_le (by omega)]at hp
  have:l.length≤16:=by omega
  simp[tupV,hp,this]
def sEnc(l:List UInt8):Value:=.string ⟨l.toArray⟩
theorem sEnc_e:Enc .string sEnc:=encStr
theorem mfind_none{k:List UInt8}:∀{M:List (List UInt8×Value)},mfind k M=none↔k∉M.map (·.1)
 |[]=>by simp[mfind]
 |(a,v)::M=>by
  simp only[mfind,List.map_cons,List.mem_cons,not_or]
  split
  ·rename_i e;simp[e]
  ·rename_i e;rw[mfind_none (M:=M)];simp[e]
theorem t94{H:AHeap}{b mb T:Nat}{own room:Bool}{c:List Value}{M:List (List UInt8×Value)}(hb:H.get b=some (.cells own room 5 c T))(hc:c[4]? =some (.map (some mb)))(hm:MP sEnc H mb M)(n:List UInt8){x:Value}(hx:gndB x=true):
 ∃w H',ARun Tryz.prog 0 94 [ptr b 0,.string ⟨n.toArray⟩,x] H w H'∧w=.bool (mfind n M).isNone∧Chg [mb] H H'∧MP sEnc H' mb (if(mfind n M).isNone then M++[(n,x)]else M):=by
 refine walk2 f94_ok f94_n ?_
 intro Q hq1 hq2
 have g:=a_mget sEnc_e hm n .nilIface true
 obtain⟨o,s1,s2⟩:=a_mset sEnc_e hm n hx
 simp only[sEnc]at g s1
 cases hf:mfind n M with
 |some y=>
  rw[hf]at g
  simp only[mres,if_true]at g
  simp(disch:=first|assumption|omega)only[f94,W_block,P3,seval,initFr,clsA,hb,hc,st_mget,g]
  refine hq2 _ _ ⟨_,rfl,by simp[tupV,hf],Chg.refl _ _,by simpa[hf]using hm⟩
 |none=>
  rw[hf]at g
  simp only[mres,if_true]at g
  simp(disch:=first|assumption|omega)only[f94,W_block,P3,seval,initFr,clsA,hb,hc,st_mget,st_mset,g,s1]
  refine hq2 _ _ ⟨_,rfl,by simp[tupV,hf],Chg.set H hm.lt o,?_⟩
  rw[mput_new hf]at s2
  simpa[hf]using s2
end Go.AM.Fd

namespace Go.AM.Fd
open Nat (reduceAdd reduceEqDiff reduceLT reduceLeDiff reduceMul reduceSub)
open Go.Proofs Go.AM.F
def okN(l:List (List UInt8)):Bool:=l.all rightB&&decide l.Nodup
theorem okN_snoc(ns:List (List UInt8))(n:List UInt8):okN (ns++[n])=(okN ns&&(rightB n&& !ns.contains n)):=by
 simp only[okN,List.all_append,List.all_cons,List.all_nil,Bool.and_true]
 have:decide (ns++[n]).Nodup=(decide ns.Nodup&& !ns.contains n):=by
  by_cases h1:ns.Nodup
  ·by_cases h2:n∈ns
   ·have:¬(ns++[n]).Nodup:=by
     intro h;rw[List.nodup_append]at h
     exact h.2.2 n h2 n (by simp) rfl
    simp[this,h2]
   ·have:(ns++[n]).Nodup:=by
     rw[List.nodup_append]
     exact⟨h1,by simp,fun a ha b hb=>by simp at hb;subst hb;intro e;subst e;exact h2 ha⟩
    simp[this,h1,h2]
  ·have:¬(ns++[n]).Nodup:=fun h=>h1 (List.nodup_append.1 h).1
   simp[this,h1]
 rw[this]
 cases ns.all rightB<;>cases rightB n<;>simp
def needB(n:Nat)(l:List (Int×Bool)):Bool:=decide (l.length≤16)&&l.all (fun x=>inB n x.1)
def roB(L:Ly)(r:Ro):Bool:=inB L.g.length r.g&&(decide (r.path.length≤16)&&decide (r.ov.length≤16)&&r.path.all (inB L.s.length)&&r.ov.all (inB L.s.length))&&(needB L.p.length r.pts&&needB L.p.length r.fl)
def fullB(L:Ly):Bool:=decide (64<L.s.length)||decide (32<L.p.length)||decide (32<L.g.length)||decide (64<L.r.length)
def nm2(L:Ly)(i:Nat):List (List UInt8):=L.s++(L.p.take i).map (·.1)
def nm3(L:Ly)(i:Nat):List (List UInt8):=L.s++L.p.map (·.1)++(L.g.take i).map (·.1)
def nm4(L:Ly)(i:Nat):List (List UInt8):=L.s++L.p.map (·.1)++L.g.map (·.1)++(L.r.take i).map (·.n)
def namesL(L:Ly):List (List UInt8):=L.s++L.p.map (·.1)++L.g.map (·.1)++L.r.map (·.n)
def al2(L:Ly)(i:Nat):Bool:=(L.p.take i).all fun x=>inB L.s.length x.2
def al3(L:Ly)(i:Nat):Bool:=L.p.all (fun x=>inB L.s.length x.2)&&(L.g.take i).all fun x=>inB L.s.length x.2
def al4(L:Ly)(i:Nat):Bool:=L.p.all (fun x=>inB L.s.length x.2)&&L.g.all (fun x=>inB L.s.length x.2)&&(L.r.take i).all (roB L)
def mayB(L:Ly):Bool:= !fullB L&&(okN (namesL L)&&(L.p.all (fun x=>inB L.s.length x.2)&&L.g.all (fun x=>inB L.s.length x.2)&&L.r.all (roB L)))
theorem take_snoc{α:Type}{l:List α}{i:Nat}(d:α)(h:i<l.length):l.take (i+1)=l.take i++[l.getD i d]:=by
 rw[List.take_add_one,List.getElem?_eq_getElem h];simp[List.getD,List.getElem?_eq_getElem h]
structure LyFit (L:Ly):Prop where
 s:L.s.length≤1000000000∧∀x∈L.s,x.length≤9223372036854775807
 p:L.p.length≤1000000000∧∀x∈L.p,x.1.length≤9223372036854775807
 g:L.g.length≤1000000000∧∀x∈L.g,x.1.length≤9223372036854775807
 r:L.r.length≤1000000000∧∀x∈L.r,x.n.length≤9223372036854775807∧x.path.length≤9223372036854775807∧x.pts.length≤9223372036854775807∧x.ov.length≤9223372036854775807∧x.fl.length≤9223372036854775807
theorem getD_mem{α:Type}{l:List α}{i:Nat}{d:α}(h:i<l.length):l.getD i d∈l:=by
 simp[List.getD,List.getElem?_eq_getElem h]
structure MSt (H K:AHeap) (u:V4) (ok:Bool) (ns:List (List UInt8)):Prop where
 k:Keeps H K
 l:K.get H.n=some (.cells true false 4 u.l 27)
 b:K.get (H.n+2)=some (.cells true false 5 [.slice none 0 0,.slice none 0 0,.slice none 0 0,.slice none 0 0,.map (some (H.n+1))] 175)
 m:ok=true→∃M,MP sEnc K (H.n+1) M∧M.map (·.1)=ns
theorem MSt.keeps{H K K':AHeap}{u:V4}{ok:Bool}{ns:List (List UInt8)}(h:MSt H K u ok ns)(k:Keeps K K'):MSt H K' u ok ns:=
 ⟨h.k.trans k,k.at_ h.l,k.at_ h.b,fun e=>by obtain⟨M,h1,h2⟩:=h.m e;exact⟨M,h1.get (k.get _ h1.lt),h2⟩⟩
theorem MSt.no{H K:AHeap}{u:V4}{ok:Bool}{ns ns':List (List UInt8)}(h:MSt H K u ok ns):MSt H K u false ns':=⟨h.k,h.l,h.b,fun e=>by cases e⟩
theorem MSt.fresh{H K:AHeap}{u:V4}{ns:List (List UInt8)}(h:MSt H K u true ns)(n:List UInt8){x:Value}(hx:gndB x=true):
 ∃w K',ARun Tryz.prog 0 94 [ptr (H.n+2) 0,.string ⟨n.toArray⟩,x] K w K'∧w=.bool (!ns.contains n)∧MSt H K' u (!ns.contains n) (ns++[n])∧K.n≤K'.n∧(∀b,H.n+2<b→b<K.n→K'.get b=K.get b):=by
 obtain⟨M,h1,h2⟩:=h.m rfl
 obtain⟨w,K',r,rfl,c,m⟩:=t94 (hc:=rfl) h.b h1 n hx
 have e:(mfind n M).isNone= !ns.contains n:=by
  cases hf:mfind n M with
  |none=>have:=mfind_none.1 hf;rw[h2]at this;simp[this]
  |some y=>
   have:n∈M.map (·.1):=by
    rcases Classical.em (n∈M.map (·.1))with h|h
    ·exact h
    ·rw[mfind_none.2 h]at hf;cases hf
   rw[h2]at this;simp[this]
 rw[e]at r m
 refine⟨_,_,r,rfl,⟨h.k.chg_trans c (by simp),c.at_ h.l (by simp),c.at_ h.b (by simp),fun hn=>?_⟩,c.n,fun b hb hlt=>c.get b hlt (by simp;omega)⟩
 rw[hn]at m
 exact⟨_,m,by simp[h2]⟩
def mF(A:Value)(h:Nat)(L:Ly)(ok:Bool):List Value:=[A,ptr h 0,.bool false,.int .i64 ((L.s.length:Nat):Int),.int .i64 ((L.p.length:Nat):Int),.int .i64 ((L.g.length:Nat):Int),.int .i64 ((L.r.length:Nat):Int),ptr (h+2) 0,.bool ok]
def M1(A:Value)(H:AHeap)(u:V4)(L:Ly)(fr:List Value)(K:AHeap):Prop:=
 ∃ok x9 x10 x11 x12 x13 x14 x15 x16 x17 x18 x19 x20 x21 x22 x23 x24 x25 x26 x27 x28 x29 x30 x31 x32 x33,fr=mF A H.n L ok++[x9,x10,x11,x12,x13,x14,x15,x16,x17,x18,x19,x20,x21,x22,x23,x24,x25,x26,x27,x28,x29,x30,x31,x32,x33]∧ok=okN L.s∧MSt H K u ok L.s
set_option maxHeartbeats 1000000 in
theorem may1{H:AHeap}{u:V4}{xs:List RV}{L:Ly}{Q:AQ}(h:LyR H u xs L)(hf:LyFit L)(hfu:fullB L=false)
 (hk:∀fr K,M1 (.agg u.l.toArray) H u L fr K→Q .normal fr K):W Tryz.prog 0 (cpre 6 f61.body) Q (initFr f61.sl [.agg u.l.toArray]) H:=by
 have ls:=h.s.len
 have lp:=h.p.len
 have lg:=h.g.len
 have lr:=h.r.len
 have er:=h.rlen
 have is:=Sl.is h.s
 have ip:=Sl.is h.p
 have ig:=Sl.is h.g
 have ir:=Sl.is h.r
 have os:=Sl.one h.s
 have op:=Sl.one h.p
 have og:=Sl.one h.g
 have or:=Sl.one h.r
 simp only[fullB,Bool.or_eq_false_iff,decide_eq_false_iff_not]at hfu
 obtain⟨⟨⟨f1,f2⟩,f3⟩,f4⟩:=hfu
 have h0:=h
 obtain⟨us,up,ug,ur⟩:=u
 simp only[V4.l]at*
 have c1:¬(64:Int)<((L.s.length:Nat):Int):=by omega
 have c2:¬(32:Int)<((L.p.length:Nat):Int):=by omega
 have c3:¬(32:Int)<((L.g.length:Nat):Int):=by omega
 have c4:¬(64:Int)<((L.r.length:Nat):Int):=by omega
 simp(disch:=first|assumption|omega|(simp only[LN]<;>omega)|(simp(disch:=first|assumption|omega|(simp only[LN]<;>omega))only[row_alloc,row_set];assumption))only[f61,cpre,P3,seval,initFr,clsA,ls,lp,lg,lr,er,os,op,og,or,st_mkmap,a_mkmap,fill_cons,cells_map,one_map,o_map]
 have k0:=(((Keeps.refl H).alloc (.cells true false 4 [us,up,ug,ur] 27)).alloc (.obj true (.map #[] 0))).alloc (.cells true false 5 [.slice none 0 0,.slice none 0 0,.slice none 0 0,.slice none 0 0,.map (some (H.n+1))] 175)
 have st0:MSt H (((H.alloc (.cells true false 4 [us,up,ug,ur] 27)).alloc (.obj true (.map #[] 0))).alloc (.cells true false 5 [.slice none 0 0,.slice none 0 0,.slice none 0 0,.slice none 0 0,.map (some (H.n+1))] 175)) ⟨us,up,ug,ur⟩ true []:=by
  refine⟨k0,?_,AHeap.get_alloc_new _ _,fun _=>⟨[],MP.get (MP.new (H.alloc (.cells true false 4 [us,up,ug,ur] 27))) (g_old _ (by simp[alloc_n])),rfl⟩⟩
  rw[g_old _ (by simp[alloc_n];omega),g_old _ (by simp[alloc_n])];exact AHeap.get_alloc_new _ _
 generalize((H.alloc (.cells true false 4 [us,up,ug,ur] 27)).alloc (.obj true (.map #[] 0))).alloc (.cells true false 5 [.slice none 0 0,.slice none 0 0,.slice none 0 0,.slice none 0 0,.map (some (H.n+1))] 175)=K0 at st0 k0 ⊢
 rw[W_block]
 refine W_loop2 (fun k fr K=>∃ok i x9 x10 x21,fr=[.agg #[us,up,ug,ur],ptr H.n 0,.bool false,.int .i64 ((L.s.length:Nat):Int),.int .i64 ((L.p.length:Nat):Int),.int .i64 ((L.g.length:Nat):Int),.int .i64 ((L.r.length:Nat):Int),ptr (H.n+2) 0,.bool ok,x9,x10,undef,undef,undef,undef,undef,undef,.bool false,us,.int .i64 ((L.s.length:Nat):Int),.int .i64 ((i:Nat):Int),x21,undef,undef,undef,undef,undef,undef,undef,undef,undef,undef,undef,undef]∧
  ok=okN (L.s.take i)∧MSt H K ⟨us,up,ug,ur⟩ ok (L.s.take i)∧i≤L.s.length∧k=L.s.length-i) L.s.length
  ⟨true,0,_,_,_,rfl,by simp[okN],st0,by omega,rfl⟩ ?_
 rintro Q' k fr K ⟨ok,i,x9,x10,x21,rfl,hok,hst,hi,rfl⟩ hn hx hret
 by_cases hlt:i<L.s.length
 ·obtain⟨na,ra⟩:=(h0.s.keeps hst.k).at_ hlt
  have h1:(0:Int)≤(i:Int):=by omega
  have h2:(i:Int)<((lenS us:Nat):Int):=by omega
  have h3:(i:Int)<((L.s.length:Nat):Int):=by omega
  have hw:IntKind.i64.wrap ((i:Int)+1)=((i+1:Nat):Int):=by rw[wrap_i64 (by omega) (by omega)];simp
  have hlen:=hf.s.2 _ (getD_mem (d:=[]) hlt)
  have ts:=take_snoc [] hlt
  unfold tRow at ra
  have hs:=okN_snoc (L.s.take i) (L.s.getD i [])
  rw[←ts]at hs
  cases ok with
  |false=>
   simp(disch:=first|assumption|omega)only[W_block,P3,seval,initFr,clsA,ls,ra,na,a_load1v,hw]
   refine hn _ _ _ ⟨false,i+1,_,_,_,rfl,?_,hst.no,by omega,rfl⟩ (by omega)
   rw[hs,←hok];rfl
  |true=>
   simp(disch:=first|assumption|omega)only[W_block,P3,seval,initFr,clsA,ls,ra,na,a_load1v,hw]
   refine callK (t93 _ _ hlen) ?_
   rintro _ _ ⟨rfl,rfl⟩
   cases hr:rightB (L.s.getD i [])with
   |false=>
    simp(disch:=first|assumption|omega)only[W_block,P3,seval,initFr,clsA,hw]
    refine hn _ _ _ ⟨false,i+1,_,_,_,rfl,?_,hst.no,by omega,rfl⟩ (by omega)
    rw[hs,hr];simp
   |true=>
    simp(disch:=first|assumption|omega)only[W_block,P3,seval,initFr,clsA,hw]
    refine callK (R:=fun w K'=>w=.bool (!(L.s.take i).contains (L.s.getD i []))∧MSt H K' ⟨us,up,ug,ur⟩ (!(L.s.take i).contains (L.s.getD i [])) (L.s.take i++[L.s.getD i []])) (by obtain⟨w,K',a,b,c,_⟩:=hst.fresh (L.s.getD i []) (x:=.iface 177 (.int .i64 (i:Int))) rfl;exact⟨w,K',a,b,c⟩) ?_
    rintro _ K' ⟨rfl,st'⟩
    rw[←ts]at st'
    cases hc:(L.s.take i).contains (L.s.getD i [])with
    |false=>
     rw[hc]at st'
     simp(disch:=first|assumption|omega)only[W_block,P3,seval,initFr,clsA,hw]
     refine hn _ _ _ ⟨true,i+1,_,_,_,rfl,?_,st',by omega,rfl⟩ (by omega)
     rw[hs,←hok,hr,hc];rfl
    |true=>
     rw[hc]at st'
     simp(disch:=first|assumption|omega)only[W_block,P3,seval,initFr,clsA,hw]
     refine hn _ _ _ ⟨false,i+1,_,_,_,rfl,?_,st',by omega,rfl⟩ (by omega)
     rw[hs,←hok,hr,hc];rfl
 ·have h3:¬(i:Int)<((L.s.length:Nat):Int):=by omega
  simp(disch:=first|assumption|omega)only[W_block,P3,seval,initFr,clsA,ls]
  refine hx 0 _ _ ?_
  have e:L.s.take i=L.s:=List.take_of_length_le (by omega)
  rw[e]at hok hst
  exact hk _ _ ⟨ok,_,_,_,_,_,_,_,_,_,_,_,_,_,_,_,_,_,_,_,_,_,_,_,_,_,rfl,hok,hst⟩
end Go.AM.Fd

namespace Go.AM.Fd
open Nat (reduceAdd reduceEqDiff reduceLT reduceLeDiff reduceMul reduceSub)
open Go.Proofs Go.AM.F
theorem b4(a b c d:Bool):((a&&b)&&(c&&d))=((a&&c)&&(b&&d)):=by cases a<;>cases b<;>cases c<;>cases d<;>rfl
def M2(A:Value)(H:AHeap)(u:V4)(L:Ly)(fr:List Value)(K:AHeap):Prop:=
 ∃ok x9 x10 x11 x12 x13 x14 x15 x16 x17 x18 x19 x20 x21 x22 x23 x24 x25 x26 x27 x28 x29 x30 x31 x32 x33,fr=mF A H.n L ok++[x9,x10,x11,x12,x13,x14,x15,x16,x17,x18,x19,x20,x21,x22,x23,x24,x25,x26,x27,x28,x29,x30,x31,x32,x33]∧ok=(okN (L.s++L.p.map (·.1))&&L.p.all fun x=>inB L.s.length x.2)∧MSt H K u ok (L.s++L.p.map (·.1))
def M3(A:Value)(H:AHeap)(u:V4)(L:Ly)(fr:List Value)(K:AHeap):Prop:=
 ∃ok x9 x10 x11 x12 x13 x14 x15 x16 x17 x18 x19 x20 x21 x22 x23 x24 x25 x26 x27 x28 x29 x30 x31 x32 x33,fr=mF A H.n L ok++[x9,x10,x11,x12,x13,x14,x15,x16,x17,x18,x19,x20,x21,x22,x23,x24,x25,x26,x27,x28,x29,x30,x31,x32,x33]∧ok=(okN (L.s++L.p.map (·.1)++L.g.map (·.1))&&(L.p.all (fun x=>inB L.s.length x.2)&&L.g.all fun x=>inB L.s.length x.2))∧MSt H K u ok (L.s++L.p.map (·.1)++L.g.map (·.1))
set_option maxHeartbeats 2000000 in
theorem may2{H:AHeap}{u:V4}{xs:List RV}{L:Ly}{Q:AQ}{A:Value}{fr:List Value}{K:AHeap}(h:LyR H u xs L)(hf:LyFit L)(hm:M1 A H u L fr K)
 (hk:∀fr K,M2 A H u L fr K→Q .normal fr K):W Tryz.prog 0 (cpre 1 (cpost 6 f61.body)) Q fr K:=by
 obtain⟨ok,x9,x10,x11,x12,x13,x14,x15,x16,x17,x18,x19,x20,x21,x22,x23,x24,x25,x26,x27,x28,x29,x30,x31,x32,x33,rfl,hok,hst⟩:=hm
 have lp:=h.p.len
 have ip:=Sl.is h.p
 have gl:=hst.l
 simp only[V4.l]at gl
 simp(disch:=first|assumption|omega)only[f61,cpre,cpost,mF,List.cons_append,List.nil_append,P3,seval,initFr,clsA,gl,lp]
 rw[W_block]
 refine W_loop2 (fun k fr K=>∃ok i x11 x12 xc,fr=mF A H.n L ok++[x9,x10,x11,x12,x13,x14,x15,x16,x17,x18,x19,x20,x21,u.p,.int .i64 ((L.p.length:Nat):Int),.int .i64 ((i:Nat):Int),xc,x26,x27,x28,x29,x30,x31,x32,x33]∧
  ok=(okN (nm2 L i)&&al2 L i)∧MSt H K u ok (nm2 L i)∧i≤L.p.length∧k=L.p.length-i) L.p.length
  ⟨ok,0,_,_,_,rfl,by simp[nm2,al2,hok],by simpa[nm2]using hst,by omega,rfl⟩ ?_
 clear hst hok gl
 rintro Q' k fr K ⟨ok,i,x11,x12,xc,rfl,hok,hst,hi,rfl⟩ hn hx hret
 by_cases hlt:i<L.p.length
 ·obtain⟨na,ra⟩:=(h.p.keeps hst.k).at_ hlt
  have hbl:=Sl.bn_le (h.p.keeps hst.k) (by intro e;simp at e;rw[e]at hlt;simp at hlt) (by omega)
  have h1:(0:Int)≤(i:Int):=by omega
  have h2:(i:Int)<((lenS u.p:Nat):Int):=by omega
  have h3:(i:Int)<((L.p.length:Nat):Int):=by omega
  have hw:IntKind.i64.wrap ((i:Int)+1)=((i+1:Nat):Int):=by rw[wrap_i64 (by omega) (by have:=hf.p.1;omega)];simp
  have hlen:=hf.p.2 _ (getD_mem (d:=([],0)) hlt)
  have ts:=take_snoc ([],(0:Int)) hlt
  have hs:okN (nm2 L (i+1))=(okN (nm2 L i)&&(rightB (L.p.getD i ([],0)).1 && !(nm2 L i).contains (L.p.getD i ([],0)).1)):=by
   rw[←okN_snoc];simp only[nm2,ts,List.map_append,List.map_cons,List.map_nil,List.append_assoc]
  have hn1:nm2 L i++[(L.p.getD i ([],0)).1]=nm2 L (i+1):=by simp only[nm2,ts,List.map_append,List.map_cons,List.map_nil,List.append_assoc]
  have ha:al2 L (i+1)=(al2 L i&&inB L.s.length (L.p.getD i ([],0)).2):=by
   simp only[al2,ts,List.all_append,List.all_cons,List.all_nil,Bool.and_true,Bool.and_assoc]
  generalize L.p.getD i ([],0)=y at*
  have hk1:=hst.k.n
  have o1:one1 (Value.int .i64 y.2)=True:=by simp[one1,one_int]
  have o2:one1 (Value.string ⟨y.1.toArray⟩)=True:=by simp[one1,one_str]
  have st1:=hst.keeps ((Keeps.refl K).alloc (.cells true false 2 [.string ⟨y.1.toArray⟩,.int .i64 y.2] 89))
  have gv:=AHeap.get_alloc_new K (.cells true false 2 [.string ⟨y.1.toArray⟩,.int .i64 y.2] 89)
  cases ok with
  |false=>
   simp(disch:=first|assumption|omega|(simp only[LN]<;>omega)|(simp(disch:=first|assumption|omega|(simp only[LN]<;>omega))only[row_alloc,row_set];assumption))only[W_block,P3,seval,initFr,clsA,mF,List.cons_append,List.nil_append,lp,ra,na,a_loadnvf,hw,o1,o2]
   refine hn _ _ _ ⟨false,i+1,_,_,_,rfl,?_,st1.no,by omega,rfl⟩ (by omega)
   rw[hs,ha,b4,←hok];rfl
  |true=>
   simp(disch:=first|assumption|omega|(simp only[LN]<;>omega)|(simp(disch:=first|assumption|omega|(simp only[LN]<;>omega))only[row_alloc,row_set];assumption))only[W_block,P3,seval,initFr,clsA,mF,List.cons_append,List.nil_append,lp,ra,na,a_loadnvf,hw,o1,o2]
   obtain⟨K1,hK1⟩:∃X,X=K.alloc (.cells true false 2 [.string ⟨y.1.toArray⟩,.int .i64 y.2] 89):=⟨_,rfl⟩
   have n1:K1.n=K.n+1:=by rw[hK1];rfl
   rw[←hK1]at st1 gv ⊢
   refine callQ (t93 _ _ hlen) ?_
   cases hr:rightB y.1 with
   |false=>
    simp(disch:=first|assumption|omega)only[W_block,P3,seval,initFr,clsA,hw]
    refine hn _ _ _ ⟨false,i+1,_,_,_,rfl,?_,st1.no,by omega,rfl⟩ (by omega)
    rw[hs,ha,hr];simp
   |true=>
    simp(disch:=first|assumption|omega)only[W_block,P3,seval,initFr,clsA,gv,hw]
    refine callK (R:=fun w K'=>w=.bool (!(nm2 L i).contains y.1)∧MSt H K' u (!(nm2 L i).contains y.1) (nm2 L i++[y.1])∧K1.n≤K'.n∧K'.get K.n=K1.get K.n) (by
     obtain⟨w,K',a,b,c,d,e⟩:=st1.fresh y.1 (x:=.iface 178 (.int .i64 (i:Int))) rfl
     exact⟨w,K',a,b,c,d,e _ (by have:=AHeap.get_lt hst.b;omega) (by omega)⟩) ?_
    rintro _ K' ⟨rfl,st',n2,g2⟩
    rw[gv]at g2
    rw[hn1]at st'
    cases hc:(nm2 L i).contains y.1 with
    |true=>
     rw[hc]at st'
     simp(disch:=first|assumption|omega)only[W_block,P3,seval,initFr,clsA,hw]
     refine hn _ _ _ ⟨false,i+1,_,_,_,rfl,?_,st',by omega,rfl⟩ (by omega)
     rw[hs,ha,hr,hc];simp
    |false=>
     rw[hc]at st'
     simp(disch:=first|assumption|omega)only[W_block,P3,seval,initFr,clsA,g2,hw]
     have hil:IL (K'.alloc (.cells true false 1 [.int .i64 y.2] 3)) (slc K'.n 0 1 1) [y.2]:=
      ⟨⟨_,_,rfl⟩,by simp[iRow],by rw[elems_new rfl rfl];rfl⟩
     refine callK (t95 _ hil (by simp)) ?_
     rintro _ _ ⟨rfl,rfl⟩
     have st2:=st'.keeps ((Keeps.refl K').alloc (.cells true false 1 [.int .i64 y.2] 3))
     cases hb:inB L.s.length y.2 with
     |false=>
      have e:[y.2].all (inB (L.s.length:Nat))=false:=by simp[hb]
      simp(disch:=first|assumption|omega)only[W_block,P3,seval,initFr,clsA,e,hw]
      refine hn _ _ _ ⟨false,i+1,_,_,_,rfl,?_,st2.no,by omega,rfl⟩ (by omega)
      rw[ha,hb];simp
     |true=>
      have e:[y.2].all (inB (L.s.length:Nat))=true:=by simp[hb]
      simp(disch:=first|assumption|omega)only[W_block,P3,seval,initFr,clsA,e,hw]
      refine hn _ _ _ ⟨true,i+1,_,_,_,rfl,?_,st2,by omega,rfl⟩ (by omega)
      rw[hs,ha,b4,←hok,hr,hc,hb];rfl
 ·have h3:¬(i:Int)<((L.p.length:Nat):Int):=by omega
  simp(disch:=first|assumption|omega)only[W_block,P3,seval,initFr,clsA,mF,List.cons_append,List.nil_append,lp]
  refine hx 2 _ _ ?_
  have e:L.p.take i=L.p:=List.take_of_length_le (by omega)
  simp only[nm2,al2,e]at hok hst
  exact hk _ _ ⟨ok,_,_,_,_,_,_,_,_,_,_,_,_,_,_,_,_,_,_,_,_,_,_,_,_,_,rfl,hok,hst⟩
set_option maxHeartbeats 2000000 in
theorem may3{H:AHeap}{u:V4}{xs:List RV}{L:Ly}{Q:AQ}{A:Value}{fr:List Value}{K:AHeap}(h:LyR H u xs L)(hf:LyFit L)(hm:M2 A H u L fr K)
 (hk:∀fr K,M3 A H u L fr K→Q .normal fr K):W Tryz.prog 0 (cpre 1 (cpost 7 f61.body)) Q fr K:=by
 obtain⟨ok,x9,x10,x11,x12,x13,x14,x15,x16,x17,x18,x19,x20,x21,x22,x23,x24,x25,x26,x27,x28,x29,x30,x31,x32,x33,rfl,hok,hst⟩:=hm
 have lp:=h.g.len
 have ip:=Sl.is h.g
 have gl:=hst.l
 simp only[V4.l]at gl
 simp(disch:=first|assumption|omega)only[f61,cpre,cpost,mF,List.cons_append,List.nil_append,P3,seval,initFr,clsA,gl,lp]
 rw[W_block]
 refine W_loop2 (fun k fr K=>∃ok i x13 x14 xc,fr=mF A H.n L ok++[x9,x10,x11,x12,x13,x14,x15,x16,x17,x18,x19,x20,x21,x22,x23,x24,x25,u.g,.int .i64 ((L.g.length:Nat):Int),.int .i64 ((i:Nat):Int),xc,x30,x31,x32,x33]∧
  ok=(okN (nm3 L i)&&al3 L i)∧MSt H K u ok (nm3 L i)∧i≤L.g.length∧k=L.g.length-i) L.g.length
  ⟨ok,0,_,_,_,rfl,by simp[nm3,al3,hok],by simpa[nm3]using hst,by omega,rfl⟩ ?_
 clear hst hok gl
 rintro Q' k fr K ⟨ok,i,x13,x14,xc,rfl,hok,hst,hi,rfl⟩ hn hx hret
 by_cases hlt:i<L.g.length
 ·obtain⟨na,ra⟩:=(h.g.keeps hst.k).at_ hlt
  have hbl:=Sl.bn_le (h.g.keeps hst.k) (by intro e;simp at e;rw[e]at hlt;simp at hlt) (by omega)
  have h1:(0:Int)≤(i:Int):=by omega
  have h2:(i:Int)<((lenS u.g:Nat):Int):=by omega
  have h3:(i:Int)<((L.g.length:Nat):Int):=by omega
  have hw:IntKind.i64.wrap ((i:Int)+1)=((i+1:Nat):Int):=by rw[wrap_i64 (by omega) (by have:=hf.g.1;omega)];simp
  have hlen:=hf.g.2 _ (getD_mem (d:=([],0)) hlt)
  have ts:=take_snoc ([],(0:Int)) hlt
  have hs:okN (nm3 L (i+1))=(okN (nm3 L i)&&(rightB (L.g.getD i ([],0)).1 && !(nm3 L i).contains (L.g.getD i ([],0)).1)):=by
   rw[←okN_snoc];simp only[nm3,ts,List.map_append,List.map_cons,List.map_nil,List.append_assoc]
  have hn1:nm3 L i++[(L.g.getD i ([],0)).1]=nm3 L (i+1):=by simp only[nm3,ts,List.map_append,List.map_cons,List.map_nil,List.append_assoc]
  have ha:al3 L (i+1)=(al3 L i&&inB L.s.length (L.g.getD i ([],0)).2):=by
   simp only[al3,ts,List.all_append,List.all_cons,List.all_nil,Bool.and_true,Bool.and_assoc]
  generalize L.g.getD i ([],0)=y at*
  have hk1:=hst.k.n
  have o1:one1 (Value.int .i64 y.2)=True:=by simp[one1,one_int]
  have o2:one1 (Value.string ⟨y.1.toArray⟩)=True:=by simp[one1,one_str]
  have st1:=hst.keeps ((Keeps.refl K).alloc (.cells true false 2 [.string ⟨y.1.toArray⟩,.int .i64 y.2] 90))
  have gv:=AHeap.get_alloc_new K (.cells true false 2 [.string ⟨y.1.toArray⟩,.int .i64 y.2] 90)
  cases ok with
  |false=>
   simp(disch:=first|assumption|omega|(simp only[LN]<;>omega)|(simp(disch:=first|assumption|omega|(simp only[LN]<;>omega))only[row_alloc,row_set];assumption))only[W_block,P3,seval,initFr,clsA,mF,List.cons_append,List.nil_append,lp,ra,na,a_loadnvf,hw,o1,o2]
   refine hn _ _ _ ⟨false,i+1,_,_,_,rfl,?_,st1.no,by omega,rfl⟩ (by omega)
   rw[hs,ha,b4,←hok];rfl
  |true=>
   simp(disch:=first|assumption|omega|(simp only[LN]<;>omega)|(simp(disch:=first|assumption|omega|(simp only[LN]<;>omega))only[row_alloc,row_set];assumption))only[W_block,P3,seval,initFr,clsA,mF,List.cons_append,List.nil_append,lp,ra,na,a_loadnvf,hw,o1,o2]
   obtain⟨K1,hK1⟩:∃X,X=K.alloc (.cells true false 2 [.string ⟨y.1.toArray⟩,.int .i64 y.2] 90):=⟨_,rfl⟩
   have n1:K1.n=K.n+1:=by rw[hK1];rfl
   rw[←hK1]at st1 gv ⊢
   refine callQ (t93 _ _ hlen) ?_
   cases hr:rightB y.1 with
   |false=>
    simp(disch:=first|assumption|omega)only[W_block,P3,seval,initFr,clsA,hw]
    refine hn _ _ _ ⟨false,i+1,_,_,_,rfl,?_,st1.no,by omega,rfl⟩ (by omega)
    rw[hs,ha,hr];simp
   |true=>
    simp(disch:=first|assumption|omega)only[W_block,P3,seval,initFr,clsA,gv,hw]
    refine callK (R:=fun w K'=>w=.bool (!(nm3 L i).contains y.1)∧MSt H K' u (!(nm3 L i).contains y.1) (nm3 L i++[y.1])∧K1.n≤K'.n∧K'.get K.n=K1.get K.n) (by
     obtain⟨w,K',a,b,c,d,e⟩:=st1.fresh y.1 (x:=.iface 180 (.int .i64 (i:Int))) rfl
     exact⟨w,K',a,b,c,d,e _ (by have:=AHeap.get_lt hst.b;omega) (by omega)⟩) ?_
    rintro _ K' ⟨rfl,st',n2,g2⟩
    rw[gv]at g2
    rw[hn1]at st'
    cases hc:(nm3 L i).contains y.1 with
    |true=>
     rw[hc]at st'
     simp(disch:=first|assumption|omega)only[W_block,P3,seval,initFr,clsA,hw]
     refine hn _ _ _ ⟨false,i+1,_,_,_,rfl,?_,st',by omega,rfl⟩ (by omega)
     rw[hs,ha,hr,hc];simp
    |false=>
     rw[hc]at st'
     simp(disch:=first|assumption|omega)only[W_block,P3,seval,initFr,clsA,g2,hw]
     have hil:IL (K'.alloc (.cells true false 1 [.int .i64 y.2] 3)) (slc K'.n 0 1 1) [y.2]:=
      ⟨⟨_,_,rfl⟩,by simp[iRow],by rw[elems_new rfl rfl];rfl⟩
     refine callK (t95 _ hil (by simp)) ?_
     rintro _ _ ⟨rfl,rfl⟩
     have st2:=st'.keeps ((Keeps.refl K').alloc (.cells true false 1 [.int .i64 y.2] 3))
     cases hb:inB L.s.length y.2 with
     |false=>
      have e:[y.2].all (inB (L.s.length:Nat))=false:=by simp[hb]
      simp(disch:=first|assumption|omega)only[W_block,P3,seval,initFr,clsA,e,hw]
      refine hn _ _ _ ⟨false,i+1,_,_,_,rfl,?_,st2.no,by omega,rfl⟩ (by omega)
      rw[ha,hb];simp
     |true=>
      have e:[y.2].all (inB (L.s.length:Nat))=true:=by simp[hb]
      simp(disch:=first|assumption|omega)only[W_block,P3,seval,initFr,clsA,e,hw]
      refine hn _ _ _ ⟨true,i+1,_,_,_,rfl,?_,st2,by omega,rfl⟩ (by omega)
      rw[hs,ha,b4,←hok,hr,hc,hb];rfl
 ·have h3:¬(i:Int)<((L.g.length:Nat):Int):=by omega
  simp(disch:=first|assumption|omega)only[W_block,P3,seval,initFr,clsA,mF,List.cons_append,List.nil_append,lp]
  refine hx 4 _ _ ?_
  have e:L.g.take i=L.g:=List.take_of_length_le (by omega)
  simp only[nm3,al3,e]at hok hst
  exact hk _ _ ⟨ok,_,_,_,_,_,_,_,_,_,_,_,_,_,_,_,_,_,_,_,_,_,_,_,_,_,rfl,hok,hst⟩
end Go.AM.Fd

namespace Go.AM.Fd
open Nat (reduceAdd reduceEqDiff reduceLT reduceLeDiff reduceMul reduceSub)
open Go.Proofs Go.AM.F
def M4(A:Value)(H:AHeap)(u:V4)(L:Ly)(fr:List Value)(K:AHeap):Prop:=
 ∃ok x9 x10 x11 x12 x13 x14 x15 x16 x17 x18 x19 x20 x21 x22 x23 x24 x25 x26 x27 x28 x29 x30 x31 x32 x33,fr=mF A H.n L ok++[x9,x10,x11,x12,x13,x14,x15,x16,x17,x18,x19,x20,x21,x22,x23,x24,x25,x26,x27,x28,x29,x30,x31,x32,x33]∧ok=(okN (namesL L)&&(L.p.all (fun x=>inB L.s.length x.2)&&L.g.all (fun x=>inB L.s.length x.2)&&L.r.all (roB L)))∧Keeps H K
set_option maxHeartbeats 4000000 in
theorem may4{H:AHeap}{u:V4}{xs:List RV}{L:Ly}{Q:AQ}{A:Value}{fr:List Value}{K:AHeap}(h:LyR H u xs L)(hf:LyFit L)(hm:M3 A H u L fr K)
 (hk:∀fr K,M4 A H u L fr K→Q .normal fr K):W Tryz.prog 0 (cpre 1 (cpost 8 f61.body)) Q fr K:=by
 obtain⟨ok,x9,x10,x11,x12,x13,x14,x15,x16,x17,x18,x19,x20,x21,x22,x23,x24,x25,x26,x27,x28,x29,x30,x31,x32,x33,rfl,hok,hst⟩:=hm
 have lp:=h.r.len
 have el:=h.rlen
 rw[el]at lp
 have ip:=Sl.is h.r
 have gl:=hst.l
 simp only[V4.l]at gl
 simp(disch:=first|assumption|omega)only[f61,cpre,cpost,mF,List.cons_append,List.nil_append,P3,seval,initFr,clsA,gl,lp]
 rw[W_block]
 refine W_loop2 (fun k fr K=>∃ok i x15 x16 xc,fr=mF A H.n L ok++[x9,x10,x11,x12,x13,x14,x15,x16,x17,x18,x19,x20,x21,x22,x23,x24,x25,x26,x27,x28,x29,u.r,.int .i64 ((L.r.length:Nat):Int),.int .i64 ((i:Nat):Int),xc]∧
  ok=(okN (nm4 L i)&&al4 L i)∧MSt H K u ok (nm4 L i)∧i≤L.r.length∧k=L.r.length-i) L.r.length
  ⟨ok,0,_,_,_,rfl,by simp[nm4,al4,hok],by simpa[nm4]using hst,by omega,rfl⟩ ?_
 clear hst hok gl
 rintro Q' k fr K ⟨ok,i,x15,x16,xc,rfl,hok,hst,hi,rfl⟩ hn hx hret
 by_cases hlt:i<L.r.length
 ·have hlt':i<xs.length:=by omega
  obtain⟨na,ra⟩:=RL.at_ (h.r.keeps hst.k) hlt'
  obtain⟨xok,xr⟩:=h.rat hlt
  have hbl:=Sl.bn_le (h.r.keeps hst.k) (by intro e;simp at e;rw[e]at hlt';simp at hlt') (by omega)
  have h1:(0:Int)≤(i:Int):=by omega
  have h2:(i:Int)<((lenS u.r:Nat):Int):=by omega
  have h3:(i:Int)<((L.r.length:Nat):Int):=by omega
  have hw:IntKind.i64.wrap ((i:Int)+1)=((i+1:Nat):Int):=by rw[wrap_i64 (by omega) (by have:=hf.r.1;omega)];simp
  have hlen:=hf.r.2 _ (getD_mem (d:=rv0.r) hlt)
  have ts:=take_snoc rv0.r hlt
  rw[←xr]at ts hlen
  have hs:okN (nm4 L (i+1))=(okN (nm4 L i)&&(rightB (xs.getD i rv0).r.n&& !(nm4 L i).contains (xs.getD i rv0).r.n)):=by
   rw[←okN_snoc];simp only[nm4,ts,List.map_append,List.map_cons,List.map_nil,List.append_assoc]
  have hn1:nm4 L i++[(xs.getD i rv0).r.n]=nm4 L (i+1):=by simp only[nm4,ts,List.map_append,List.map_cons,List.map_nil,List.append_assoc]
  have ha:al4 L (i+1)=(al4 L i&&roB L (xs.getD i rv0).r):=by
   simp only[al4,ts,List.all_append,List.all_cons,List.all_nil,Bool.and_true,Bool.and_assoc]
  clear ts xr
  generalize xs.getD i rv0=y at*
  have hk1:=hst.k.n
  simp only[RV.row]at ra
  have iP:=Sl.is xok.p
  have iQ:=Sl.is xok.q
  have iO:=Sl.is xok.o
  have iF:=Sl.is xok.f
  have lP:=xok.p.len
  have lO:=xok.o.len
  have o1:one1 (Value.int .i64 y.r.g)=True:=by simp[one1,one_int]
  have o2:one1 (Value.string ⟨y.r.n.toArray⟩)=True:=by simp[one1,one_str]
  have o3:=one_isS iP
  have o4:=one_isS iQ
  have o5:=one_isS iO
  have o6:=one_isS iF
  obtain⟨row,hrow⟩:∃row,row=[.string ⟨y.r.n.toArray⟩,.int .i64 y.r.g,y.vp,y.vq,y.vo,y.vf]:=⟨_,rfl⟩
  have st1:=hst.keeps ((Keeps.refl K).alloc (.cells true false 6 row 87))
  have gv:=AHeap.get_alloc_new K (.cells true false 6 row 87)
  subst hrow
  have fin:∀{X:AHeap} {x15 x16 xc:Value},MSt H X u false (nm4 L (i+1))→(okN (nm4 L (i+1))&&al4 L (i+1))=false→Q' .normal (mF A H.n L false++[x9,x10,x11,x12,x13,x14,x15,x16,x17,x18,x19,x20,x21,x22,x23,x24,x25,x26,x27,x28,x29,u.r,.int .i64 ((L.r.length:Nat):Int),.int .i64 ((i+1:Nat):Int),xc]) X:=
   fun hX he=>hn _ _ _ ⟨false,i+1,_,_,_,rfl,he.symm,hX,by omega,rfl⟩ (by omega)
  simp only[mF,List.cons_append,List.nil_append]at fin
  cases ok with
  |false=>
   simp(disch:=first|assumption|omega|(simp only[LN]<;>omega)|(simp(disch:=first|assumption|omega|(simp only[LN]<;>omega))only[row_alloc,row_set];assumption))only[W_block,P3,seval,initFr,clsA,mF,List.cons_append,List.nil_append,lp,ra,na,a_loadnvf,hw,o1,o2,o3,o4,o5,o6]
   refine fin st1.no ?_
   rw[hs,ha,b4,←hok];rfl
  |true=>
   simp(disch:=first|assumption|omega|(simp only[LN]<;>omega)|(simp(disch:=first|assumption|omega|(simp only[LN]<;>omega))only[row_alloc,row_set];assumption))only[W_block,P3,seval,initFr,clsA,mF,List.cons_append,List.nil_append,lp,ra,na,a_loadnvf,hw,o1,o2,o3,o4,o5,o6]
   obtain⟨K1,hK1⟩:∃X,X=K.alloc (.cells true false 6 [.string ⟨y.r.n.toArray⟩,.int .i64 y.r.g,y.vp,y.vq,y.vo,y.vf] 87):=⟨_,rfl⟩
   have n1:K1.n=K.n+1:=by rw[hK1];rfl
   rw[←hK1]at st1 gv ⊢
   refine callQ (t93 _ _ hlen.1) ?_
   cases hr:rightB y.r.n with
   |false=>
    simp(disch:=first|assumption|omega)only[W_block,P3,seval,initFr,clsA,hw]
    refine fin st1.no ?_
    rw[hs,ha,hr];simp
   |true=>
   simp(disch:=first|assumption|omega)only[W_block,P3,seval,initFr,clsA,gv,hw]
   refine callK (R:=fun w K'=>w=.bool (!(nm4 L i).contains y.r.n)∧MSt H K' u (!(nm4 L i).contains y.r.n) (nm4 L i++[y.r.n])∧K1.n≤K'.n∧K'.get K.n=K1.get K.n) (by
    obtain⟨w,K',a,b,c,d,e⟩:=st1.fresh y.r.n (x:=.iface 181 (.int .i64 (i:Int))) rfl
    exact⟨w,K',a,b,c,d,e _ (by have:=AHeap.get_lt hst.b;omega) (by omega)⟩) ?_
   rintro _ K' ⟨rfl,st',n2,g2⟩
   rw[gv]at g2
   rw[hn1]at st'
   cases hc:(nm4 L i).contains y.r.n with
   |true=>
    rw[hc]at st'
    simp(disch:=first|assumption|omega)only[W_block,P3,seval,initFr,clsA,hw]
    refine fin st' ?_
    rw[hs,ha,hr,hc];simp
   |false=>
   rw[hc]at st'
   simp(disch:=first|assumption|omega)only[W_block,P3,seval,initFr,clsA,g2,hw]
   have hil:IL (K'.alloc (.cells true false 1 [.int .i64 y.r.g] 3)) (slc K'.n 0 1 1) [y.r.g]:=
    ⟨⟨_,_,rfl⟩,by simp[iRow],by rw[elems_new rfl rfl];rfl⟩
   refine callK (t95 _ hil (by simp)) ?_
   have st2:=st'.keeps ((Keeps.refl K').alloc (.cells true false 1 [.int .i64 y.r.g] 3))
   have g3:=((Keeps.refl K').alloc (.cells true false 1 [.int .i64 y.r.g] 3)).at_ g2
   obtain⟨K2,hK2⟩:∃X,X=K'.alloc (.cells true false 1 [.int .i64 y.r.g] 3):=⟨_,rfl⟩
   rw[←hK2]at st2 g3 ⊢
   rintro _ X ⟨rfl,hX⟩
   rw[hX]
   have xk:=xok.keeps st2.k
   cases hb:inB L.g.length y.r.g with
   |false=>
    have e:[y.r.g].all (inB (L.g.length:Nat))=false:=by simp[hb]
    simp(disch:=first|assumption|omega)only[W_block,P3,seval,initFr,clsA,e,hw]
    refine fin st2.no ?_
    rw[ha];simp[roB,hb]
   |true=>
   have e:[y.r.g].all (inB (L.g.length:Nat))=true:=by simp[hb]
   by_cases hp:y.r.path.length≤16
   rotate_left
   ·have hp':¬((y.r.path.length:Nat):Int)≤(16:Int):=by omega
    simp(disch:=first|assumption|omega)only[W_block,P3,seval,initFr,clsA,e,g3,lP,hw]
    refine fin st2.no ?_
    rw[ha];simp[roB,hp]
   have hp':((y.r.path.length:Nat):Int)≤(16:Int):=by omega
   by_cases ho:y.r.ov.length≤16
   rotate_left
   ·have ho':¬((y.r.ov.length:Nat):Int)≤(16:Int):=by omega
    simp(disch:=first|assumption|omega)only[W_block,P3,seval,initFr,clsA,e,g3,lP,lO,hw]
    refine fin st2.no ?_
    rw[ha];simp[roB,ho]
   have ho':((y.r.ov.length:Nat):Int)≤(16:Int):=by omega
   simp(disch:=first|assumption|omega)only[W_block,P3,seval,initFr,clsA,e,g3,lP,lO,hw]
   refine callQ (t95 _ xk.p (by omega)) ?_
   cases hbp:y.r.path.all (inB (L.s.length:Nat))with
   |false=>
    simp(disch:=first|assumption|omega)only[W_block,P3,seval,initFr,clsA,hw]
    refine fin st2.no ?_
    rw[ha];simp only[roB,hbp];simp
   |true=>
   simp(disch:=first|assumption|omega)only[W_block,P3,seval,initFr,clsA,g3,hw]
   refine callQ (t95 _ xk.o (by omega)) ?_
   cases hbo:y.r.ov.all (inB (L.s.length:Nat))with
   |false=>
    simp(disch:=first|assumption|omega)only[W_block,P3,seval,initFr,clsA,hw]
    refine fin st2.no ?_
    rw[ha];simp only[roB,hbo];simp
   |true=>
   simp(disch:=first|assumption|omega)only[W_block,P3,seval,initFr,clsA,g3,hw]
   refine callQ (t96 _ xk.q hlen.2.2.1) ?_
   cases hbq:(decide (y.r.pts.length≤16)&&y.r.pts.all fun x=>inB (L.p.length:Nat) x.1)with
   |false=>
    simp(disch:=first|assumption|omega)only[W_block,P3,seval,initFr,clsA,hw]
    refine fin st2.no ?_
    rw[ha];simp only[roB,needB,hbq];simp
   |true=>
   simp(disch:=first|assumption|omega)only[W_block,P3,seval,initFr,clsA,g3,hw]
   refine callQ (t96 _ xk.f hlen.2.2.2.2) ?_
   cases hbf:(decide (y.r.fl.length≤16)&&y.r.fl.all fun x=>inB (L.p.length:Nat) x.1)with
   |false=>
    simp(disch:=first|assumption|omega)only[W_block,P3,seval,initFr,clsA,hw]
    refine fin st2.no ?_
    rw[ha];simp only[roB,needB,hbf];simp
   |true=>
    simp(disch:=first|assumption|omega)only[W_block,P3,seval,initFr,clsA,hw]
    refine hn _ _ _ ⟨true,i+1,_,_,_,rfl,?_,st2,by omega,rfl⟩ (by omega)
    have er:roB L y.r=true:=by simp only[roB,needB,hb,hp,ho,hbp,hbo,hbq,hbf];rfl
    rw[hs,ha,b4,←hok,hr,hc,er];rfl
 ·have h3:¬(i:Int)<((L.r.length:Nat):Int):=by omega
  simp(disch:=first|assumption|omega)only[W_block,P3,seval,initFr,clsA,mF,List.cons_append,List.nil_append,lp]
  refine hx 6 _ _ ?_
  have e:L.r.take i=L.r:=List.take_of_length_le (by omega)
  simp only[nm4,al4,e]at hok hst
  exact hk _ _ ⟨ok,_,_,_,_,_,_,_,_,_,_,_,_,_,_,_,_,_,_,_,_,_,_,_,_,_,rfl,hok,hst.k⟩
set_option maxHeartbeats 1000000 in
theorem t61{H:AHeap}{u:V4}{xs:List RV}{L:Ly}(h:LyR H u xs L)(hf:LyFit L):∃w H',ARun Tryz.prog 0 61 [.agg u.l.toArray] H w H'∧w=.bool (mayB L)∧H'=H:=by
 refine gcb ?_
 refine walk2 f61_ok f61_n ?_
 intro Q hq1 hq2
 cases hfu:fullB L with
 |true=>
  have ls:=h.s.len
  have lp:=h.p.len
  have lg:=h.g.len
  have lr:=h.r.len
  have er:=h.rlen
  have is:=Sl.is h.s
  have ip:=Sl.is h.p
  have ig:=Sl.is h.g
  have ir:=Sl.is h.r
  have os:=Sl.one h.s
  have op:=Sl.one h.p
  have og:=Sl.one h.g
  have or:=Sl.one h.r
  have hm:mayB L=false:=by simp[mayB,hfu]
  rw[hm]at hq2
  simp only[fullB,Bool.or_eq_true,decide_eq_true_eq]at hfu
  obtain⟨us,up,ug,ur⟩:=u
  simp only[V4.l]at*
  have k1:=(Keeps.refl H).alloc (.cells true false 4 [us,up,ug,ur] 27)
  by_cases c1:(64:Int)<((L.s.length:Nat):Int)
  ·simp(disch:=first|assumption|omega)only[f61,W_block,P3,seval,initFr,clsA,ls,lp,lg,lr,er,os,op,og,or]
   exact hq2 _ _ ⟨_,rfl,rfl,k1⟩
  by_cases c2:(32:Int)<((L.p.length:Nat):Int)
  ·simp(disch:=first|assumption|omega)only[f61,W_block,P3,seval,initFr,clsA,ls,lp,lg,lr,er,os,op,og,or]
   exact hq2 _ _ ⟨_,rfl,rfl,k1⟩
  by_cases c3:(32:Int)<((L.g.length:Nat):Int)
  ·simp(disch:=first|assumption|omega)only[f61,W_block,P3,seval,initFr,clsA,ls,lp,lg,lr,er,os,op,og,or]
   exact hq2 _ _ ⟨_,rfl,rfl,k1⟩
  have c4:(64:Int)<((L.r.length:Nat):Int):=by omega
  simp(disch:=first|assumption|omega)only[f61,W_block,P3,seval,initFr,clsA,ls,lp,lg,lr,er,os,op,og,or]
  exact hq2 _ _ ⟨_,rfl,rfl,k1⟩
 |false=>
  refine W_part 6 (M1 (.agg u.l.toArray) H u L) (by kernel_rfl) (fun Q' a _ _=>may1 h hf hfu a) (fun fr K m=>?_)
  refine W_part 1 (M2 (.agg u.l.toArray) H u L) (by kernel_rfl) (fun Q' a _ _=>may2 h hf m a) (fun fr K m=>?_)
  refine W_part 1 (M3 (.agg u.l.toArray) H u L) (by kernel_rfl) (fun Q' a _ _=>may3 h hf m a) (fun fr K m=>?_)
  refine W_part 1 (M4 (.agg u.l.toArray) H u L) (by kernel_rfl) (fun Q' a _ _=>may4 h hf m a) (fun fr K m=>?_)
  obtain⟨ok,x9,x10,x11,x12,x13,x14,x15,x16,x17,x18,x19,x20,x21,x22,x23,x24,x25,x26,x27,x28,x29,x30,x31,x32,x33,rfl,hok,hst⟩:=m
  simp(disch:=first|assumption|omega)only[f61,cpost,mF,List.cons_append,List.nil_append,W_block,P3,seval,initFr,clsA]
  refine hq2 _ _ ⟨_,rfl,?_,hst⟩
  rw[mayB,hfu,←hok];rfl
end Go.AM.Fd

namespace Go.AM
structure OW (e esz:Nat) (H K:AHeap) (v:Value) (rows:List (List Value)):Prop where
 ap:AP K e esz v rows.length rows.flatten
 r:∀r∈rows,r.length=esz
 k:Keeps H K
 f:Fresh H.n v
section
variable {e esz:Nat} {H K K':AHeap} {v v':Value} {rows rows2:List (List Value)}
theorem OW.sl(h:OW e esz H K v rows):Sl K esz v rows:=h.ap.sl h.r rfl
theorem OW.keeps(h:OW e esz H K v rows)(k:Keeps K K'):OW e esz H K' v rows:=⟨h.ap.keeps k,h.r,h.k.trans k,h.f⟩
theorem OW.base{H0:AHeap}(h:OW e esz H K v rows)(k:Keeps H0 H):OW e esz H0 K v rows:=⟨h.ap,h.r,k.trans h.k,fun b hb=>Nat.le_trans k.n (h.f b hb)⟩
theorem OW.nil(e esz:Nat)(k:Keeps H K):OW e esz H K (.slice none 0 0) []:=⟨.inl ⟨rfl,rfl,rfl⟩,by simp,k,fun b hb=>by cases hb⟩
theorem OW.is(h:OW e esz H K v rows):isS v=true:=by obtain⟨a,rfl⟩:=h.ap.shape;rfl
theorem OW.one(h:OW e esz H K v rows):v.oneCell'=true:=by obtain⟨a,rfl⟩:=h.ap.shape;rfl
theorem OW.len(h:OW e esz H K v rows):lenS v=rows.length:=by obtain⟨a,rfl⟩:=h.ap.shape;rfl
theorem OW.grow(h:OW e esz H K v rows)(a:AP K' e esz v' (rows.length+rows2.length) (rows.flatten++rows2.flatten))(hr:∀r∈rows2,r.length=esz)(c:Chg (blkL v) K K')(hb:blk v'=blk v∨blk v'=some K.n):OW e esz H K' v' (rows++rows2):=by
 refine⟨by rw[List.length_append,List.flatten_append];exact a,fun r hm=>?_,h.k.chg_trans c (fun x hx=>h.f x (mem_blkL.1 hx)),fun b hb'=>?_⟩
 ·rcases List.mem_append.1 hm with hm|hm
  ·exact h.r r hm
  ·exact hr r hm
 ·rcases hb with e1|e1
  ·exact h.f b (by rw[←e1];exact hb')
  ·rw[e1]at hb';cases hb';exact h.k.n
theorem Sl.one1{row:List Value}{b:Nat}{own room:Bool}(hb:b=K.n)(hl:row.length=esz):Sl (K.alloc (.cells own room esz row e)) esz (slc b 0 1 1) [row]:=
 ⟨⟨_,_,rfl⟩,by simp[hl],by rw[elems_new hb (by simpa using hl)];simp⟩
end
section
variable {P:Program} {ng:Nat} {KF:List Value→AHeap→Prop} {fr tm:List Value} {tr:List TE} {e esz b:Nat} {H K:AHeap} {s x:Value} {rows rows2:List (List Value)}
theorem OW.appR{d:D}{r:List AOper}(h:OW e esz H K s rows)(hx:Sl K esz x rows2)(hs:(rows.length+rows2.length)*b≤140737488355328∧rows.length+rows2.length≤140737488355328)
 (hk:∀v' K',OW e esz H K' v' (rows++rows2)→Chg (blkL s) K K'→RW P ng r (d.frame v' fr) (d.temps v' tm) K' KF):goR P ng (asem (.app e esz b s x) K) d r fr tm KF:=
 appG h.ap hx.sh hx.el (flat_len hx.row) hs (fun v' K' a c hb=>hk v' K' (h.grow a hx.row c hb) c)
theorem OW.appD{d:D}{r:List (AOper×List Nat)}(h:OW e esz H K s rows)(hx:Sl K esz x rows2)(hs:(rows.length+rows2.length)*b≤140737488355328∧rows.length+rows2.length≤140737488355328)
 (hk:∀v' K',OW e esz H K' v' (rows++rows2)→Chg (blkL s) K K'→RD P ng r (d.frame v' fr) (d.temps v' tm) K' (tr++[⟨3,[],K,K'⟩]) KF):goD P ng (.app e esz b s x) (asem (.app e esz b s x) K) d [] r fr tm K tr KF:=
 appGD h.ap hx.sh hx.el (flat_len hx.row) hs (fun v' K' a c hb=>hk v' K' (h.grow a hx.row c hb) c)
end
end Go.AM

namespace Go.AM.Fd
open Nat (reduceAdd reduceEqDiff reduceLT reduceLeDiff reduceMul reduceSub)
open Go.Proofs Go.AM.F
def vB(H:AHeap)(u:V4):AHeap:=H.alloc (.cells true false 4 u.l 27)
theorem vB_k(H:AHeap)(u:V4):Keeps H (vB H u):=(Keeps.refl H).alloc _
theorem vB_g(H:AHeap)(u:V4):(vB H u).get H.n=some (.cells true false 4 u.l 27):=AHeap.get_alloc_new H _
end Go.AM.Fd

namespace Go.AM.Fd
open Nat (reduceAdd reduceEqDiff reduceLT reduceLeDiff reduceMul reduceSub)
open Go.Proofs Go.AM.F
theorem nodup_take{α:Type}[BEq α][LawfulBEq α]{l:List α}{i:Nat}{d:α}(h:i<l.length)(hc:(l.take i).contains (l.getD i d)=true):¬l.Nodup:=by
 intro hn
 have e:l=l.take i++l.drop i:=(List.take_append_drop i l).symm
 rw[e]at hn
 have h2:=(List.nodup_append.1 hn).2.2
 have h3:l.getD i d∈l.drop i:=by
  rw[List.mem_iff_getElem?]
  exact⟨0,by simp[List.getD,List.getElem?_eq_getElem h]⟩
 exact h2 _ (by simpa using hc) _ h3 rfl
end Go.AM.Fd

namespace Go.AM.Fd
open Nat (reduceAdd reduceEqDiff reduceLT reduceLeDiff reduceMul reduceSub)
open Go.Proofs Go.AM.F
structure LyIn (T:Nat) (L:Ly):Prop where
 s:L.s.length≤T∧∀x∈L.s,x.length≤T
 p:L.p.length≤T∧∀x∈L.p,x.1.length≤T
 g:L.g.length≤T∧∀x∈L.g,x.1.length≤T
 r:L.r.length≤T∧∀x∈L.r,x.n.length≤T∧x.path.length≤T∧x.pts.length≤T∧x.ov.length≤T∧x.fl.length≤T
def WG(A:Value)(H:AHeap)(u:V4)(top:Nat)(fr:List Value)(K:AHeap):Prop:=
 ∃(n:Int) (x5 x6 x7 x8 x9 x10 x11 x12 x13 x14:Value),fr=[A,.int .i64 ((top:Nat):Int),ptr H.n 0,.int .i64 0,.int .i64 n,x5,x6,x7,x8,x9,x10,x11,x12,x13,x14]∧Keeps (vB H u) K
set_option maxHeartbeats 1000000 in
theorem wgt1{H:AHeap}{u:V4}{xs:List RV}{L:Ly}{Q:AQ}{A:Value}{fr:List Value}{K:AHeap}{top:Nat}(ht:top≤1000000)(h:LyR H u xs L)(hf:LyIn 9223372036854775807 L)(hm:WG A H u top fr K)
 (hk:∀fr K,WG A H u top fr K→Q .normal fr K):W Tryz.prog 0 (cpre 1 (cpost 2 f7.body)) Q fr K:=by
 obtain⟨n0,x5,x6,x7,x8,x9,x10,x11,x12,x13,x14,rfl,hkK⟩:=hm
 have lp:=h.s.len
 have ip:=Sl.is h.s
 simp(disch:=first|assumption|omega)only[f7,cpre,cpost,P3,seval,initFr,clsA]
 rw[W_block]
 refine W_loop2 (fun k fr K=>∃i n xc,fr=[A,.int .i64 ((top:Nat):Int),ptr H.n 0,.int .i64 0,.int .i64 n,.int .i64 ((i:Nat):Int),x6,x7,x8,x9,xc,x11,x12,x13,x14]∧Keeps (vB H u) K∧i≤L.s.length∧k=L.s.length-i) L.s.length
  ⟨0,n0,_,rfl,hkK,by omega,rfl⟩ ?_
 clear hkK
 rintro Q' k fr K ⟨i,n,xc,rfl,hkK,hi,rfl⟩ hn hx hret
 have gl:=hkK.at_ (vB_g H u)
 simp only[V4.l]at gl
 by_cases hlt:i<L.s.length
 ·have h3:(i:Int)<((L.s.length:Nat):Int):=by omega
  by_cases htn:n≤((top:Nat):Int)
  ·obtain⟨na,ra⟩:=(h.s.keeps ((vB_k H u).trans hkK)).at_ hlt
   have h1:(0:Int)≤(i:Int):=by omega
   have h2:(i:Int)<((lenS u.s:Nat):Int):=by omega
   have h4:=htn
   have hlf:=hf.s.1
   have hw:IntKind.i64.wrap ((i:Int)+1)=((i+1:Nat):Int):=by rw[wrap_i64 (by omega) (by omega)];simp
   unfold tRow at ra
   simp(disch:=first|assumption|omega)only[W_block,P3,seval,initFr,clsA,gl,lp,ra,na,a_load1v,a_lens,hw]
   refine hn _ _ _ ⟨i+1,_,_,rfl,hkK,by omega,rfl⟩ (by omega)
  ·have h4:=htn
   simp(disch:=first|assumption|omega)only[W_block,P3,seval,initFr,clsA,gl,lp]
   refine hx 0 _ _ ?_
   exact hk _ _ ⟨n,_,_,_,_,_,_,_,_,_,_,rfl,hkK⟩
 ·have h3:¬(i:Int)<((L.s.length:Nat):Int):=by omega
  simp(disch:=first|assumption|omega)only[W_block,P3,seval,initFr,clsA,gl,lp]
  refine hx 0 _ _ ?_
  exact hk _ _ ⟨n,_,_,_,_,_,_,_,_,_,_,rfl,hkK⟩
set_option maxHeartbeats 1000000 in
theorem wgt2{H:AHeap}{u:V4}{xs:List RV}{L:Ly}{Q:AQ}{A:Value}{fr:List Value}{K:AHeap}{top:Nat}(ht:top≤1000000)(h:LyR H u xs L)(hf:LyIn 9223372036854775807 L)(hm:WG A H u top fr K)
 (hk:∀fr K,WG A H u top fr K→Q .normal fr K):W Tryz.prog 0 (cpre 1 (cpost 3 f7.body)) Q fr K:=by
 obtain⟨n0,x5,x6,x7,x8,x9,x10,x11,x12,x13,x14,rfl,hkK⟩:=hm
 have lp:=h.p.len
 have ip:=Sl.is h.p
 simp(disch:=first|assumption|omega)only[f7,cpre,cpost,P3,seval,initFr,clsA]
 rw[W_block]
 refine W_loop2 (fun k fr K=>∃i n xc,fr=[A,.int .i64 ((top:Nat):Int),ptr H.n 0,.int .i64 0,.int .i64 n,x5,.int .i64 ((i:Nat):Int),x7,x8,x9,x10,xc,x12,x13,x14]∧Keeps (vB H u) K∧i≤L.p.length∧k=L.p.length-i) L.p.length
  ⟨0,n0,_,rfl,hkK,by omega,rfl⟩ ?_
 clear hkK
 rintro Q' k fr K ⟨i,n,xc,rfl,hkK,hi,rfl⟩ hn hx hret
 have gl:=hkK.at_ (vB_g H u)
 simp only[V4.l]at gl
 by_cases hlt:i<L.p.length
 ·have h3:(i:Int)<((L.p.length:Nat):Int):=by omega
  by_cases htn:n≤((top:Nat):Int)
  ·obtain⟨na,ra⟩:=(h.p.keeps ((vB_k H u).trans hkK)).at_ hlt
   have h1:(0:Int)≤(i:Int):=by omega
   have h2:(i:Int)<((lenS u.p:Nat):Int):=by omega
   have h4:=htn
   have hlf:=hf.p.1
   have hw:IntKind.i64.wrap ((i:Int)+1)=((i+1:Nat):Int):=by rw[wrap_i64 (by omega) (by omega)];simp
   simp(disch:=first|assumption|omega)only[W_block,P3,seval,initFr,clsA,gl,lp,ra,na,a_load1v,a_lens,hw]
   refine hn _ _ _ ⟨i+1,_,_,rfl,hkK,by omega,rfl⟩ (by omega)
  ·have h4:=htn
   simp(disch:=first|assumption|omega)only[W_block,P3,seval,initFr,clsA,gl,lp]
   refine hx 2 _ _ ?_
   exact hk _ _ ⟨n,_,_,_,_,_,_,_,_,_,_,rfl,hkK⟩
 ·have h3:¬(i:Int)<((L.p.length:Nat):Int):=by omega
  simp(disch:=first|assumption|omega)only[W_block,P3,seval,initFr,clsA,gl,lp]
  refine hx 2 _ _ ?_
  exact hk _ _ ⟨n,_,_,_,_,_,_,_,_,_,_,rfl,hkK⟩
set_option maxHeartbeats 1000000 in
theorem wgt3{H:AHeap}{u:V4}{xs:List RV}{L:Ly}{Q:AQ}{A:Value}{fr:List Value}{K:AHeap}{top:Nat}(ht:top≤1000000)(h:LyR H u xs L)(hf:LyIn 9223372036854775807 L)(hm:WG A H u top fr K)
 (hk:∀fr K,WG A H u top fr K→Q .normal fr K):W Tryz.prog 0 (cpre 1 (cpost 4 f7.body)) Q fr K:=by
 obtain⟨n0,x5,x6,x7,x8,x9,x10,x11,x12,x13,x14,rfl,hkK⟩:=hm
 have lp:=h.g.len
 have ip:=Sl.is h.g
 simp(disch:=first|assumption|omega)only[f7,cpre,cpost,P3,seval,initFr,clsA]
 rw[W_block]
 refine W_loop2 (fun k fr K=>∃i n xc,fr=[A,.int .i64 ((top:Nat):Int),ptr H.n 0,.int .i64 0,.int .i64 n,x5,x6,.int .i64 ((i:Nat):Int),x8,x9,x10,x11,xc,x13,x14]∧Keeps (vB H u) K∧i≤L.g.length∧k=L.g.length-i) L.g.length
  ⟨0,n0,_,rfl,hkK,by omega,rfl⟩ ?_
 clear hkK
 rintro Q' k fr K ⟨i,n,xc,rfl,hkK,hi,rfl⟩ hn hx hret
 have gl:=hkK.at_ (vB_g H u)
 simp only[V4.l]at gl
 by_cases hlt:i<L.g.length
 ·have h3:(i:Int)<((L.g.length:Nat):Int):=by omega
  by_cases htn:n≤((top:Nat):Int)
  ·obtain⟨na,ra⟩:=(h.g.keeps ((vB_k H u).trans hkK)).at_ hlt
   have h1:(0:Int)≤(i:Int):=by omega
   have h2:(i:Int)<((lenS u.g:Nat):Int):=by omega
   have h4:=htn
   have hlf:=hf.g.1
   have hw:IntKind.i64.wrap ((i:Int)+1)=((i+1:Nat):Int):=by rw[wrap_i64 (by omega) (by omega)];simp
   simp(disch:=first|assumption|omega)only[W_block,P3,seval,initFr,clsA,gl,lp,ra,na,a_load1v,a_lens,hw]
   refine hn _ _ _ ⟨i+1,_,_,rfl,hkK,by omega,rfl⟩ (by omega)
  ·have h4:=htn
   simp(disch:=first|assumption|omega)only[W_block,P3,seval,initFr,clsA,gl,lp]
   refine hx 4 _ _ ?_
   exact hk _ _ ⟨n,_,_,_,_,_,_,_,_,_,_,rfl,hkK⟩
 ·have h3:¬(i:Int)<((L.g.length:Nat):Int):=by omega
  simp(disch:=first|assumption|omega)only[W_block,P3,seval,initFr,clsA,gl,lp]
  refine hx 4 _ _ ?_
  exact hk _ _ ⟨n,_,_,_,_,_,_,_,_,_,_,rfl,hkK⟩
set_option maxHeartbeats 2000000 in
theorem wgt4{H:AHeap}{u:V4}{xs:List RV}{L:Ly}{Q:AQ}{A:Value}{fr:List Value}{K:AHeap}{top:Nat}(ht:top≤1000000)(h:LyR H u xs L)(hf:LyIn 9223372036854775807 L)(hm:WG A H u top fr K)
 (hk:∀fr K,WG A H u top fr K→Q .normal fr K):W Tryz.prog 0 (cpre 1 (cpost 5 f7.body)) Q fr K:=by
 obtain⟨n0,x5,x6,x7,x8,x9,x10,x11,x12,x13,x14,rfl,hkK⟩:=hm
 have lp:=h.r.len
 rw[h.rlen]at lp
 have ip:=Sl.is h.r
 simp(disch:=first|assumption|omega)only[f7,cpre,cpost,P3,seval,initFr,clsA]
 rw[W_block]
 refine W_loop2 (fun k fr K=>∃i n x9 xc xd,fr=[A,.int .i64 ((top:Nat):Int),ptr H.n 0,.int .i64 0,.int .i64 n,x5,x6,x7,.int .i64 ((i:Nat):Int),x9,x10,x11,x12,xc,xd]∧Keeps (vB H u) K∧i≤L.r.length∧k=L.r.length-i) L.r.length
  ⟨0,n0,_,_,_,rfl,hkK,by omega,rfl⟩ ?_
 clear hkK
 rintro Q' k fr K ⟨i,n,x9,xc,xd,rfl,hkK,hi,rfl⟩ hn hx hret
 have gl:=hkK.at_ (vB_g H u)
 simp only[V4.l]at gl
 by_cases hlt:i<L.r.length
 ·have h3:(i:Int)<((L.r.length:Nat):Int):=by omega
  by_cases htn:n≤((top:Nat):Int)
  ·have hlt':i<xs.length:=by rw[h.rlen];exact hlt
   obtain⟨na,ra⟩:=RL.at_ (h.r.keeps ((vB_k H u).trans hkK)) hlt'
   obtain⟨xok,xr⟩:=h.rat hlt
   have hbl:=Sl.bn_le (h.r.keeps ((vB_k H u).trans hkK)) (by intro e;simp at e;rw[e]at hlt';simp at hlt') (by omega)
   have h1:(0:Int)≤(i:Int):=by omega
   have h2:(i:Int)<((lenS u.r:Nat):Int):=by omega
   have h4:=htn
   have hl:=hf.r.2 _ (getD_mem (d:=rv0.r) hlt)
   have hlf:=hf.r.1
   have hw:IntKind.i64.wrap ((i:Int)+1)=((i+1:Nat):Int):=by rw[wrap_i64 (by omega) (by omega)];simp
   generalize xs.getD i rv0=y at*
   simp only[RV.row]at ra
   have iP:=Sl.is xok.p
   have iQ:=Sl.is xok.q
   have iO:=Sl.is xok.o
   have iF:=Sl.is xok.f
   have lP:=xok.p.len
   have lQ:=xok.q.len
   have lO:=xok.o.len
   have lF:=xok.f.len
   have o3:=one_isS iP
   have o4:=one_isS iQ
   have o5:=one_isS iO
   have o6:=one_isS iF
   obtain⟨m,hm⟩:∃m:Int,m=IntKind.i64.wrap (IntKind.i64.wrap (IntKind.i64.wrap (IntKind.i64.wrap (n+1)+((y.r.n.length:Nat):Int))+((y.r.path.length:Nat):Int))+((y.r.pts.length:Nat):Int)):=⟨_,rfl⟩
   have k1:=hkK.trans ((Keeps.refl K).alloc (.cells true false 6 [.string ⟨y.r.n.toArray⟩,.int .i64 y.r.g,y.vp,y.vq,y.vo,y.vf] 87))
   by_cases hmt:m≤((top:Nat):Int)
   ·have h5:=hmt
    simp(disch:=first|assumption|omega|(simp only[LN]<;>omega)|(simp(disch:=first|assumption|omega|(simp only[LN]<;>omega))only[row_alloc,row_set];assumption))only[W_block,P3,seval,initFr,clsA,gl,lp,ra,na,a_loadnvf,a_lens,lP,lQ,lO,lF,o3,o4,o5,o6,hw,←hm]
    refine hn _ _ _ ⟨i+1,_,_,_,_,rfl,k1,by omega,rfl⟩ (by omega)
   ·have h5:=hmt
    simp(disch:=first|assumption|omega|(simp only[LN]<;>omega)|(simp(disch:=first|assumption|omega|(simp only[LN]<;>omega))only[row_alloc,row_set];assumption))only[W_block,P3,seval,initFr,clsA,gl,lp,ra,na,a_loadnvf,a_lens,lP,lQ,lO,lF,o3,o4,o5,o6,hw,←hm]
    refine hn _ _ _ ⟨i+1,m,_,_,_,rfl,k1,by omega,rfl⟩ (by omega)
  ·have h4:=htn
   simp(disch:=first|assumption|omega)only[W_block,P3,seval,initFr,clsA,gl,lp]
   refine hx 6 _ _ ?_
   exact hk _ _ ⟨n,_,_,_,_,_,_,_,_,_,_,rfl,hkK⟩
 ·have h3:¬(i:Int)<((L.r.length:Nat):Int):=by omega
  simp(disch:=first|assumption|omega)only[W_block,P3,seval,initFr,clsA,gl,lp]
  refine hx 6 _ _ ?_
  exact hk _ _ ⟨n,_,_,_,_,_,_,_,_,_,_,rfl,hkK⟩
theorem t7{H:AHeap}{u:V4}{xs:List RV}{L:Ly}{top:Nat}(ht:top≤1000000)(h:LyR H u xs L)(hf:LyIn 9223372036854775807 L):∃w H',ARun Tryz.prog 0 7 [.agg u.l.toArray,.int .i64 ((top:Nat):Int)] H w H'∧(∃n:Int,w=.int .i64 n)∧H'=H:=by
 suffices h':∃w H',ARun Tryz.prog 0 7 [.agg u.l.toArray,.int .i64 ((top:Nat):Int)] H w H'∧(∃n:Int,w=.int .i64 n)∧Keeps H H' by
  obtain⟨_,_,a,⟨n,rfl⟩,k⟩:=h'
  exact⟨_,_,a.gc0 k (.inr (.int _ _)),⟨n,rfl⟩,rfl⟩
 refine walk2 f7_ok f7_n ?_
 intro Q hq1 hq2
 refine W_part 2 (WG (.agg u.l.toArray) H u top) (by kernel_rfl) ?_ (fun fr K m=>?_)
 ·intro Q' a _ _
  have os:=Sl.one h.s
  have op:=Sl.one h.p
  have og:=Sl.one h.g
  have or:=Sl.one h.r
  unfold WG vB at*
  obtain⟨us,up,ug,ur⟩:=u
  simp only[V4.l]at*
  simp(disch:=first|assumption|omega)only[f7,cpre,W_block,P3,seval,initFr,clsA,os,op,og,or]
  exact a _ _ ⟨0,_,_,_,_,_,_,_,_,_,_,rfl,Keeps.refl _⟩
 refine W_part 1 (WG (.agg u.l.toArray) H u top) (by kernel_rfl) (fun Q' a _ _=>wgt1 ht h hf m a) (fun fr K m=>?_)
 refine W_part 1 (WG (.agg u.l.toArray) H u top) (by kernel_rfl) (fun Q' a _ _=>wgt2 ht h hf m a) (fun fr K m=>?_)
 refine W_part 1 (WG (.agg u.l.toArray) H u top) (by kernel_rfl) (fun Q' a _ _=>wgt3 ht h hf m a) (fun fr K m=>?_)
 refine W_part 1 (WG (.agg u.l.toArray) H u top) (by kernel_rfl) (fun Q' a _ _=>wgt4 ht h hf m a) (fun fr K m=>?_)
 obtain⟨n,x5,x6,x7,x8,x9,x10,x11,x12,x13,x14,rfl,hkK⟩:=m
 simp(disch:=first|assumption|omega)only[f7,cpost,W_block,P3,seval,initFr,clsA]
 exact hq2 _ _ ⟨_,rfl,⟨n,rfl⟩,(vB_k H u).trans hkK⟩
end Go.AM.Fd

namespace Go.AM
inductive CKd
 |int (k:IntKind)
 |bool
 |str
 |sl (t:TypeId)
def ckFs(P:Program)(f:TypeId→Option (List CKd)):List Field→Nat→Option (List CKd)
 |[],_=>some []
 |fd::r,off=>if fd.offset=off then match f fd.type with
  |some l=>if P.cellsOf fd.type=l.length then(ckFs P f r (off+l.length)).map (l++ ·)else none
  |none=>none
  else none
def ckT(P:Program):Nat→TypeId→Option (List CKd)
 |0,_=>none
 |d+1,t=>match P.underlying t with
  |some .bool=>some [.bool]
  |some (.int k)=>some [.int k]
  |some .string=>some [.str]
  |some (.slice _)=>some [.sl t]
  |some (.struct fs)=>match ckFs P (ckT P d) fs.toList 0 with
   |some l=>if P.cellsOf t=l.length then some l else none
   |none=>none
  |some (.array n e)=>match ckT P d e with
   |some l=>if P.cellsOf e=l.length∧P.cellsOf t=n*l.length then some (List.replicate n l).flatten else none
   |none=>none
  |_=>none
def fits(P:Program)(G:Gf):CKd→Value→Prop
 | .int k,v=>∃n,v=.int k n∧(Lit.int k n).wf=true
 | .bool,v=>∃b,v=.bool b
 | .str,v=>∃s,v=.string s∧s.size≤maxLen∧s.size≤reachBytes
 | .sl t,v=>AR P G t [v]
def fitsL(P:Program)(G:Gf):List CKd→List Value→Prop
 |[],[]=>True
 |k::ks,v::vs=>fits P G k v∧fitsL P G ks vs
 |_,_=>False
section
variable {P:Program} {G:Gf}
theorem fitsL.inv{k:CKd}{ks:List CKd}{cs:List Value}(h:fitsL P G (k::ks) cs):∃v vs,cs=v::vs∧fits P G k v∧fitsL P G ks vs:=by
 cases cs with
 |nil=>exact h.elim
 |cons v vs=>exact⟨v,vs,rfl,h.1,h.2⟩
theorem fitsL.end_{cs:List Value}(h:fitsL P G [] cs):cs=[]:=by
 cases cs with
 |nil=>rfl
 |cons v vs=>exact h.elim
theorem fitsL.app:∀{a b:List CKd} {c d:List Value},fitsL P G a c→fitsL P G b d→fitsL P G (a++b) (c++d)
 |[],_,[],_,_,h=>h
 |_::_,_,_::_,_,h,k=>⟨h.1,fitsL.app h.2 k⟩
theorem fits_u{k:IntKind}(hk:k.signed=false){v:Value}(h:fits P G (.int k) v):∃n:Nat,v=.int k n∧n<2 ^ k.bits:=by
 obtain⟨n,rfl,hw⟩:=h
 simp only[Lit.wf,Bool.and_eq_true,decide_eq_true_eq,IntKind.min,IntKind.max,hk,Bool.false_eq_true,if_false]at hw
 refine⟨n.toNat,by rw[Int.toNat_of_nonneg hw.1],?_⟩
 have h1:=hw.1
 have h2:=hw.2
 have:(n.toNat:Int)<((2 ^ k.bits:Nat):Int):=by
  rw[Int.toNat_of_nonneg h1]
  push_cast
  omega
 exact Int.ofNat_lt.1 this
theorem fits_u8{v:Value}(h:fits P G (.int .u8) v):∃n:Nat,v=.int .u8 n∧n<256:=fits_u rfl h
theorem fits_u32{v:Value}(h:fits P G (.int .u32) v):∃n:Nat,v=.int .u32 n∧n<4294967296:=fits_u rfl h
theorem fits_u64{v:Value}(h:fits P G (.int .u64) v):∃n:Nat,v=.int .u64 n∧n<18446744073709551616:=fits_u rfl h
theorem fitsL_fields{f:TypeId→Option (List CKd)}{cs:List Value}:∀(fs:List Field) (off:Nat) (ks:List CKd),ckFs P f fs off=some ks→cs.length=off+ks.length→
 (∀fd∈fs,∀l,f fd.type=some l→P.cellsOf fd.type=l.length→fitsL P G l ((cs.drop fd.offset).take (P.cellsOf fd.type)))→fitsL P G ks (cs.drop off)
 |[],off,ks,h,hl,_=>by
  simp only[ckFs,Option.some.injEq]at h;subst h
  rw[List.drop_of_length_le (by simp at hl;omega)];trivial
 |fd::fs,off,ks,h,hl,hf=>by
  simp only[ckFs]at h
  split at h
  ·rename_i h1
   split at h
   ·rename_i l h2
    split at h
    ·rename_i h3
     simp only[Option.map_eq_some_iff]at h
     obtain⟨r,h4,rfl⟩:=h
     have h5:=hf fd (by simp) l h2 h3
     have h6:=fitsL_fields fs (off+l.length) r h4 (by rw[hl,List.length_append];omega) (fun x hx=>hf x (by simp[hx]))
     rw[h1,h3]at h5
     have:=h5.app h6
     rwa [←List.drop_drop,List.take_append_drop]at this
    ·cases h
   ·cases h
  ·cases h
theorem fitsL_rep{l:List CKd}{cs:List Value}:∀(n:Nat),(∀i,i<n→fitsL P G l ((cs.drop (i*l.length)).take l.length))→fitsL P G (List.replicate n l).flatten (cs.take (n*l.length))
 |0,_=>by simp[fitsL]
 |n+1,h=>by
  have h1:=fitsL_rep n (fun i hi=>h i (by omega))
  rw[List.replicate_succ',List.flatten_append,Nat.add_mul,Nat.one_mul,List.take_add]
  simpa using h1.app (h n (by omega))
theorem AR.flat:∀{d:Nat} {t:TypeId} {ks:List CKd} {cs:List Value},ckT P d t=some ks→AR P G t cs→fitsL P G ks cs
 |0,t,ks,cs,h,_=>by simp[ckT]at h
 |d+1,t,ks,cs,h,ha=>by
  have ha0:=ha
  cases ha with
  |bool hu=>simp only[ckT,hu,Option.some.injEq]at h;subst h;exact⟨⟨_,rfl⟩,trivial⟩
  |int hu hw=>simp only[ckT,hu,Option.some.injEq]at h;subst h;exact⟨⟨_,rfl,hw⟩,trivial⟩
  |str hu hs=>simp only[ckT,hu,Option.some.injEq]at h;subst h;exact⟨⟨_,rfl,hs⟩,trivial⟩
  |nil hu=>simp only[ckT,hu,Option.some.injEq]at h;subst h;exact⟨ha0,trivial⟩
  |zero hu _=>simp only[ckT,hu,Option.some.injEq]at h;subst h;exact⟨ha0,trivial⟩
  |sl hu=>simp only[ckT,hu,Option.some.injEq]at h;subst h;exact⟨ha0,trivial⟩
  |struct hu hl hf=>
   rename_i fs
   simp only[ckT,hu]at h
   split at h
   ·rename_i l h1
    split at h
    ·rename_i h2
     simp only[Option.some.injEq]at h;subst h
     have:=fitsL_fields (cs:=cs) (G:=G) fs.toList 0 _ h1 (by rw[hl,h2];omega) (fun fd hfd l hl' hz=>by
      obtain⟨i,hi,hfi⟩:=List.mem_iff_getElem.1 hfd
      have hi':i<fs.size:=by simpa using hi
      exact(hf i fd (by rw[Array.getElem?_eq_getElem hi',←hfi];simp)).flat hl')
     simpa using this
    ·cases h
   ·cases h
  |array hu hl hi=>
   rename_i e n
   simp only[ckT,hu]at h
   split at h
   ·rename_i l h1
    split at h
    ·rename_i h2
     simp only[Option.some.injEq]at h;subst h
     have:=fitsL_rep (P:=P) (G:=G) (l:=l) (cs:=cs) n (fun i hin=>by
      have:=hi i hin
      rw[h2.1]at this
      exact this.flat h1)
     rwa [List.take_of_length_le (by rw[hl,h2.2];omega)]at this
    ·cases h
   ·cases h
end
end Go.AM

namespace Go.AM.Fd
open Go.Proofs Go.AM.F
theorem str_exL(s:ByteArray):∃l:List UInt8,s=⟨l.toArray⟩:=⟨s.data.toList,by cases s;simp⟩
theorem ar_rows{P:Program}{H:AHeap}{v:Value}{t e esz:Nat}(hu:P.underlying t=some (.slice e))(hz:P.cellsOf e=esz)(h:AR P H.get t [v]):∃rows,(Sl H esz v rows∧rows.length≤9223372036854775807)∧∀r∈rows,AR P H.get e r:=by
 obtain⟨rows,hs,hr⟩:=h.rows hu hz
 refine⟨rows,⟨hs,?_⟩,hr⟩
 have hl:=hs.len
 rcases h.slice_inv hu with h2|⟨x,hx,h2⟩|⟨b,n,k,c,u,h2,h3,h4,h5,_⟩
 ·cases h2;simp only[lenS]at hl;omega
 ·cases h2;simp only[lenS]at hl;omega
 ·cases h2
  simp only[slc,lenS]at hl
  have:maxLen=9223372036854775807:=by unfold maxLen;rfl
  omega
theorem ar_ints{H:AHeap}{v:Value}(h:AR Tryz.prog H.get 84 [v]):∃l,IL H v l∧l.length≤9223372036854775807:=by
 obtain⟨rows,⟨hs,hl⟩,hr⟩:=ar_rows (e:=3) (esz:=1) (by kernel_rfl) (by kernel_rfl) h
 obtain⟨l,rfl,_⟩:=list_choose (f:=iRow) (Q:=fun _=>True) (l:=rows) (fun r hm=>by
  obtain⟨n,hb,_⟩:=(hr r hm).int_inv (by kernel_rfl)
  exact⟨n,hb,trivial⟩)
 exact⟨l,hs,by simpa using hl⟩
theorem ar_needs{H:AHeap}{v:Value}(h:AR Tryz.prog H.get 85 [v]):∃l,NL H v l∧l.length≤9223372036854775807:=by
 obtain⟨rows,⟨hs,hl⟩,hr⟩:=ar_rows (e:=120) (esz:=2) (by kernel_rfl) (by kernel_rfl) h
 obtain⟨l,rfl,_⟩:=list_choose (f:=nRow) (Q:=fun _=>True) (l:=rows) (fun r hm=>by
  have h1:=(hr r hm).flat (d:=5) (ks:=[.int .i64,.bool]) (by kernel_rfl)
  obtain⟨a,as1,rfl,ha,h2⟩:=h1.inv
  obtain⟨b,bs,rfl,hb,h3⟩:=h2.inv
  have:=h3.end_;subst this
  obtain⟨n,rfl,_⟩:=ha
  obtain⟨m,rfl⟩:=hb
  exact⟨(n,m),rfl,trivial⟩)
 exact⟨l,hs,by simpa using hl⟩
theorem ar_txs{H:AHeap}{v:Value}(h:AR Tryz.prog H.get 22 [v]):∃l,TL H v l∧l.length≤9223372036854775807∧∀x∈l,x.length≤9223372036854775807:=by
 obtain⟨rows,⟨hs,hl⟩,hr⟩:=ar_rows (e:=9) (esz:=1) (by kernel_rfl) (by kernel_rfl) h
 obtain⟨l,rfl,hq⟩:=list_choose (f:=tRow) (Q:=fun x=>x.length≤9223372036854775807) (l:=rows) (fun r hm=>by
  obtain⟨b,hb,hz⟩:=(hr r hm).str_inv (by kernel_rfl)
  obtain⟨l,rfl⟩:=str_exL b
  have:maxLen=9223372036854775807:=by unfold maxLen;rfl
  exact⟨l,hb,by have:(⟨l.toArray⟩:ByteArray).size=l.length:=by simp[ByteArray.size]
                omega⟩)
 exact⟨l,hs,by simpa using hl,hq⟩
theorem ar_named{H:AHeap}{t e:Nat}{v:Value}(h1:Program.underlying Tryz.prog t=some (.slice e))(h2:Program.cellsOf Tryz.prog e=2)(h3:ckT Tryz.prog 6 e=some [.str,.int .i64])(h:AR Tryz.prog H.get t [v]):∃l,PL H v l∧l.length≤9223372036854775807∧∀x∈l,x.1.length≤9223372036854775807:=by
 obtain⟨rows,⟨hs,hl⟩,hr⟩:=ar_rows (e:=e) (esz:=2) h1 h2 h
 obtain⟨l,rfl,hq⟩:=list_choose (f:=pRow) (Q:=fun x=>x.1.length≤9223372036854775807) (l:=rows) (fun r hm=>by
  have h1:=(hr r hm).flat h3
  obtain⟨a,as1,rfl,ha,h2⟩:=h1.inv
  obtain⟨b,bs,rfl,hb,h3⟩:=h2.inv
  have:=h3.end_;subst this
  obtain⟨s,rfl,hz⟩:=ha
  obtain⟨m,rfl,_⟩:=hb
  obtain⟨l,rfl⟩:=str_exL s
  have:maxLen=9223372036854775807:=by unfold maxLen;rfl
  exact⟨(l,m),rfl,by have:(⟨l.toArray⟩:ByteArray).size=l.length:=by simp[ByteArray.size]
                     simp only;omega⟩)
 exact⟨l,hs,by simpa using hl,hq⟩
theorem ar_route{H:AHeap}{r:List Value}(h:AR Tryz.prog H.get 87 r):∃x:RV,r=x.row∧x.ok H∧x.r.n.length≤9223372036854775807∧x.r.path.length≤9223372036854775807∧x.r.pts.length≤9223372036854775807∧x.r.ov.length≤9223372036854775807∧x.r.fl.length≤9223372036854775807:=by
 have h1:=h.flat (d:=6) (ks:=[.str,.int .i64,.sl 84,.sl 85,.sl 84,.sl 85]) (by kernel_rfl)
 obtain⟨a,as1,rfl,ha,h2⟩:=h1.inv
 obtain⟨b,bs,rfl,hb,h3⟩:=h2.inv
 obtain⟨c,cs,rfl,hc,h4⟩:=h3.inv
 obtain⟨d,ds,rfl,hd,h5⟩:=h4.inv
 obtain⟨e,es,rfl,he,h6⟩:=h5.inv
 obtain⟨f,fs,rfl,hf,h7⟩:=h6.inv
 have:=h7.end_;subst this
 obtain⟨s,rfl,hz⟩:=ha
 obtain⟨m,rfl,_⟩:=hb
 obtain⟨l,rfl⟩:=str_exL s
 obtain⟨p,hp,lp⟩:=ar_ints hc
 obtain⟨q,hq,lq⟩:=ar_needs hd
 obtain⟨o,ho,lo⟩:=ar_ints he
 obtain⟨g,hg,lg⟩:=ar_needs hf
 have:maxLen=9223372036854775807:=by unfold maxLen;rfl
 have:(⟨l.toArray⟩:ByteArray).size=l.length:=by simp[ByteArray.size]
 exact⟨⟨⟨l,m,p,q,o,g⟩,c,d,e,f⟩,rfl,⟨hp,hq,ho,hg⟩,by simp only;omega,lp,lq,lo,lg⟩
theorem ar_ly{H:AHeap}{cs:List Value}(h:AR Tryz.prog H.get 27 cs):∃u xs L,cs=V4.l u∧LyR H u xs L∧LyIn 9223372036854775807 L:=by
 have h1:=h.flat (d:=6) (ks:=[.sl 22,.sl 23,.sl 24,.sl 25]) (by kernel_rfl)
 obtain⟨a,as1,rfl,ha,h2⟩:=h1.inv
 obtain⟨b,bs,rfl,hb,h3⟩:=h2.inv
 obtain⟨c,cs,rfl,hc,h4⟩:=h3.inv
 obtain⟨d,ds,rfl,hd,h5⟩:=h4.inv
 have:=h5.end_;subst this
 obtain⟨s,hs,ls,bs⟩:=ar_txs ha
 obtain⟨p,hp,lp,bp⟩:=ar_named (e:=89) (by kernel_rfl) (by kernel_rfl) (by kernel_rfl) hb
 obtain⟨g,hg,lg,bg⟩:=ar_named (e:=90) (by kernel_rfl) (by kernel_rfl) (by kernel_rfl) hc
 obtain⟨rows,⟨hr,lr⟩,hrow⟩:=ar_rows (e:=87) (esz:=6) (by kernel_rfl) (by kernel_rfl) hd
 obtain⟨xs,rfl,hx⟩:=list_choose (f:=RV.row) (Q:=fun x:RV=>x.ok H∧x.r.n.length≤9223372036854775807∧x.r.path.length≤9223372036854775807∧x.r.pts.length≤9223372036854775807∧x.r.ov.length≤9223372036854775807∧x.r.fl.length≤9223372036854775807) (l:=rows) (fun r hm=>ar_route (hrow r hm))
 refine⟨⟨a,b,c,d⟩,xs,⟨s,p,g,xs.map (·.r)⟩,rfl,⟨hs,hp,hg,hr,rfl,fun x hm=>(hx x hm).1⟩,⟨⟨ls,bs⟩,⟨lp,bp⟩,⟨lg,bg⟩,⟨by simpa using lr,fun x hm=>?_⟩⟩⟩
 obtain⟨y,hy,rfl⟩:=List.mem_map.1 hm
 exact(hx y hy).2
theorem av_ly{H:AHeap}{v:Value}(h:AV Tryz.prog H.get 27 v):∃u xs L,v=.agg (V4.l u).toArray∧LyR H u xs L∧LyIn 9223372036854775807 L:=by
 obtain⟨cs,rfl⟩:=h.2.1 (by kernel_rfl)
 obtain⟨u,xs,L,h1,h2⟩:=ar_ly h.1
 have e:cs.toList=V4.l u:=by simpa[Value.cells]using h1
 exact⟨u,xs,L,by rw[←e],h2⟩
end Go.AM.Fd
