/- Part of the proof. -/
import Derived.Test.YtfjdehnnfljjfaaGreatGLK01
import Derived.OpenShut
import Derived.Carry
import Derived.ChangeSame
import Derived.WalkKit
import Derived.ProofKit
set_option linter.unusedSimpArgs false
set_option linter.unusedVariables false
set_option linter.unusedSimpArgs false
set_option linter.unusedVariables false
namespace Go.AM
section
variable {P:Program} {ng:Nat} {H:AHeap} {KF:List Value→AHeap→Prop} {fr tm:List Value} {tr:List TE} {Q:AQ}
def boolIs(v:Value)(b:Bool):Bool:=wantA (some (.c v,b)) [] []
def stR(P:Program)(ng:Nat)(op:AOp Value)(d:D)(r:List AOper)(fr tm:List Value)(H:AHeap)(KF:List Value→AHeap→Prop):Prop:=
 stepA P ng op H fun v H'=>RW P ng r (d.frame v fr) (d.temps v tm) H' KF
def goR(P:Program)(ng:Nat)(o:Option (Value×AHeap))(d:D)(r:List AOper)(fr tm:List Value)(KF:List Value→AHeap→Prop):Prop:=
 ∃v H',o=some (v,H')∧RW P ng r (d.frame v fr) (d.temps v tm) H' KF
def gdR(P:Program)(ng:Nat)(c:Bool)(op:AOp AX)(d:D)(r:List AOper)(fr tm:List Value)(H:AHeap)(KF:List Value→AHeap→Prop):Prop:=
 if c then RW P ng (⟨op,d,none⟩::r) fr tm H KF else RW P ng r (d.frame undef fr) (d.temps undef tm) H KF
abbrev callR(P:Program)(ng:Nat)(f:FuncId)(xs:List Value)(d:D)(r:List AOper)(fr tm:List Value)(H:AHeap)(KF:List Value→AHeap→Prop):Prop:=
 ∃v H',ARun P ng f xs H v H'∧RW P ng r (d.frame v fr) (d.temps v tm) H' KF
theorem r_nil:RW P ng [] fr tm H KF=KF fr H:=_root_.id rfl
theorem r_cons(op:AOp AX)(d:D)(r:List AOper):RW P ng (⟨op,d,none⟩::r) fr tm H KF=stR P ng (op.map (AX.ev fr tm)) d r fr tm H KF:=RW_cons op d r
theorem r_consg(op:AOp AX)(d:D)(x:AX)(b:Bool)(r:List AOper):RW P ng (⟨op,d,some (x,b)⟩::r) fr tm H KF=gdR P ng (wantA (some (x,b)) fr tm) op d r fr tm H KF:=by
 rw[RW_consg];unfold gdR;rw[RW_cons]
theorem gd_true(op:AOp AX)(d:D)(r:List AOper):gdR P ng true op d r fr tm H KF=stR P ng (op.map (AX.ev fr tm)) d r fr tm H KF:=by unfold gdR;rw[if_pos rfl];exact RW_cons op d r
theorem gd_false(op:AOp AX)(d:D)(r:List AOper):gdR P ng false op d r fr tm H KF=RW P ng r (d.frame undef fr) (d.temps undef tm) H KF:=by unfold gdR;rw[if_neg (by simp)]
theorem go_some(v:Value)(d:D)(r:List AOper):goR P ng (some (v,H)) d r fr tm KF=RW P ng r (d.frame v fr) (d.temps v tm) H KF:=
 propext ⟨fun⟨v,H',e,k⟩=>by cases e;exact k,fun k=>⟨_,_,rfl,k⟩⟩
theorem st_call(f:FuncId)(xs:List Value)(d:D)(r:List AOper):stR P ng (.callf f xs) d r fr tm H KF=callR P ng f xs d r fr tm H KF:=_root_.id rfl
theorem st_callv(g:FuncId)(first cap:Array Value)(xs:List Value)(d:D)(r:List AOper):stR P ng (.callv (.func (.func g) first cap) xs) d r fr tm H KF=callR P ng g (first.toList++xs++cap.toList) d r fr tm H KF:=_root_.id rfl
theorem at_n(K:List Value→AHeap→Prop):Q.andThen K .normal fr H=K fr H:=_root_.id rfl
theorem at_e(K:List Value→AHeap→Prop)(i:Nat):Q.andThen K (.exit i) fr H=Q (.exit i) fr H:=_root_.id rfl
theorem at_r(K:List Value→AHeap→Prop):Q.andThen K .ret fr H=Q .ret fr H:=_root_.id rfl
theorem ib_n(i:Nat):Q.inBlock i .normal fr H=Q .normal fr H:=_root_.id rfl
theorem ib_r(i:Nat):Q.inBlock i .ret fr H=Q .ret fr H:=_root_.id rfl
theorem ib_e(i:Nat):Q.inBlock i (.exit i) fr H=Q .normal fr H:=by simp[AQ.inBlock]
theorem ib_x{i j:Nat}(h:¬j=i):Q.inBlock i (.exit j) fr H=Q (.exit j) fr H:=by simp[AQ.inBlock,h]
theorem want_x(x:AX)(b:Bool):wantA (some (x,b)) fr tm=boolIs (x.ev fr tm) b:=by
 simp only[boolIs,wantA,AX.ev]
theorem bi_tt:boolIs (.bool true) true=true:=by simp[boolIs,wantA,AX.ev]
theorem bi_tf:boolIs (.bool true) false=false:=by simp[boolIs,wantA,AX.ev]
theorem bi_ft:boolIs (.bool false) true=false:=by simp[boolIs,wantA,AX.ev]
theorem bi_ff:boolIs (.bool false) false=true:=by simp[boolIs,wantA,AX.ev]
theorem pk_t(a b:Value):asem (.pick (.bool true) a b) H=some (a,H):=_root_.id rfl
theorem pk_f(a b:Value):asem (.pick (.bool false) a b) H=some (b,H):=_root_.id rfl
theorem walk2{f:Nat}{sl:List Nat}{af:AFunc}(hc:compF P ng sl f=some af){args:List Value}{R:Value→AHeap→Prop}(hargs:argsOK P f args.length=true)
 (h:∀Q:AQ,(∀fr H2,(∃v,resO af.res fr H2=some v∧R v H2)→Q .normal fr H2)→(∀fr H2,(∃v,resO af.res fr H2=some v∧R v H2)→Q .ret fr H2)→W P ng af.body Q (initFr af.sl args) H):∃v H',ARun P ng f args H v H'∧R v H':=
 walk hc hargs (h _ (fun _ _ h=>h) (fun _ _ h=>h))
def stD(P:Program)(ng:Nat)(op:AOp Value)(d:D)(un:List Nat)(r:List (AOper×List Nat))(fr tm:List Value)(H:AHeap)(tr:List TE)(KF:List Value→AHeap→Prop):Prop:=
 stepA P ng op H fun v H'=>oblA (clsA op) (touchA op H) H H' tr un∧RD P ng r (d.frame v fr) (d.temps v tm) H' (tr++[⟨clsA op,touchA op H,H,H'⟩]) KF
def goD(P:Program)(ng:Nat)(op:AOp Value)(o:Option (Value×AHeap))(d:D)(un:List Nat)(r:List (AOper×List Nat))(fr tm:List Value)(H:AHeap)(tr:List TE)(KF:List Value→AHeap→Prop):Prop:=
 ∃v H',o=some (v,H')∧oblA (clsA op) (touchA op H) H H' tr un∧RD P ng r (d.frame v fr) (d.temps v tm) H' (tr++[⟨clsA op,touchA op H,H,H'⟩]) KF
def gdD(P:Program)(ng:Nat)(c:Bool)(op:AOp AX)(d:D)(un:List Nat)(r:List (AOper×List Nat))(fr tm:List Value)(H:AHeap)(tr:List TE)(KF:List Value→AHeap→Prop):Prop:=
 if c then stD P ng (op.map (AX.ev fr tm)) d un r fr tm H tr KF else RD P ng r (d.frame undef fr) (d.temps undef tm) H (tr++[⟨9,[],H,H⟩]) KF
abbrev callD(P:Program)(ng:Nat)(f:FuncId)(xs:List Value)(d:D)(un:List Nat)(r:List (AOper×List Nat))(fr tm:List Value)(H:AHeap)(tr:List TE)(KF:List Value→AHeap→Prop):Prop:=
 ∃v H',ARun P ng f xs H v H'∧oblA 3 [] H H' tr un∧RD P ng r (d.frame v fr) (d.temps v tm) H' (tr++[⟨3,[],H,H'⟩]) KF
theorem d_nil:RD P ng [] fr tm H tr KF=KF fr H:=_root_.id rfl
theorem cls_ev(op:AOp AX):clsA (op.map (AX.ev fr tm))=clsA op:=cls_map _ _
theorem d_cons(op:AOp AX)(d:D)(un:List Nat)(r:List (AOper×List Nat)):RD P ng ((⟨op,d,none⟩,un)::r) fr tm H tr KF=stD P ng (op.map (AX.ev fr tm)) d un r fr tm H tr KF:=by
 rw[RD_cons];unfold stD;rw[cls_ev]
theorem d_consg(op:AOp AX)(d:D)(x:AX)(b:Bool)(un:List Nat)(r:List (AOper×List Nat)):RD P ng ((⟨op,d,some (x,b)⟩,un)::r) fr tm H tr KF=gdD P ng (wantA (some (x,b)) fr tm) op d un r fr tm H tr KF:=by
 rw[RD_consg];unfold gdD stD;rw[cls_ev]
theorem gdD_true(op:AOp AX)(d:D)(un:List Nat)(r:List (AOper×List Nat)):gdD P ng true op d un r fr tm H tr KF=stD P ng (op.map (AX.ev fr tm)) d un r fr tm H tr KF:=by unfold gdD;rw[if_pos rfl]
theorem gdD_false(op:AOp AX)(d:D)(un:List Nat)(r:List (AOper×List Nat)):gdD P ng false op d un r fr tm H tr KF=RD P ng r (d.frame undef fr) (d.temps undef tm) H (tr++[⟨9,[],H,H⟩]) KF:=by unfold gdD;rw[if_neg (by simp)]
theorem goD_some{H':AHeap}(op:AOp Value)(v:Value)(d:D)(r:List (AOper×List Nat)):goD P ng op (some (v,H')) d [] r fr tm H tr KF=RD P ng r (d.frame v fr) (d.temps v tm) H' (tr++[⟨clsA op,touchA op H,H,H'⟩]) KF:=by
 exact propext ⟨fun⟨v,H',e,_,k⟩=>by cases e;exact k,fun k=>⟨_,_,rfl,trivial,k⟩⟩
theorem goD_some'{H':AHeap}(op:AOp Value)(v:Value)(d:D)(u:Nat)(un:List Nat)(r:List (AOper×List Nat)):goD P ng op (some (v,H')) d (u::un) r fr tm H tr KF=
 (oblA (clsA op) (touchA op H) H H' tr (u::un)∧RD P ng r (d.frame v fr) (d.temps v tm) H' (tr++[⟨clsA op,touchA op H,H,H'⟩]) KF):=by
 exact propext ⟨fun⟨v,H',e,k⟩=>by cases e;exact k,fun k=>⟨_,_,rfl,k⟩⟩
theorem stD_call(f:FuncId)(xs:List Value)(d:D)(un:List Nat)(r:List (AOper×List Nat)):stD P ng (.callf f xs) d un r fr tm H tr KF=callD P ng f xs d un r fr tm H tr KF:=_root_.id rfl
def condW(P:Program)(ng:Nat)(v:Value)(t e:ACode)(Q:AQ)(fr:List Value)(H:AHeap):Prop:=match v with
 | .bool b=>if b then W P ng t Q fr H else W P ng e Q fr H
 |_=>False
theorem w_cond(c:AX)(t e:ACode):W P ng (.cond c t e) Q fr H=condW P ng (c.ev fr []) t e Q fr H:=_root_.id rfl
theorem cond_true(t e:ACode):condW P ng (.bool true) t e Q fr H=W P ng t Q fr H:=by simp[condW]
theorem cond_false(t e:ACode):condW P ng (.bool false) t e Q fr H=W P ng e Q fr H:=by simp[condW]
section
variable (d:D) (r:List AOper) (un:List Nat) (rd:List (AOper×List Nat))
theorem st_of{op:AOp Value}(h1:∀f xs,op≠.callf f xs)(h2:∀f xs,op≠.callv f xs)(h3:∀nm x xs,op≠.inv nm x xs):stR P ng op d r fr tm H KF=goR P ng (asem op H) d r fr tm KF:=by
 unfold stR goR
 cases op<;>first|rfl|exact absurd rfl (h1 _ _)|exact absurd rfl (h2 _ _)|exact absurd rfl (h3 _ _ _)
theorem stD_of{op:AOp Value}(h1:∀f xs,op≠.callf f xs)(h2:∀f xs,op≠.callv f xs)(h3:∀nm x xs,op≠.inv nm x xs):stD P ng op d un rd fr tm H tr KF=goD P ng op (asem op H) d un rd fr tm H tr KF:=by
 unfold stD goD
 cases op<;>first|rfl|exact absurd rfl (h1 _ _)|exact absurd rfl (h2 _ _)|exact absurd rfl (h3 _ _ _)
theorem st_mov(x:Value):stR P ng (.mov x) d r fr tm H KF=RW P ng r (d.frame x fr) (d.temps x tm) H KF:=by rw[st_of d r (by simp) (by simp) (by simp)];exact go_some x d r
theorem st_pick(c a b:Value):stR P ng (.pick c a b) d r fr tm H KF=goR P ng (asem (.pick c a b) H) d r fr tm KF:=st_of d r (by simp) (by simp) (by simp)
theorem sd_pick(c a b:Value):stD P ng (.pick c a b) d un rd fr tm H tr KF=goD P ng (.pick c a b) (asem (.pick c a b) H) d un rd fr tm H tr KF:=stD_of d un rd (by simp) (by simp) (by simp)
theorem st_new(e s:Nat)(z:List Value):stR P ng (.new e s z) d r fr tm H KF=goR P ng (asem (.new e s z) H) d r fr tm KF:=st_of d r (by simp) (by simp) (by simp)
theorem sd_new(e s:Nat)(z:List Value):stD P ng (.new e s z) d un rd fr tm H tr KF=goD P ng (.new e s z) (asem (.new e s z) H) d un rd fr tm H tr KF:=stD_of d un rd (by simp) (by simp) (by simp)
theorem st_box(e s:Nat)(x:Value):stR P ng (.box e s x) d r fr tm H KF=goR P ng (asem (.box e s x) H) d r fr tm KF:=st_of d r (by simp) (by simp) (by simp)
theorem sd_box(e s:Nat)(x:Value):stD P ng (.box e s x) d un rd fr tm H tr KF=goD P ng (.box e s x) (asem (.box e s x) H) d un rd fr tm H tr KF:=stD_of d un rd (by simp) (by simp) (by simp)
theorem st_build(z:List Value)(ps:List (Nat×Nat×Value)):stR P ng (.build z ps) d r fr tm H KF=goR P ng (asem (.build z ps) H) d r fr tm KF:=st_of d r (by simp) (by simp) (by simp)
theorem sd_build(z:List Value)(ps:List (Nat×Nat×Value)):stD P ng (.build z ps) d un rd fr tm H tr KF=goD P ng (.build z ps) (asem (.build z ps) H) d un rd fr tm H tr KF:=stD_of d un rd (by simp) (by simp) (by simp)
theorem st_bslice(e s n:Nat)(z:List Value)(ps:List (Nat×Nat×Value)):stR P ng (.bslice e s n z ps) d r fr tm H KF=goR P ng (asem (.bslice e s n z ps) H) d r fr tm KF:=st_of d r (by simp) (by simp) (by simp)
theorem sd_bslice(e s n:Nat)(z:List Value)(ps:List (Nat×Nat×Value)):stD P ng (.bslice e s n z ps) d un rd fr tm H tr KF=goD P ng (.bslice e s n z ps) (asem (.bslice e s n z ps) H) d un rd fr tm H tr KF:=stD_of d un rd (by simp) (by simp) (by simp)
theorem st_load1(x:Value):stR P ng (.load1 x) d r fr tm H KF=goR P ng (asem (.load1 x) H) d r fr tm KF:=st_of d r (by simp) (by simp) (by simp)
theorem sd_load1(x:Value):stD P ng (.load1 x) d un rd fr tm H tr KF=goD P ng (.load1 x) (asem (.load1 x) H) d un rd fr tm H tr KF:=stD_of d un rd (by simp) (by simp) (by simp)
theorem st_loadn(n:Nat)(x:Value):stR P ng (.loadn n x) d r fr tm H KF=goR P ng (asem (.loadn n x) H) d r fr tm KF:=st_of d r (by simp) (by simp) (by simp)
theorem sd_loadn(n:Nat)(x:Value):stD P ng (.loadn n x) d un rd fr tm H tr KF=goD P ng (.loadn n x) (asem (.loadn n x) H) d un rd fr tm H tr KF:=stD_of d un rd (by simp) (by simp) (by simp)
theorem st_store1(a x:Value):stR P ng (.store1 a x) d r fr tm H KF=goR P ng (asem (.store1 a x) H) d r fr tm KF:=st_of d r (by simp) (by simp) (by simp)
theorem sd_store1(a x:Value):stD P ng (.store1 a x) d un rd fr tm H tr KF=goD P ng (.store1 a x) (asem (.store1 a x) H) d un rd fr tm H tr KF:=stD_of d un rd (by simp) (by simp) (by simp)
theorem st_storen(n:Nat)(a x:Value):stR P ng (.storen n a x) d r fr tm H KF=goR P ng (asem (.storen n a x) H) d r fr tm KF:=st_of d r (by simp) (by simp) (by simp)
theorem sd_storen(n:Nat)(a x:Value):stD P ng (.storen n a x) d un rd fr tm H tr KF=goD P ng (.storen n a x) (asem (.storen n a x) H) d un rd fr tm H tr KF:=stD_of d un rd (by simp) (by simp) (by simp)
theorem st_nilck(x:Value):stR P ng (.nilck x) d r fr tm H KF=goR P ng (asem (.nilck x) H) d r fr tm KF:=st_of d r (by simp) (by simp) (by simp)
theorem sd_nilck(x:Value):stD P ng (.nilck x) d un rd fr tm H tr KF=goD P ng (.nilck x) (asem (.nilck x) H) d un rd fr tm H tr KF:=stD_of d un rd (by simp) (by simp) (by simp)
theorem st_bin(o:BinOp)(x y:Value):stR P ng (.bin o x y) d r fr tm H KF=goR P ng (asem (.bin o x y) H) d r fr tm KF:=st_of d r (by simp) (by simp) (by simp)
theorem sd_bin(o:BinOp)(x y:Value):stD P ng (.bin o x y) d un rd fr tm H tr KF=goD P ng (.bin o x y) (asem (.bin o x y) H) d un rd fr tm H tr KF:=stD_of d un rd (by simp) (by simp) (by simp)
theorem st_eqv(k:Nat)(n:Bool)(x y:Value):stR P ng (.eqv k n x y) d r fr tm H KF=goR P ng (asem (.eqv k n x y) H) d r fr tm KF:=st_of d r (by simp) (by simp) (by simp)
theorem sd_eqv(k:Nat)(n:Bool)(x y:Value):stD P ng (.eqv k n x y) d un rd fr tm H tr KF=goD P ng (.eqv k n x y) (asem (.eqv k n x y) H) d un rd fr tm H tr KF:=stD_of d un rd (by simp) (by simp) (by simp)
theorem st_un(o:UnOp)(x:Value):stR P ng (.un o x) d r fr tm H KF=goR P ng (asem (.un o x) H) d r fr tm KF:=st_of d r (by simp) (by simp) (by simp)
theorem sd_un(o:UnOp)(x:Value):stD P ng (.un o x) d un rd fr tm H tr KF=goD P ng (.un o x) (asem (.un o x) H) d un rd fr tm H tr KF:=stD_of d un rd (by simp) (by simp) (by simp)
theorem st_i2i(k:IntKind)(x:Value):stR P ng (.i2i k x) d r fr tm H KF=goR P ng (asem (.i2i k x) H) d r fr tm KF:=st_of d r (by simp) (by simp) (by simp)
theorem sd_i2i(k:IntKind)(x:Value):stD P ng (.i2i k x) d un rd fr tm H tr KF=goD P ng (.i2i k x) (asem (.i2i k x) H) d un rd fr tm H tr KF:=stD_of d un rd (by simp) (by simp) (by simp)
theorem st_s2s(x:Value):stR P ng (.s2s x) d r fr tm H KF=goR P ng (asem (.s2s x) H) d r fr tm KF:=st_of d r (by simp) (by simp) (by simp)
theorem sd_s2s(x:Value):stD P ng (.s2s x) d un rd fr tm H tr KF=goD P ng (.s2s x) (asem (.s2s x) H) d un rd fr tm H tr KF:=stD_of d un rd (by simp) (by simp) (by simp)
theorem st_s2b(e:Nat)(x:Value):stR P ng (.s2b e x) d r fr tm H KF=goR P ng (asem (.s2b e x) H) d r fr tm KF:=st_of d r (by simp) (by simp) (by simp)
theorem sd_s2b(e:Nat)(x:Value):stD P ng (.s2b e x) d un rd fr tm H tr KF=goD P ng (.s2b e x) (asem (.s2b e x) H) d un rd fr tm H tr KF:=stD_of d un rd (by simp) (by simp) (by simp)
theorem st_b2s(x:Value):stR P ng (.b2s x) d r fr tm H KF=goR P ng (asem (.b2s x) H) d r fr tm KF:=st_of d r (by simp) (by simp) (by simp)
theorem sd_b2s(x:Value):stD P ng (.b2s x) d un rd fr tm H tr KF=goD P ng (.b2s x) (asem (.b2s x) H) d un rd fr tm H tr KF:=stD_of d un rd (by simp) (by simp) (by simp)
theorem st_iface(t:TypeId)(x:Value):stR P ng (.iface t x) d r fr tm H KF=goR P ng (asem (.iface t x) H) d r fr tm KF:=st_of d r (by simp) (by simp) (by simp)
theorem sd_iface(t:TypeId)(x:Value):stD P ng (.iface t x) d un rd fr tm H tr KF=goD P ng (.iface t x) (asem (.iface t x) H) d un rd fr tm H tr KF:=stD_of d un rd (by simp) (by simp) (by simp)
theorem st_mkfn(f:Fn)(xs ys:List Value):stR P ng (.mkfn f xs ys) d r fr tm H KF=goR P ng (asem (.mkfn f xs ys) H) d r fr tm KF:=st_of d r (by simp) (by simp) (by simp)
theorem sd_mkfn(f:Fn)(xs ys:List Value):stD P ng (.mkfn f xs ys) d un rd fr tm H tr KF=goD P ng (.mkfn f xs ys) (asem (.mkfn f xs ys) H) d un rd fr tm H tr KF:=stD_of d un rd (by simp) (by simp) (by simp)
theorem st_mksl(e s b:Nat)(z:List Value)(l c:Value):stR P ng (.mksl e s b z l c) d r fr tm H KF=goR P ng (asem (.mksl e s b z l c) H) d r fr tm KF:=st_of d r (by simp) (by simp) (by simp)
theorem sd_mksl(e s b:Nat)(z:List Value)(l c:Value):stD P ng (.mksl e s b z l c) d un rd fr tm H tr KF=goD P ng (.mksl e s b z l c) (asem (.mksl e s b z l c) H) d un rd fr tm H tr KF:=stD_of d un rd (by simp) (by simp) (by simp)
theorem st_slstr(x:Value)(lo hi:Option Value):stR P ng (.slstr x lo hi) d r fr tm H KF=goR P ng (asem (.slstr x lo hi) H) d r fr tm KF:=st_of d r (by simp) (by simp) (by simp)
theorem sd_slstr(x:Value)(lo hi:Option Value):stD P ng (.slstr x lo hi) d un rd fr tm H tr KF=goD P ng (.slstr x lo hi) (asem (.slstr x lo hi) H) d un rd fr tm H tr KF:=stD_of d un rd (by simp) (by simp) (by simp)
theorem st_slsl(s:Nat)(x:Value)(lo hi mx:Option Value):stR P ng (.slsl s x lo hi mx) d r fr tm H KF=goR P ng (asem (.slsl s x lo hi mx) H) d r fr tm KF:=st_of d r (by simp) (by simp) (by simp)
theorem sd_slsl(s:Nat)(x:Value)(lo hi mx:Option Value):stD P ng (.slsl s x lo hi mx) d un rd fr tm H tr KF=goD P ng (.slsl s x lo hi mx) (asem (.slsl s x lo hi mx) H) d un rd fr tm H tr KF:=stD_of d un rd (by simp) (by simp) (by simp)
theorem st_faddr(o:Nat)(x:Value):stR P ng (.faddr o x) d r fr tm H KF=goR P ng (asem (.faddr o x) H) d r fr tm KF:=st_of d r (by simp) (by simp) (by simp)
theorem sd_faddr(o:Nat)(x:Value):stD P ng (.faddr o x) d un rd fr tm H tr KF=goD P ng (.faddr o x) (asem (.faddr o x) H) d un rd fr tm H tr KF:=stD_of d un rd (by simp) (by simp) (by simp)
theorem st_fld1(o:Nat)(x:Value):stR P ng (.fld1 o x) d r fr tm H KF=goR P ng (asem (.fld1 o x) H) d r fr tm KF:=st_of d r (by simp) (by simp) (by simp)
theorem sd_fld1(o:Nat)(x:Value):stD P ng (.fld1 o x) d un rd fr tm H tr KF=goD P ng (.fld1 o x) (asem (.fld1 o x) H) d un rd fr tm H tr KF:=stD_of d un rd (by simp) (by simp) (by simp)
theorem st_fldn(o n:Nat)(x:Value):stR P ng (.fldn o n x) d r fr tm H KF=goR P ng (asem (.fldn o n x) H) d r fr tm KF:=st_of d r (by simp) (by simp) (by simp)
theorem sd_fldn(o n:Nat)(x:Value):stD P ng (.fldn o n x) d un rd fr tm H tr KF=goD P ng (.fldn o n x) (asem (.fldn o n x) H) d un rd fr tm H tr KF:=stD_of d un rd (by simp) (by simp) (by simp)
theorem st_iaddr(s:Nat)(x i:Value):stR P ng (.iaddr s x i) d r fr tm H KF=goR P ng (asem (.iaddr s x i) H) d r fr tm KF:=st_of d r (by simp) (by simp) (by simp)
theorem sd_iaddr(s:Nat)(x i:Value):stD P ng (.iaddr s x i) d un rd fr tm H tr KF=goD P ng (.iaddr s x i) (asem (.iaddr s x i) H) d un rd fr tm H tr KF:=stD_of d un rd (by simp) (by simp) (by simp)
theorem st_idxs(x i:Value):stR P ng (.idxs x i) d r fr tm H KF=goR P ng (asem (.idxs x i) H) d r fr tm KF:=st_of d r (by simp) (by simp) (by simp)
theorem sd_idxs(x i:Value):stD P ng (.idxs x i) d un rd fr tm H tr KF=goD P ng (.idxs x i) (asem (.idxs x i) H) d un rd fr tm H tr KF:=stD_of d un rd (by simp) (by simp) (by simp)
theorem st_assert(t:TypeId)(z:Value)(ok:Bool)(x:Value):stR P ng (.assert t z ok x) d r fr tm H KF=goR P ng (asem (.assert t z ok x) H) d r fr tm KF:=st_of d r (by simp) (by simp) (by simp)
theorem sd_assert(t:TypeId)(z:Value)(ok:Bool)(x:Value):stD P ng (.assert t z ok x) d un rd fr tm H tr KF=goD P ng (.assert t z ok x) (asem (.assert t z ok x) H) d un rd fr tm H tr KF:=stD_of d un rd (by simp) (by simp) (by simp)
theorem st_extract(x:Value)(i:Nat):stR P ng (.extract x i) d r fr tm H KF=goR P ng (asem (.extract x i) H) d r fr tm KF:=st_of d r (by simp) (by simp) (by simp)
theorem sd_extract(x:Value)(i:Nat):stD P ng (.extract x i) d un rd fr tm H tr KF=goD P ng (.extract x i) (asem (.extract x i) H) d un rd fr tm H tr KF:=stD_of d un rd (by simp) (by simp) (by simp)
theorem st_len(s:Bool)(x:Value):stR P ng (.len s x) d r fr tm H KF=goR P ng (asem (.len s x) H) d r fr tm KF:=st_of d r (by simp) (by simp) (by simp)
theorem sd_len(s:Bool)(x:Value):stD P ng (.len s x) d un rd fr tm H tr KF=goD P ng (.len s x) (asem (.len s x) H) d un rd fr tm H tr KF:=stD_of d un rd (by simp) (by simp) (by simp)
theorem st_mark(x:Value):stR P ng (.mark x) d r fr tm H KF=goR P ng (asem (.mark x) H) d r fr tm KF:=st_of d r (by simp) (by simp) (by simp)
theorem sd_mark(x:Value):stD P ng (.mark x) d un rd fr tm H tr KF=goD P ng (.mark x) (asem (.mark x) H) d un rd fr tm H tr KF:=stD_of d un rd (by simp) (by simp) (by simp)
theorem sd_mov(x:Value):stD P ng (.mov x) d un rd fr tm H tr KF=goD P ng (.mov x) (asem (.mov x) H) d un rd fr tm H tr KF:=stD_of d un rd (by simp) (by simp) (by simp)
theorem sd_app(e s b:Nat)(x y:Value):stD P ng (.app e s b x y) d un rd fr tm H tr KF=goD P ng (.app e s b x y) (asem (.app e s b x y) H) d un rd fr tm H tr KF:=stD_of d un rd (by simp) (by simp) (by simp)
end
theorem a_mov(x:Value):asem (.mov x) H=some (x,H):=_root_.id rfl
theorem a_pick(t:Bool)(a b:Value):asem (.pick (.bool t) a b) H=some (if t then a else b,H):=_root_.id rfl
theorem a_new(e esz:Nat)(z:List Value):asem (.new e esz z) H=if z.all Value.oneCell' then some (ptr H.n 0,H.alloc (.cells true false esz z e))else none:=_root_.id rfl
theorem a_box(e esz:Nat)(x:Value):asem (.box e esz x) H=if x.cells.toList.all Value.oneCell' then some (ptr H.n 0,H.alloc (.cells true false esz x.cells.toList e))else none:=_root_.id rfl
theorem a_build(z:List Value)(ps:List (Nat×Nat×Value)):asem (.build z ps) H=(fillA z ps).map fun c=>(.agg c.toArray,H):=_root_.id rfl
theorem a_load1(b o:Nat):asem (.load1 (ptr b o)) H=(cellA H b o).map fun v=>(v,H):=_root_.id rfl
theorem a_loadn(n b o:Nat):asem (.loadn n (ptr b o)) H=(rangeA H b o n).map fun c=>(.agg c.toArray,H):=_root_.id rfl
theorem a_store1{b o:Nat}{x:Value}{room:Bool}{esz e:Nat}{c:List Value}(h:H.get b=some (.cells true room esz c e)):asem (.store1 (ptr b o) x) H=if o<c.length∧x.oneCell'=true then some (undef,H.set b (.cells true room esz (c.set o x) e))else none:=by
 simp only[asem,ptr,h]
theorem a_nilck(b o:Nat):asem (.nilck (ptr b o)) H=some (ptr b o,H):=_root_.id rfl
theorem a_bin(op:BinOp)(x y:Value):asem (.bin op x y) H=(binA op x y).map fun v=>(v,H):=_root_.id rfl
theorem a_eqv(k:Nat)(neg:Bool)(x y:Value):asem (.eqv k neg x y) H=(eqA k x y).map fun b=>(.bool (if neg then !b else b),H):=_root_.id rfl
theorem a_not(b:Bool):asem (.un .not (.bool b)) H=some (.bool (!b),H):=_root_.id rfl
theorem a_neg(k:IntKind)(n:Int):asem (.un .neg (.int k n)) H=some (.int k (k.wrap (0-n)),H):=_root_.id rfl
theorem a_i2i(k k':IntKind)(n:Int):asem (.i2i k (.int k' n)) H=some (.int k (k.wrap n),H):=_root_.id rfl
theorem a_s2s(s:ByteArray):asem (.s2s (.string s)) H=some (.string s,H):=_root_.id rfl
theorem a_s2b(e:Nat)(l:List UInt8):asem (.s2b e (.string ⟨l.toArray⟩)) H=some (slc H.n 0 l.length l.length,H.alloc (.cells true true 1 (cellsOf l) e)):=by
 simp only[asem,cellsOf]
 simp[ByteArray.size]
theorem a_iface(t:TypeId)(x:Value):asem (.iface t x) H=some (.iface t x,H):=_root_.id rfl
theorem a_mkfn(fn:Fn)(xs ys:List Value):asem (.mkfn fn xs ys) H=some (.func fn xs.toArray ys.toArray,H):=_root_.id rfl
theorem a_faddr(off b o:Nat):asem (.faddr off (ptr b o)) H=some (ptr b (o+off),H):=_root_.id rfl
theorem a_fld1(off:Nat)(cs:Array Value):asem (.fld1 off (.agg cs)) H=cs.toList[off]?.map fun v=>(v,H):=_root_.id rfl
theorem a_iaddr(esz b o n k:Nat)(kd:IntKind)(i:Int):asem (.iaddr esz (slc b o n k) (.int kd i)) H=if 0≤i∧i<(n:Int)then some (ptr b (o+i.toNat*esz),H)else none:=_root_.id rfl
theorem a_assert(t u:TypeId)(z v:Value)(ok:Bool):asem (.assert t z ok (.iface u v)) H=if u=t then some (if ok then .tuple #[v,.bool true]else v,H)else if ok then some (.tuple #[z,.bool false],H)else none:=_root_.id rfl
theorem a_extract(vs:Array Value)(i:Nat):asem (.extract (.tuple vs) i) H=vs.toList[i]?.map fun v=>(v,H):=_root_.id rfl
theorem a_len(a:Option Addr)(n k:Nat):asem (.len false (.slice a n k)) H=some (.int .i64 n,H):=_root_.id rfl
theorem a_lenc(b o n k:Nat):asem (.len false (slc b o n k)) H=some (.int .i64 n,H):=_root_.id rfl
theorem a_lens(l:List UInt8):asem (.len true (.string ⟨l.toArray⟩)) H=some (.int .i64 l.length,H):=by
 simp[asem,lenA,ByteArray.size]
theorem a_slsl_nil{esz:Nat}{lo hi mx:Option Value}(h:∃m hh l,bndA mx 0 0=some m∧bndA hi 0 m=some hh∧bndA lo 0 hh=some l):asem (.slsl esz (.slice none 0 0) lo hi mx) H=some (.slice none 0 0,H):=by
 obtain⟨m,hh,l,h1,h2,h3⟩:=h
 simp only[asem,h1,h2,h3]
theorem a_slsl{esz b o n k m hh l e:Nat}{own room:Bool}{c:List Value}{lo hi mx:Option Value}(hb:H.get b=some (.cells own room esz c e))(h1:bndA mx k k=some m)(h2:bndA hi n m=some hh)(h3:bndA lo 0 hh=some l):
 asem (.slsl esz (slc b o n k) lo hi mx) H=some (slc b (o+l*esz) (hh-l) (m-l),H):=by
 simp only[asem,slc,h1,h2,h3,hb,true_or,if_true]
theorem one_int(k:IntKind)(n:Int):(Value.int k n).oneCell'=true:=_root_.id rfl
theorem one_bool(b:Bool):(Value.bool b).oneCell'=true:=_root_.id rfl
theorem one_str(b:ByteArray):(Value.string b).oneCell'=true:=_root_.id rfl
theorem one_sl(a:Option Addr)(n k:Nat):(Value.slice a n k).oneCell'=true:=_root_.id rfl
theorem one_slc(b o n k:Nat):(slc b o n k).oneCell'=true:=_root_.id rfl
theorem one_ptr(b o:Nat):(ptr b o).oneCell'=true:=_root_.id rfl
theorem one_pn(a:Option Addr):(Value.pointer a).oneCell'=true:=_root_.id rfl
theorem one_if(t:TypeId)(v:Value):(Value.iface t v).oneCell'=true:=_root_.id rfl
theorem one_map(t:Option Nat):(Value.map t).oneCell'=true:=_root_.id rfl
def one1(x:Value):Prop:=x.oneCell'=true
theorem a_st{b o:Nat}{x:Value}{room:Bool}{esz e:Nat}{c:List Value}(h:H.get b=some (.cells true room esz c e))(ho:o<c.length)(hx:one1 x):asem (.store1 (ptr b o) x) H=some (undef,H.set b (.cells true room esz (c.set o x) e)):=by
 rw[a_store1 h,if_pos ⟨ho,hx⟩]
theorem o_int(k:IntKind)(n:Int):one1 (Value.int k n)=True:=by simp[one1,one_int]
theorem o_bool(b:Bool):one1 (Value.bool b)=True:=by simp[one1,one_bool]
theorem o_str(b:ByteArray):one1 (Value.string b)=True:=by simp[one1,one_str]
theorem o_sl(a:Option Addr)(n k:Nat):one1 (Value.slice a n k)=True:=by simp[one1,one_sl]
theorem o_slc(b o n k:Nat):one1 (slc b o n k)=True:=by simp[one1,one_slc]
theorem o_ptr(b o:Nat):one1 (ptr b o)=True:=by simp[one1,one_ptr]
theorem o_pn(a:Option Addr):one1 (Value.pointer a)=True:=by simp[one1,one_pn]
theorem o_if(t:TypeId)(v:Value):one1 (Value.iface t v)=True:=by simp[one1,one_if]
theorem o_map(t:Option Nat):one1 (Value.map t)=True:=by simp[one1,one_map]
theorem appR{d:D}{r:List AOper}{e esz bytes:Nat}{s x:Value}{n m:Nat}{c news:List Value}(h:AP H e esz s n c)(hx:∃a k,x=.slice a m k)(h1:elemsA H esz x=some news)(hm:news.length=m*esz)
 (hs:(n+m)*bytes≤140737488355328∧n+m≤140737488355328)
 (hk:∀v' H',AP H' e esz v' (n+m) (c++news)→Chg (blkL s) H H'→(blk v'=blk s∨blk v'=some H.n)→RW P ng r (d.frame v' fr) (d.temps v' tm) H' KF):stR P ng (.app e esz bytes s x) d r fr tm H KF:=
 s_appAP h hx h1 hm hs hk
end
end Go.AM

set_option linter.unusedSimpArgs false
set_option linter.unusedVariables false
namespace Go.AM
noncomputable def bEq(a b:List UInt8):Bool:=
 List.rec (motive:=fun _=>List UInt8→Bool) (fun b=>List.rec (motive:=fun _=>Bool) true (fun _ _ _=>false) b)
  (fun x _ ih b=>List.rec (motive:=fun _=>Bool) false (fun y r _=>Bool.rec (motive:=fun _=>Bool) false (ih r) (Nat.beq x.toNat y.toNat)) b) a b
theorem bEq_eq:∀a b:List UInt8,bEq a b=decide (a=b)
 |[],[]=>by simp[bEq]
 |[],y::b=>by simp[bEq]
 |x::a,[]=>by simp[bEq]
 |x::a,y::b=>by
  have h:bEq (x::a) (y::b)=Bool.rec (motive:=fun _=>Bool) false (bEq a b) (Nat.beq x.toNat y.toNat):=rfl
  rw[h,bEq_eq a b]
  cases e:Nat.beq x.toNat y.toNat
  ·have:x≠y:=fun h=>by subst h;rw[Nat.beq_refl]at e;cases e
   simp[this]
  ·have:x=y:=UInt8.toNat_inj.1 (Nat.eq_of_beq_eq_true e)
   simp[this]
theorem bstr_eq(a b:ByteArray):decide (a=b)=bEq a.data.toList b.data.toList:=by
 rw[bEq_eq,Bool.eq_iff_iff]
 simp only[decide_eq_true_eq]
 constructor
 ·intro h;rw[h]
 ·intro h
  have:a.data=b.data:=Array.toList_inj.1 h
  cases a;cases b;simp_all
def bCat(a b:ByteArray):ByteArray:=⟨⟨a.data.toList++b.data.toList⟩⟩
theorem bCat_eq(a b:ByteArray):bCat a b=a++b:=by
 have:(a++b).data.toList=a.data.toList++b.data.toList:=by rw[ByteArray.data_append];simp
 have h2:(bCat a b).data=(a++b).data:=Array.toList_inj.1 (by rw[this];rfl)
 cases h:bCat a b;cases h3:a++b;rw[h,h3]at h2;simp_all
end Go.AM

set_option linter.unusedSimpArgs false
set_option linter.unusedVariables false
namespace Go.AM
def okFs(P:Program)(f:TypeId→Bool):List Field→Nat→Nat→Bool
 |[],off,tot=>off==tot
 |fd::r,off,tot=>fd.offset==off&&f fd.type&&okFs P f r (off+P.cellsOf fd.type) tot
def okT(P:Program):Nat→TypeId→Bool
 |0,_=>false
 |d+1,t=>match P.underlying t with
  |some .bool=>P.cellsOf t==1
  |some (.int _)=>P.cellsOf t==1
  |some .string=>P.cellsOf t==1
  |some (.slice e)=>P.cellsOf t==1&&decide (0<P.cellsOf e)&&okT P d e
  |some (.struct fs)=>okFs P (okT P d) fs.toList 0 (P.cellsOf t)
  |some (.array n e)=>n*P.cellsOf e==P.cellsOf t&&okT P d e
  |_=>false
inductive AR (P:Program) (G:Gf):TypeId→List Value→Prop
 |bool {t:TypeId} {b:Bool} (h:P.underlying t=some .bool):AR P G t [.bool b]
 |int {t:TypeId} {k:IntKind} {n:Int} (h:P.underlying t=some (.int k)) (hw:(Lit.int k n).wf=true):AR P G t [.int k n]
 |str {t:TypeId} {s:ByteArray} (h:P.underlying t=some .string) (hs:s.size≤maxLen∧s.size≤reachBytes):AR P G t [.string s]
 |nil {t e:TypeId} (h:P.underlying t=some (.slice e)):AR P G t [.slice none 0 0]
 |zero {t e:TypeId} {x:Addr} (h:P.underlying t=some (.slice e)) (hx:x.spot.isSome=true):AR P G t [.slice (some x) 0 0]
 |sl {t e:TypeId} {b n k:Nat} {c:List Value} {u:TypeId} (h:P.underlying t=some (.slice e)) (hk:0<k) (hn:n≤k) (hm:k≤maxLen∧k*P.bytesOf e≤reachBytes) (hb:G b=some (.cells false false (P.cellsOf e) c u)) (hc:c.length=k*P.cellsOf e)
  (hi:∀i,i<k→AR P G e ((c.drop (i*P.cellsOf e)).take (P.cellsOf e))):AR P G t [slc b 0 n k]
 |struct {t:TypeId} {fs:Array Field} {cs:List Value} (h:P.underlying t=some (.struct fs)) (hl:cs.length=P.cellsOf t)
  (hf:∀(i:Nat) (f:Field),fs[i]? =some f→AR P G f.type ((cs.drop f.offset).take (P.cellsOf f.type))):AR P G t cs
 |array {t e:TypeId} {n:Nat} {cs:List Value} (h:P.underlying t=some (.array n e)) (hl:cs.length=P.cellsOf t)
  (hi:∀i,i<n→AR P G e ((cs.drop (i*P.cellsOf e)).take (P.cellsOf e))):AR P G t cs
theorem AR.mono{P:Program}{G G':Gf}(hg:∀b o,G b=some o→G' b=some o){t:TypeId}{cs:List Value}(h:AR P G t cs):AR P G' t cs:=by
 induction h with
 |bool h=>exact .bool h
 |int h hw=>exact .int h hw
 |str h hs=>exact .str h hs
 |nil h=>exact .nil h
 |zero h hx=>exact .zero h hx
 |sl h hk hn hm hb hc _ ih=>exact .sl h hk hn hm (hg _ _ hb) hc ih
 |struct h hl _ ih=>exact .struct h hl ih
 |array h hl _ ih=>exact .array h hl ih
def NoOwn(H:AHeap):Prop:=∀b o,H.get b=some o→o.own=false
section
variable {H0:Type} {enc:TypeId×Value→H0} {P:Program} {w:World} {ng:Nat}
structure Opened (P:Program) (ng:Nat) (w:World) (σ:Sg) (H:AHeap) (σ':Sg) (H':AHeap):Prop where
 le:σ.le σ'
 keep:Keeps H H'
 hr:HR ng σ' H'.get w
 no:NoOwn H'
theorem Opened.refl{σ:Sg}{H:AHeap}(hr:HR ng σ H.get w)(no:NoOwn H):Opened P ng w σ H σ H:=⟨Sg.le.refl σ,Keeps.refl H,hr,no⟩
theorem Opened.trans{σ σ1 σ2:Sg}{H H1 H2:AHeap}(h:Opened P ng w σ H σ1 H1)(k:Opened P ng w σ1 H1 σ2 H2):Opened P ng w σ H σ2 H2:=⟨h.le.trans k.le,h.keep.trans k.keep,k.hr,k.no⟩
theorem Keeps.ar{H H':AHeap}(k:Keeps H H'){t:TypeId}{cs:List Value}(h:AR P H.get t cs):AR P H'.get t cs:=h.mono (fun b o hb=>k.at_ hb)
def OpenP(P:Program)(ng:Nat)(w:World)(t:TypeId)(cs:List Value):Prop:=∀σ H,HR ng σ H.get w→NoOwn H→∃σ' H' cs',Opened P ng w σ H σ' H'∧VL σ' cs' cs∧AR P H'.get t cs'∧∀v∈cs',v.oneCell'=true
theorem open_row{e:TypeId}{z:Nat}:∀(k:Nat) (css:Nat→List Value),(∀i,i<k→(css i).length=z∧OpenP P ng w e (css i))→∀σ H,HR ng σ H.get w→NoOwn H→
 ∃σ' H' c,Opened P ng w σ H σ' H'∧VL σ' c ((List.range k).flatMap css)∧c.length=k*z∧(∀v∈c,v.oneCell'=true)∧∀i,i<k→AR P H'.get e ((c.drop (i*z)).take z)
 |0,css,_,σ,H,hr,no=>⟨σ,H,[],Opened.refl hr no,.nil,by simp,by simp,fun i hi=>by omega⟩
 |k+1,css,h,σ,H,hr,no=>by
  obtain⟨σ1,H1,c,h1,h2,h3,h4,h5⟩:=open_row k css (fun i hi=>h i (by omega)) σ H hr no
  obtain⟨hz,hop⟩:=h k (by omega)
  obtain⟨σ2,H2,cs',g1,g2,g3,g4⟩:=hop σ1 H1 h1.hr h1.no
  have hl:cs'.length=z:=by rw[g2.length,hz]
  refine⟨σ2,H2,c++cs',h1.trans g1,?_,by rw[List.length_append,h3,hl,Nat.add_mul];omega,?_,?_⟩
  ·rw[List.range_succ,List.flatMap_append]
   simpa using(h2.mono g1.le).append g2
  ·intro v hv
   rcases List.mem_append.1 hv with hv|hv
   ·exact h4 v hv
   ·exact g4 v hv
  ·intro i hi
   by_cases hik:i<k
   ·have hle:i*z+z≤c.length:=by
     rw[h3]
     have:(i+1)*z≤k*z:=Nat.mul_le_mul_right _ hik
     rw[Nat.add_mul]at this
     omega
    rw[List.drop_append_of_le_length (by omega),List.take_append_of_le_length (by rw[List.length_drop];omega)]
    exact g1.keep.ar (h5 i hik)
   ·have:i=k:=by omega
    subst this
    rw[←h3,List.drop_left,←hl,List.take_length]
    exact g3
theorem open_fields{cs:List Value}{tot:Nat}{f:TypeId→Bool}:∀(fs:List Field) (off:Nat),okFs P f fs off tot=true→off≤cs.length→cs.length=tot→
 (∀fd∈fs,f fd.type=true→OpenP P ng w fd.type ((cs.drop fd.offset).take (P.cellsOf fd.type)))→(∀fd∈fs,f fd.type=true→((cs.drop fd.offset).take (P.cellsOf fd.type)).length=P.cellsOf fd.type)→∀σ H,HR ng σ H.get w→NoOwn H→
 ∃σ' H' c,Opened P ng w σ H σ' H'∧VL σ' c (cs.drop off)∧(∀v∈c,v.oneCell'=true)∧∀fd∈fs,off≤fd.offset∧AR P H'.get fd.type ((c.drop (fd.offset-off)).take (P.cellsOf fd.type))
 |[],off,hk,hle,ht,_,_,σ,H,hr,no=>by
  simp only[okFs,beq_iff_eq]at hk
  refine⟨σ,H,[],Opened.refl hr no,?_,by simp,by simp⟩
  rw[List.drop_eq_nil_of_le (by omega)];exact .nil
 |fd::fs,off,hk,hle,ht,hop,hfit,σ,H,hr,no=>by
  simp only[okFs,Bool.and_eq_true,beq_iff_eq]at hk
  obtain⟨⟨h1,h2⟩,h3⟩:=hk
  have hft0:=hfit fd (by simp) h2
  have hft:fd.offset+P.cellsOf fd.type≤cs.length:=by rw[List.length_take,List.length_drop]at hft0;omega
  obtain⟨σ1,H1,c1,g1,g2,g3,g4⟩:=hop fd (by simp) h2 σ H hr no
  obtain⟨σ2,H2,c2,k1,k2,k3,k4⟩:=open_fields fs (off+P.cellsOf fd.type) h3 (by omega) ht (fun x hx=>hop x (by simp[hx])) (fun x hx=>hfit x (by simp[hx])) σ1 H1 g1.hr g1.no
  have hl:c1.length=P.cellsOf fd.type:=by rw[g2.length,List.length_take,List.length_drop];omega
  refine⟨σ2,H2,c1++c2,g1.trans k1,?_,?_,?_⟩
  ·have e:cs.drop off=(cs.drop fd.offset).take (P.cellsOf fd.type)++cs.drop (off+P.cellsOf fd.type):=by
    rw[h1,←List.drop_drop,List.take_append_drop]
   rw[e]
   exact(g2.mono k1.le).append k2
  ·intro v hv
   rcases List.mem_append.1 hv with hv|hv
   ·exact g4 v hv
   ·exact k3 v hv
  ·intro x hx
   rcases List.mem_cons.1 hx with rfl|hx
   ·refine⟨by omega,?_⟩
    rw[h1,Nat.sub_self,List.drop_zero,←hl,List.take_left]
    exact k1.keep.ar g3
   ·obtain⟨a1,a2⟩:=k4 x hx
    refine⟨by omega,?_⟩
    rw[show x.offset-off=c1.length+(x.offset-(off+P.cellsOf fd.type)) by omega,List.drop_length_add_append]
    exact a2
theorem row_flat(l:List Value)(o z:Nat):∀k,(List.range k).flatMap (fun i=>(l.drop (o+i*z)).take z)=(l.drop o).take (k*z)
 |0=>by simp
 |k+1=>by
  rw[List.range_succ,List.flatMap_append,row_flat l o z k,Nat.add_mul,Nat.one_mul,List.take_add,List.drop_drop]
  simp
theorem cells_of{b:Nat}{a:Addr}{n:Nat}{l:List Value}(h:w.cells? b a n=some l):l.length=n∧∀i,i<n→w.cell? (a.add i)=l[i]? :=by
 unfold World.cells? at h
 split at h
 ·exact⟨by simpa using mapM_some_length h,fun i hi=>mapM_some_get h i i (by simp[hi])⟩
 ·cases h
def Rch(P:Program)(t:TypeId)(d:DataW H0):Prop:=∀m∈d.weights P t,m≤reachBytes
theorem rch_all{e:TypeId}:∀{l:List (DataW H0)},(∀m∈DataW.weightsAll P e l,m≤reachBytes)→∀d∈l,Rch P e d
 |[],_,d,hd=>by simp at hd
 |y::l,h,d,hd=>by
  simp only[DataW.weightsAll,List.mem_append]at h
  rcases List.mem_cons.1 hd with rfl|hd
  ·exact fun m hm=>h m (.inl hm)
  ·exact rch_all (fun m hm=>h m (.inr hm)) d hd
theorem mem_weightsAll{e:TypeId}{m:Nat}:∀{l:List (DataW H0×List MemPlace)} {y:DataW H0×List MemPlace},y∈l→m∈y.1.weights P e→m∈DataW.weightsAll P e (l.map (·.1))
 |[],_,hy,_=>by simp at hy
 |z::zs,y,hy,hm=>by
  simp only[List.map_cons,DataW.weightsAll,List.mem_append]
  rcases List.mem_cons.1 hy with rfl|hy
  ·exact .inl hm
  ·exact .inr (mem_weightsAll hy hm)
theorem rch_each:∀{ts:List TypeId} {l:List (DataW H0)},(∀m∈DataW.weightsEach P ts l,m≤reachBytes)→∀(i:Nat) t d,ts[i]? =some t→l[i]? =some d→Rch P t d
 |[],_,_,i,t,d,h1,_=>by simp at h1
 |_::_,[],_,i,t,d,_,h2=>by simp at h2
 |t0::ts,y::l,h,i,t,d,h1,h2=>by
  simp only[DataW.weightsEach,List.mem_append]at h
  cases i with
  |zero=>simp only[List.getElem?_cons_zero,Option.some.injEq]at h1 h2;subst h1 h2;exact fun m hm=>h m (.inl hm)
  |succ i=>exact rch_each (fun m hm=>h m (.inr hm)) i t d (by simpa using h1) (by simpa using h2)
theorem open_cells:∀(fuel:Nat) (d:Nat) (t:TypeId) (cs:List Value) (x:DataW H0×List MemPlace),okT P d t=true→Rch P t x.1→DataW.trod enc P w 0 (fun _=>true) true fuel t cs=some x→cs.length=P.cellsOf t∧OpenP P ng w t cs:=by
 intro fuel
 induction fuel with
 |zero=>intro d t cs x _ _ h;simp[DataW.trod]at h
 |succ fuel ih=>
  intro d t cs x hok hx h
  cases d with
  |zero=>simp[okT]at hok
  |succ d=>
   simp only[okT]at hok
   split at hok
   ·rename_i hu
    obtain⟨b,rfl,_⟩:=DataW.trod_bool hu h
    exact⟨by simpa using(beq_iff_eq.1 hok).symm,fun σ H hr no=>⟨σ,H,[.bool b],Opened.refl hr no,.cons (.bool b) .nil,.bool hu,by simp[Value.oneCell']⟩⟩
   ·rename_i k hu
    obtain⟨n,rfl,_,hw⟩:=DataW.trod_int hu h
    exact⟨by simpa using(beq_iff_eq.1 hok).symm,fun σ H hr no=>⟨σ,H,[.int k n],Opened.refl hr no,.cons (.int k n) .nil,.int hu hw,by simp[Value.oneCell']⟩⟩
   ·rename_i hu
    obtain⟨s,rfl,rfl,hs⟩:=DataW.trod_string hu h
    have hs2:s.size≤reachBytes:=hx _ (by simp only[DataW.weights,List.mem_singleton,Array.length_toList];rfl)
    exact⟨by simpa using(beq_iff_eq.1 hok).symm,fun σ H hr no=>⟨σ,H,[.string s],Opened.refl hr no,.cons (.string s) .nil,.str hu ⟨hs,hs2⟩,by simp[Value.oneCell']⟩⟩
   ·rename_i e hu
    simp only[Bool.and_eq_true,beq_iff_eq,decide_eq_true_eq]at hok
    obtain⟨⟨hc1,hz⟩,hoke⟩:=hok
    rcases DataW.trod_slice hu h with⟨rfl,_⟩|⟨a,len,cap,elems,rest,m,hfu,rfl,rfl,_,hlc,hcm,hel,helems,hrest,_⟩
    ·exact⟨by simpa using hc1.symm,fun σ H hr no=>⟨σ,H,[.slice none 0 0],Opened.refl hr no,.cons .nilSl .nil,.nil hu,by simp[Value.oneCell']⟩⟩
    ·cases hfu
     refine⟨by simpa using hc1.symm,fun σ H hr no=>?_⟩
     by_cases hcap:cap=0
     ·subst hcap
      have:len=0:=by omega
      subst this
      exact⟨σ,H,[.slice (some ⟨0,0,some 0⟩) 0 0],Opened.refl hr no,.cons (.slz rfl) .nil,.zero hu rfl,by simp[Value.oneCell']⟩
     ·obtain⟨hr1,hr2⟩:=hrest rfl
      have hx2:cap*P.bytesOf e≤reachBytes:=by
       refine hx _ ?_
       unfold DataW.weights
       rw[hu]
       simp only[List.length_map,hel,hr1,show len+(cap-len)=cap by omega]
       exact List.mem_cons_self
      have hx3:∀y∈elems,Rch P e y.1:=fun y hy m hm=>hx m (by
       unfold DataW.weights
       rw[hu]
       exact List.mem_cons_of_mem _ (List.mem_append.2 (.inl (mem_weightsAll hy hm))))
      have hx4:∀y∈rest,Rch P e y.1:=fun y hy m hm=>hx m (by
       unfold DataW.weights
       rw[hu]
       exact List.mem_cons_of_mem _ (List.mem_append.2 (.inr (mem_weightsAll hy hm))))
      have elem:∀i,i<cap→∃l,w.cells? 0 (a.add (i*P.cellsOf e)) (P.cellsOf e)=some l∧∃y,Rch P e y.1∧DataW.trod enc P w 0 (fun _=>true) true fuel e l=some y:=by
       intro i hi
       by_cases hil:i<len
       ·have:=helems i hil
        rw[List.getElem?_eq_getElem (by omega)]at this
        simp only[Option.bind_eq_some_iff]at this
        obtain⟨l,h1,h2⟩:=this
        exact⟨l,h1,_,hx3 _ (List.getElem_mem _),h2⟩
       ·have:=hr2 (i-len) (by omega)
        rw[List.getElem?_eq_getElem (by omega),show len+(i-len)=i by omega]at this
        simp only[Option.bind_eq_some_iff]at this
        obtain⟨l,h1,h2⟩:=this
        exact⟨l,h1,_,hx4 _ (List.getElem_mem _),h2⟩
      -- the block
      obtain⟨l0,hl0,_⟩:=elem 0 (by omega)
      obtain⟨hl0n,hl0c⟩:=cells_of hl0
      have hc0:=hl0c 0 hz
      rw[Nat.zero_mul,show a.add 0=a by simp[Addr.add],show a.add 0=a by simp[Addr.add],List.getElem?_eq_getElem (by omega)]at hc0
      obtain⟨cc,ty,fr,hblk,hspot,hc0'⟩:∃cc ty fr,w.heap[a.block]? =some (.cells cc ty fr)∧a.spot=none∧cc[a.off]? =some (l0[0]'(by omega)):=by
       unfold World.cell? at hc0
       split at hc0
       ·rename_i cc ty fr hb
        split at hc0
        ·cases hc0
        ·rename_i hs
         exact⟨cc,ty,fr,hb,by simpa using hs,hc0⟩
       ·cases hc0
      obtain⟨ab,ao,asp⟩:=a
      simp only at hspot hblk hc0'
      subst hspot
      have cell:∀j,w.cell? ⟨ab,j,none⟩=cc[j]? :=fun j=>by simp[World.cell?,hblk]
      have elem2:∀i,i<cap→((cc.toList.drop (ao+i*P.cellsOf e)).take (P.cellsOf e)).length=P.cellsOf e∧OpenP P ng w e ((cc.toList.drop (ao+i*P.cellsOf e)).take (P.cellsOf e)):=by
       intro i hi
       obtain⟨l,h1,y,hyr,h2⟩:=elem i hi
       obtain⟨hln,hlc⟩:=cells_of h1
       have hl:l=(cc.toList.drop (ao+i*P.cellsOf e)).take (P.cellsOf e):=by
        apply List.ext_getElem?
        intro j
        by_cases hj:j<P.cellsOf e
        ·rw[←hlc j hj,List.getElem?_take_of_lt hj,List.getElem?_drop,add_plain,add_plain,cell]
         simp
        ·rw[List.getElem?_eq_none (by omega),List.getElem?_eq_none (by rw[List.length_take];omega)]
       rw[←hl]
       have:=ih d e l y hoke hyr h2
       exact⟨hln,this.2⟩
      obtain⟨σ1,H1,c,g1,g2,g3,g4,g5⟩:=open_row cap (fun i=>(cc.toList.drop (ao+i*P.cellsOf e)).take (P.cellsOf e)) elem2 σ H hr no
      rw[row_flat]at g2
      have hsz:ao+cap*P.cellsOf e≤cc.size∧0<cap*P.cellsOf e:=by
       have h1:=g2.length
       have h2:0<cap*P.cellsOf e:=Nat.mul_pos (by omega) hz
       rw[g3,List.length_take,List.length_drop,Array.length_toList]at h1
       omega
      have hnone:=g1.hr.none_of_ge (Nat.le_refl H1.n)
      have hlt:ab<w.heap.size:=by
       by_cases hh:ab<w.heap.size
       ·exact hh
       ·rw[Array.getElem?_eq_none (by omega)]at hblk;cases hblk
      let bi:BI:=⟨ab,ao,cap*P.cellsOf e,cc.size-ao,P.cellsOf e,false⟩
      let o2:AO:=.cells false false (P.cellsOf e) c ty
      have hor:OR σ1 w bi o2:=⟨g3.symm,rfl,rfl,by show c.length≤cc.size-ao;omega,g4,cc,fr,hblk,by show cc.size=ao+(cc.size-ao);omega,by rw[g3];exact g2,by simp⟩
      have hadd:=HR.add (o2:=o2) (G':=(H1.alloc o2).get) g1.hr hnone (fun x hx=>AHeap.get_alloc_ne H1 o2 hx) (AHeap.get_alloc_new H1 o2) hlt hor (fun x j ox _ hox hh=>by
       have:=g1.no x ox hox
       rcases hh with⟨_,h2⟩|⟨h2,_⟩
       ·cases h2
       ·rw[this]at h2;cases h2)
      have hk:Keeps H1 (H1.alloc o2):=(Keeps.refl H1).alloc o2
      refine⟨σ1.up H1.n bi,H1.alloc o2,[slc H1.n 0 len cap],g1.trans ⟨Sg.le_up _ hnone,hk,hadd,fun b o hb=>?_⟩,.cons ?_ .nil,?_,by simp[slc,Value.oneCell']⟩
      ·rw[alloc_get]at hb
       split at hb
       ·cases hb;rfl
       ·exact g1.no b o hb
      ·exact VR.sl (i:=bi) (o:=0) (Sg.up_same _ _ _) hlc (.inl rfl)
      ·exact .sl hu (by omega) hlc ⟨hcm,hx2⟩ (AHeap.get_alloc_new H1 o2) g3 (fun i hi=>hk.ar (g5 i hi))
   ·rename_i fs hu
    obtain⟨xs,m,hfu,rfl,hl,hxl,hxs⟩:=DataW.trod_struct hu h
    cases hfu
    have hx2:=rch_each (P:=P) (ts:=fs.toList.map (·.type)) (l:=xs.map (·.1)) (fun m hm=>hx m (by unfold DataW.weights;rw[hu];exact hm))
    refine⟨hl,fun σ H hr no=>?_⟩
    have each:∀fd∈fs.toList,okT P d fd.type=true→((cs.drop fd.offset).take (P.cellsOf fd.type)).length=P.cellsOf fd.type∧OpenP P ng w fd.type ((cs.drop fd.offset).take (P.cellsOf fd.type)):=by
     intro fd hfd hokf
     obtain⟨i,hi,hfi⟩:=List.mem_iff_getElem.1 hfd
     have hi':i<fs.size:=by simpa using hi
     have h1:fs[i]? =some fd:=by
      rw[Array.getElem?_eq_getElem hi']
      rw[←hfi];simp
     have h2:=hxs i fd h1
     rw[List.getElem?_eq_getElem (by omega)]at h2
     exact ih d fd.type _ _ hokf (hx2 i fd.type _ (by simpa using⟨fd,h1,rfl⟩) (by simp[List.getElem?_eq_getElem (show i<xs.length by omega)])) h2
    obtain⟨σ',H',c,g1,g2,g3,g4⟩:=open_fields fs.toList 0 hok (Nat.zero_le _) hl (fun fd hfd hf=>(each fd hfd hf).2) (fun fd hfd hf=>(each fd hfd hf).1) σ H hr no
    rw[List.drop_zero]at g2
    refine⟨σ',H',c,g1,g2,.struct hu (by rw[g2.length,hl]) (fun i f hf=>?_),g3⟩
    have:=(g4 f (by
     have:fs.toList[i]? =some f:=by simpa using hf
     exact List.mem_of_getElem? this)).2
    simpa using this
   ·rename_i n e hu
    simp only[Bool.and_eq_true,beq_iff_eq]at hok
    obtain⟨hn,hoke⟩:=hok
    obtain⟨xs,m,hfu,rfl,hl,hxl,hxs⟩:=DataW.trod_array hu h
    cases hfu
    have hx2:=rch_all (P:=P) (e:=e) (l:=xs.map (·.1)) (fun m hm=>hx m (by unfold DataW.weights;rw[hu];exact hm))
    refine⟨hl,fun σ H hr no=>?_⟩
    obtain⟨σ',H',c,g1,g2,g3,g4,g5⟩:=open_row (P:=P) (ng:=ng) (w:=w) (e:=e) (z:=P.cellsOf e) n (fun i=>(cs.drop (0+i*P.cellsOf e)).take (P.cellsOf e)) (fun i hi=>by
     have h2:=hxs i hi
     rw[List.getElem?_eq_getElem (by omega)]at h2
     rw[Nat.zero_add]
     exact ih d e _ _ hoke (hx2 _ (List.mem_map_of_mem (List.getElem_mem _))) h2) σ H hr no
    rw[row_flat,List.drop_zero,hn,←hl,List.take_length]at g2
    exact⟨σ',H',c,g1,g2,.array hu (by rw[g3,hn]) g5,g4⟩
   ·cases hok
end
end Go.AM

set_option linter.unusedSimpArgs false
set_option linter.unusedVariables false
namespace Go.AM
open Go.RowKit Go.WideShapes Go.ChangeShapes
section
variable {H0:Type} {enc:TypeId×Value→H0} {P:Program} {w:World} {ng:Nat}
def AV(P:Program)(G:Gf)(t:TypeId)(v:Value):Prop:=AR P G t v.cells.toList∧(isAggT P t=some true→∃cs,v=.agg cs)∧(isAggT P t=some false→v.oneCell'=true)
def AVs(P:Program)(G:Gf):List TypeId→List Value→Prop
 |[],[]=>True
 |t::ts,v::vs=>AV P G t v∧AVs P G ts vs
 |_,_=>False
theorem AV.mono{G G':Gf}(hg:∀b o,G b=some o→G' b=some o){t:TypeId}{v:Value}(h:AV P G t v):AV P G' t v:=⟨h.1.mono hg,h.2⟩
theorem okWide_shape{t:TypeId}{v:Value}{d:Nat}(hok:okT P d t=true)(hv:Value.okWide P w .any 0 t v):(∃cs,v=.agg cs∧isAggT P t=some true)∨(v.cells= #[v]∧isAggT P t=some false∧v.oneCell'=true):=by
 cases d with
 |zero=>simp[okT]at hok
 |succ d=>
  simp only[okT]at hok
  split at hok
  ·rename_i hu
   obtain⟨b,rfl⟩:=okWide_bool hu hv
   exact .inr ⟨rfl,by unfold isAggT;rw[hu];rfl,rfl⟩
  ·rename_i hu
   obtain⟨b,rfl⟩:=okWide_int hu hv
   exact .inr ⟨rfl,by unfold isAggT;rw[hu];rfl,rfl⟩
  ·rename_i hu
   obtain⟨b,rfl⟩:=okWide_string hu hv
   exact .inr ⟨rfl,by unfold isAggT;rw[hu];rfl,rfl⟩
  ·rename_i hu
   obtain⟨a,n,k,rfl⟩:=okWide_slice hu hv
   exact .inr ⟨rfl,by unfold isAggT;rw[hu];rfl,rfl⟩
  ·rename_i hu
   obtain⟨cs,rfl,_⟩:=okWide_struct hu hv
   exact .inl ⟨cs,rfl,by unfold isAggT;rw[hu];rfl⟩
  ·rename_i n e hu
   unfold Value.okWide at hv
   rw[hu]at hv
   obtain⟨cs,rfl,_⟩:=hv
   exact .inl ⟨cs,rfl,by unfold isAggT;rw[hu];rfl⟩
  ·cases hok
theorem open_arg{t:TypeId}{v:Value}{d:DataW H0}{ps:List MemPlace}(hok:okT P 20 t=true)(hv:Value.okWide P w .any 0 t v)(hx:Rch P t d)(h:DataW.Trod enc P w 0 (fun _=>true) true t v d ps){σ:Sg}{H:AHeap}(hr:HR ng σ H.get w)(no:NoOwn H):
 ∃σ' H' v',Opened P ng w σ H σ' H'∧VR σ' v' v∧AV P H'.get t v':=by
 obtain⟨fuel,hf⟩:=h
 obtain⟨hl,hop⟩:=open_cells (ng:=ng) fuel 20 t _ _ hok hx hf
 obtain⟨σ',H',cs',g1,g2,g3,g4⟩:=hop σ H hr no
 rcases okWide_shape hok hv with⟨cs,rfl,hag⟩|⟨hc,hag,hone⟩
 ·refine⟨σ',H',.agg cs'.toArray,g1,?_,g3,fun _=>⟨_,rfl⟩,(fun h=>by rw[hag]at h;cases h)⟩
  have:=VR.agg_of g2
  simpa[Value.cells]using this
 ·rw[hc]at g2
  match cs',g2 with
  |[u],.cons hu .nil=>
   have h1:=g4 u (by simp)
   refine⟨σ',H',u,g1,hu,?_,(fun h=>by rw[hag]at h;cases h),fun _=>h1⟩
   rw[cells_one h1];exact g3
theorem open_args:∀{ts:List TypeId} {vs:List Value} {ds:List (DataW H0)} {ps:List MemPlace},(∀t∈ts,okT P 20 t=true)→(∀(j:Nat) t v,ts[j]? =some t→vs[j]? =some v→Value.okWide P w .any 0 t v)→(∀m∈DataW.weightsEach P ts ds,m≤reachBytes)→DataW.TrodAll enc P w 0 (fun _=>true) true ts vs ds ps→
 ∀{σ:Sg} {H:AHeap},HR ng σ H.get w→NoOwn H→∃σ' H' vs',Opened P ng w σ H σ' H'∧VL σ' vs' vs∧AVs P H'.get ts vs'
 |[],vs,ds,ps,_,_,_,h,σ,H,hr,no=>by
  obtain⟨rfl,_,_⟩:=trodAll_nil h
  exact⟨σ,H,[],Opened.refl hr no,.nil,trivial⟩
 |t::ts,vs,ds,ps,hok,hv,hx,h,σ,H,hr,no=>by
  obtain⟨v,vs',d,ds',p,q,rfl,rfl,rfl,h1,h2⟩:=trodAll_cons h
  obtain⟨σ1,H1,u,g1,g2,g3⟩:=open_arg (ng:=ng) (hok t (by simp)) (hv 0 t v rfl rfl) (fun m hm=>hx m (List.mem_append.2 (.inl hm))) h1 hr no
  obtain⟨σ2,H2,us,k1,k2,k3⟩:=open_args (fun t ht=>hok t (by simp[ht])) (fun j t v a b=>hv (j+1) t v (by simpa using a) (by simpa using b)) (fun m hm=>hx m (List.mem_append.2 (.inr hm))) h2 g1.hr g1.no
  exact⟨σ2,H2,u::us,g1.trans k1,.cons (g2.mono k1.le) k2,g3.mono (fun b o hb=>k1.keep.at_ hb),k3⟩
def globsH(n:Nat):AHeap:=⟨n,List.replicate n .dead⟩
theorem globsH_get{n b:Nat}(h:b<n):(globsH n).get b=some .dead:=by
 unfold globsH AHeap.get
 simp only[h,if_true]
 rw[List.getElem?_replicate,if_pos (by omega)]
theorem HR.globs(n:Nat)(w:World)(h:n≤w.heap.size):HR n (fun b=>if b<n then some ⟨b,0,0,0,0,false⟩else none) (globsH n).get w:=by
 refine⟨fun b i hb=>?_,fun b1 b2 i1 i2 o1 o2 _ h1 _ g1 _ hw=>?_,fun b i hb=>?_,fun g hg=>⟨⟨g,0,0,0,0,false⟩,by simp[hg],rfl,rfl⟩⟩
 ·by_cases hn:b<n
  ·exact⟨.dead,globsH_get hn,trivial⟩
  ·simp[hn]at hb
 ·by_cases hn:b1<n
  ·rw[globsH_get hn]at g1;cases g1;cases hw
  ·simp[hn]at h1
 ·by_cases hn:b<n
  ·simp only[hn,if_true,Option.some.injEq]at hb;subst hb;exact Nat.lt_of_lt_of_le hn h
  ·simp[hn]at hb
theorem globsH_no(n:Nat):NoOwn (globsH n):=fun b o h=>by
 have hb:b<n:=AHeap.get_lt h
 rw[globsH_get hb]at h
 cases h;rfl
theorem law_calls{ng:Nat}{f:FuncId}{ts:List TypeId}(hts:∀t∈ts,okT P 20 t=true)(hlaw:∀H args,NoOwn H→AVs P H.get ts args→∃H',ARun P ng f args H (.bool true) H'){args:Array Value}{ds:List (DataW H0)}{ps:List MemPlace}
 (hA:DataW.TrodAll enc P w 0 (fun _=>true) true ts args.toList ds ps) (hws:(DataW.weightsEach P ts ds).all (· ≤reachBytes)=true) (hval:∀(j:Nat) t v,ts[j]? =some t→args[j]? =some v→Value.okWide P w .any 0 t v)
 (hng:ng≤w.heap.size:=by exact Nat.zero_le _) (hb:bodiedB P f=true:=by kernel_rfl):
 Calls P f args w fun e w'=>e=.returned (.bool true)∧Below w.heap.size w w':=by
 obtain⟨σ,H,args',g1,g2,g3⟩:=open_args (ng:=ng) hts (fun j t v a b=>hval j t v a (by simpa using b)) (fun m hm=>by simpa using List.all_eq_true.1 hws m hm) hA (HR.globs ng w hng) (globsH_no ng)
 obtain⟨H',_,_,hrun⟩:=hlaw H args' g1.no g3
 refine((hrun σ w args.toList g1.hr g2).calls (bodied_of hb)).mono ?_
 rintro e w' ⟨v',σ',rfl,k1,k2,k3⟩
 rw[k3.bool_inv]
 refine⟨rfl,k2.os,k2.tape,k2.output,k2.size,fun k hk=>k2.keep k hk (fun b i o hb ho hown=>?_)⟩
 rw[g1.no b o ho]at hown;cases hown
theorem trodAll_stays(hl:laidOutB P=true){W W':World}(hb:Below W.heap.size W W'){sp:Nat→Bool}:∀{ts:List TypeId} {vs:List Value} {ds:List (DataW H0)} {ps:List MemPlace},(∀t∈ts,P.readableRec t=true∧t<P.types.size)→
 DataW.TrodAll enc P W 0 (fun _=>true) true ts vs ds ps→(∀x∈ps,x.block<W.heap.size)→(∀p∈ps,sp p.block=true)→DataW.TrodAll enc P W' 0 sp true ts vs ds ps
 |[],vs,ds,ps,_,h,_,_=>by obtain⟨rfl,rfl,rfl⟩:=trodAll_nil h;rfl
 |t::ts,vs,ds,ps,hr,h,hlt,hsp=>by
  obtain⟨v,vs',d,ds',p,q,rfl,rfl,rfl,h1,h2⟩:=trodAll_cons h
  obtain⟨r1,r2⟩:=hr t (by simp)
  exact⟨p,q,WideElems.Trod_stays hl r1 r2 h1 (fun x hx=>hb.same (hlt x (by simp[hx]))) (fun x hx=>hsp x (by simp[hx])),
   trodAll_stays hl hb (fun t ht=>hr t (by simp[ht])) h2 (fun x hx=>hlt x (by simp[hx])) (fun x hx=>hsp x (by simp[hx])),rfl⟩
theorem post_of_below{H:Type}{enc:TypeId×Value→H}{f:Func}{s:ChangeSpec}{apart fresh handsOn again:Bool}{W W':World}{args:Array Value}{v:Value}{ds gs:List (DataW H)}{before pa pv:List MemPlace}
 (hW:DataW.Whole enc P f.params.toList s.vars apart W args.toList ds gs before)
 (hres:∀(b:Nat) (sp:Nat→Bool) (hd:Bool),DataW.TrodAll enc P W' b sp hd f.resultTypes.toList (v.resultList f.resultTypes.size) (s.fn H (ds++gs)).results [])
 (hargs:∀sp:Nat→Bool,(∀p∈before,sp p.block=true)→DataW.TrodAll enc P W' 0 sp true f.params.toList args.toList (s.fn H (ds++gs)).args pa)
 (hvars:∀sp:Nat→Bool,(∀p∈before,sp p.block=true)→DataW.TrodVars enc P W' sp s.vars (s.fn H (ds++gs)).vars pv)
 (hps:before=pa++pv) (hb:Below W.heap.size W W')
 (hok:∀(j:Nat) (t:TypeId) (r:Value),f.resultTypes[j]? =some t→(v.resultList f.resultTypes.size)[j]? =some r→Value.okWide P W' .any 0 t r):
 s.post enc P f apart fresh handsOn again W args v W':=by
 have hlt:∀p∈before,p.block<W.heap.size:=fun p hp=>hW.lt p hp
 have hold:∀p∈before,(fun b=>decide (b<W.heap.size)) p.block=true:=fun p hp=>by simpa using hlt p hp
 refine⟨ds,gs,before,[],pa,pv,hW,hres _ _ _,hargs _ hold,hvars _ hold,World.keptBut_mono (fun p hp=>⟨hp,?_⟩) (hb.frame (· ∈before)),fun _=>?_⟩
 ·rw[hps,List.mem_append]at hp
  exact Or.inr hp
 ·obtain⟨_,_,_,_,_,hz,hn⟩:=hW
  refine⟨hok,_,_,([]++pa)++pv,⟨[]++pa,pv,trodAll_append (hargs _ (fun _ _=>rfl)) (hres _ _ _),hvars _ (fun _ _=>rfl),rfl,?_,?_⟩,?_⟩
  ·intro b off hp
   have hin:MemPlace.cell b off∈before:=by rw[hps];simpa using hp
   rw[hb.frozen (hlt _ hin)]
   exact hz b off hin
  ·intro ha
   have:=hn ha
   rw[hps]at this
   simpa using this
  ·intro p hp _
   rw[hps]
   simpa using hp
end
end Go.AM

set_option linter.unusedSimpArgs false
set_option linter.unusedVariables false
namespace Go.AM
section
variable {P:Program} {G:Gf} {t e:TypeId} {v:Value} {cs:List Value}
theorem AR.int_inv{k:IntKind}(hu:P.underlying t=some (.int k))(h:AR P G t cs):∃n,cs=[.int k n]∧(Lit.int k n).wf=true:=by
 cases h with
 |int h hw=>rw[hu]at h;cases h;exact⟨_,rfl,hw⟩
 |bool h=>rw[hu]at h;cases h
 |str h _=>rw[hu]at h;cases h
 |nil h=>rw[hu]at h;cases h
 |zero h _=>rw[hu]at h;cases h
 |sl h=>rw[hu]at h;cases h
 |struct h _=>rw[hu]at h;cases h
 |array h _=>rw[hu]at h;cases h
theorem AR.slice_inv(hu:P.underlying t=some (.slice e))(h:AR P G t cs):cs=[.slice none 0 0]∨(∃x:Addr,x.spot.isSome=true∧cs=[.slice (some x) 0 0])∨
 ∃b n k c u,cs=[slc b 0 n k]∧0<k∧n≤k∧(k≤maxLen∧k*P.bytesOf e≤reachBytes)∧G b=some (.cells false false (P.cellsOf e) c u)∧c.length=k*P.cellsOf e∧∀i,i<k→AR P G e ((c.drop (i*P.cellsOf e)).take (P.cellsOf e)):=by
 cases h with
 |int h hw=>rw[hu]at h;cases h
 |bool h=>rw[hu]at h;cases h
 |str h hs=>rw[hu]at h;cases h
 |nil h=>exact .inl rfl
 |zero h hx=>exact .inr (.inl ⟨_,hx,rfl⟩)
 |sl h a b c d e f=>rw[hu]at h;cases h;exact .inr (.inr ⟨_,_,_,_,_,rfl,a,b,c,d,e,f⟩)
 |struct h _=>rw[hu]at h;cases h
 |array h _=>rw[hu]at h;cases h
theorem AV.one(ha:isAggT P t=some false)(h:AV P G t v):v.cells.toList=[v]:=by
 rw[cells_one (h.2.2 ha)]
theorem AV.int_inv{k:IntKind}(hu:P.underlying t=some (.int k))(h:AV P G t v):∃n,v=.int k n∧(Lit.int k n).wf=true:=by
 have h1:=h.one (by unfold isAggT;rw[hu];rfl)
 obtain⟨n,h2,h3⟩:=h.1.int_inv hu
 rw[h1]at h2
 exact⟨n,by simpa using h2,h3⟩
theorem AR.bytes(hu:P.underlying e=some (.int .u8))(hz:P.cellsOf e=1):∀(k:Nat) (c:List Value),c.length=k*P.cellsOf e→(∀i,i<k→AR P G e ((c.drop (i*P.cellsOf e)).take (P.cellsOf e)))→∃l:List UInt8,c=cellsOf l
 |0,c,hc,_=>⟨[],List.eq_nil_of_length_eq_zero (by simpa using hc)⟩
 |k+1,c,hc,h=>by
  rw[hz]at hc h
  match c,hc with
  |x::c,hc=>
   obtain⟨n,h1,h2⟩:=(h 0 (by omega)).int_inv hu
   simp at h1
   obtain⟨l,hl⟩:=AR.bytes hu hz k c (by rw[hz];simpa using hc) (fun i hi=>by
    have:=h (i+1) (by omega)
    rw[hz]
    simpa using this)
   simp only[Lit.wf,Bool.and_eq_true,decide_eq_true_eq,IntKind.min,IntKind.max,IntKind.signed,IntKind.bits]at h2
   obtain⟨m,rfl⟩:∃m:Nat,n=m:=⟨n.toNat,by simp at h2;omega⟩
   refine⟨UInt8.ofNat m::l,?_⟩
   have hm:m % 256=m:=by simp at h2;omega
   simp[cellsOf,h1,hl,hm]
theorem AR.bs(hu:P.underlying t=some (.slice e))(he:P.underlying e=some (.int .u8))(hz:P.cellsOf e=1){H:AHeap}{v:Value}(h:AR P H.get t [v]):∃l:List UInt8,BS H v l:=by
 rcases h.slice_inv hu with h2|⟨x,hx,h2⟩|⟨b,n,k,c,u,h2,h3,h4,h5,h6,h7,h8⟩
 ·cases h2;exact⟨[],BS.nil H⟩
 ·cases h2
  refine⟨[],⟨⟨_,_,rfl⟩,?_⟩⟩
  obtain⟨b,o,s⟩:=x
  cases s with
  |none=>simp at hx
  |some s=>simp[elemsA,cellsOf]
 ·cases h2
  obtain⟨l,rfl⟩:=AR.bytes he hz k c h7 h8
  rw[cellsOf_length,hz]at h7
  refine⟨l.take n,⟨⟨some ⟨b,0,none⟩,k,?_⟩,?_⟩⟩
  ·rw[List.length_take,Nat.min_eq_left (by omega)];rfl
  ·simp only[elemsA,slc,h6]
   rw[if_pos (by rw[cellsOf_length];omega),List.drop_zero,Nat.mul_one]
   simp[cellsOf,List.map_take]
end
end Go.AM

set_option linter.unusedSimpArgs false
set_option linter.unusedVariables false
namespace Go.AM
section
variable {P:Program} {ng:Nat} {H:AHeap} {Q:AQ} {fr tm:List Value}
theorem W_loop2{c:ACode}(I:Nat→List Value→AHeap→Prop)(n:Nat)(h0:I n fr H)
 (hs:∀(Q':AQ) (k:Nat) (fr:List Value) (H:AHeap),I k fr H→(∀k' fr H,I k' fr H→k'<k→Q' .normal fr H)→(∀i fr H,Q (.exit i) fr H→Q' (.exit i) fr H)→(∀fr H,Q .ret fr H→Q' .ret fr H)→W P ng c Q' fr H):W P ng (.loop c) Q fr H:=
 ⟨I,n,h0,fun k fr H hI=>hs _ k fr H hI (fun k' fr H h1 h2=>⟨k',h2,h1⟩) (fun _ _ _ h=>h) (fun _ _ h=>h)⟩
theorem alloc_set(H:AHeap)(o o':AO):(H.alloc o).set H.n o'=H.alloc o':=by
 simp[AHeap.alloc,AHeap.set]
theorem a_b2sB{v:Value}{l:List UInt8}(h:BS H v l):asem (.b2s v) H=some (.string ⟨l.toArray⟩,H):=by
 simp only[asem,h.el,bytesOf_cellsOf]
theorem bytes_append(p q:List UInt8):(⟨p.toArray⟩:ByteArray)++⟨q.toArray⟩=⟨(p++q).toArray⟩:=by
 rw[←bCat_eq];rfl
theorem bytes_eq(p q:List UInt8):decide ((⟨p.toArray⟩:ByteArray)=⟨q.toArray⟩)=decide (p=q):=by
 rw[bstr_eq,bEq_eq]
theorem a_s2bl(e:Nat)(l:List UInt8):asem (.s2b e (.string ⟨l.toArray⟩)) H=some (slc H.n 0 l.length l.length,H.alloc (.cells true true 1 (cellsOf l) e)):=by
 have hs:(⟨l.toArray⟩:ByteArray).size=l.length:=by simp[ByteArray.size]
 simp only[asem,hs]
 rfl
theorem bs_new(H:AHeap)(e:Nat)(room:Bool)(l:List UInt8):BS (H.alloc (.cells true room 1 (cellsOf l) e)) (slc H.n 0 l.length l.length) l:=
 ⟨⟨_,_,rfl⟩,elems_own (AHeap.get_alloc_new H _) (by simp[cellsOf])⟩
theorem cells_set(l:List UInt8)(j n:Nat):(cellsOf l).set j (.int .u8 ((UInt8.ofNat n).toNat))=cellsOf (l.set j (UInt8.ofNat n)):=by
 simp[cellsOf,List.map_set]
theorem cells_get{l:List UInt8}{j:Nat}(h:j<l.length):(cellsOf l)[j]? =some (.int .u8 l[j].toNat):=by simp[cellsOf,h]
theorem wrap_succ{n:Nat}(h:n+1<9223372036854775808):IntKind.i64.wrap ((n:Int)+1)=((n+1:Nat):Int):=by rw[wrap_i64 (by omega) (by omega)];push_cast;rfl
end
set_option linter.defProp false in
def ANs:=(And.intro (And.intro (And.intro (And.intro (And.intro (And.intro (And.intro @W_skip @W_reg) (And.intro @W_seq (And.intro @w_cond @cond_true))) (And.intro (And.intro @cond_false (And.intro @W_exit @W_ret)) (And.intro @W_dreg (And.intro @r_nil @r_cons)))) (And.intro (And.intro (And.intro @r_consg (And.intro @gd_true @gd_false)) (And.intro @go_some (And.intro @st_call @st_callv))) (And.intro (And.intro @d_nil (And.intro @d_cons @d_consg)) (And.intro @gdD_true (And.intro @gdD_false @goD_some))))) (And.intro (And.intro (And.intro (And.intro @goD_some' @stD_call) (And.intro @st_mov (And.intro @st_pick @st_new))) (And.intro (And.intro @st_box (And.intro @st_build @st_bslice)) (And.intro @st_load1 (And.intro @st_loadn @st_store1)))) (And.intro (And.intro (And.intro @st_storen (And.intro @st_nilck @st_bin)) (And.intro @st_eqv (And.intro @st_un @st_i2i))) (And.intro (And.intro @st_s2s (And.intro @st_s2b @st_b2s)) (And.intro @st_iface (And.intro @st_mkfn @st_mksl)))))) (And.intro (And.intro (And.intro (And.intro (And.intro @st_slstr @st_slsl) (And.intro @st_faddr (And.intro @st_fld1 @st_fldn))) (And.intro (And.intro @st_iaddr (And.intro @st_idxs @st_assert)) (And.intro @st_extract (And.intro @st_len @st_mark)))) (And.intro (And.intro (And.intro @sd_pick (And.intro @sd_new @sd_box)) (And.intro @sd_build (And.intro @sd_bslice @sd_load1))) (And.intro (And.intro @sd_loadn (And.intro @sd_store1 @sd_storen)) (And.intro @sd_nilck (And.intro @sd_bin @sd_eqv))))) (And.intro (And.intro (And.intro (And.intro @sd_un @sd_i2i) (And.intro @sd_s2s (And.intro @sd_s2b @sd_b2s))) (And.intro (And.intro @sd_iface (And.intro @sd_mkfn @sd_mksl)) (And.intro @sd_slstr (And.intro @sd_slsl @sd_faddr)))) (And.intro (And.intro (And.intro @sd_fld1 (And.intro @sd_fldn @sd_iaddr)) (And.intro @sd_idxs (And.intro @sd_assert @sd_extract))) (And.intro (And.intro @sd_len (And.intro @sd_mark @sd_mov)) (And.intro @a_mov (And.intro @a_pick @a_new))))))) (And.intro (And.intro (And.intro (And.intro (And.intro (And.intro @a_box @a_build) (And.intro @a_load1 (And.intro @a_loadn @a_nilck))) (And.intro (And.intro @a_bin (And.intro @a_eqv @a_not)) (And.intro @a_neg (And.intro @a_i2i @a_s2s)))) (And.intro (And.intro (And.intro @a_s2b (And.intro @a_iface @a_mkfn)) (And.intro @a_faddr (And.intro @a_fld1 @a_iaddr))) (And.intro (And.intro @a_assert (And.intro @a_extract @a_len)) (And.intro @a_lenc (And.intro @a_lens @AX_fr))))) (And.intro (And.intro (And.intro (And.intro @AX_tm @AX_c) (And.intro @AX_fn (And.intro @AX_g @D_no))) (And.intro (And.intro @D_no' (And.intro @D_tm @D_tm')) (And.intro @D_fr (And.intro @D_fr' @getD_nil')))) (And.intro (And.intro (And.intro @want_x (And.intro @bi_tt @bi_tf)) (And.intro @bi_ft (And.intro @bi_ff @pk_t))) (And.intro (And.intro @pk_f (And.intro @resO0 @resO1)) (And.intro @resO2 (And.intro @resO3 @e_sn)))))) (And.intro (And.intro (And.intro (And.intro (And.intro @e_ss @e_pn) (And.intro @e_ps (And.intro @e_bb @fill0))) (And.intro (And.intro @fill1 (And.intro @b_add @b_sub)) (And.intro @b_mul (And.intro @b_eql @b_neq)))) (And.intro (And.intro (And.intro @b_lss (And.intro @b_leq @b_gtr)) (And.intro @b_geq (And.intro @b_and @b_or))) (And.intro (And.intro @b_xor (And.intro @b_seql @b_sneq)) (And.intro @b_slss (And.intro @at_n @at_e))))) (And.intro (And.intro (And.intro (And.intro @at_r (And.intro @ib_n @ib_r)) (And.intro @ib_e (And.intro @ib_x @one_int))) (And.intro (And.intro @one_bool (And.intro @one_str @one_sl)) (And.intro @one_slc (And.intro @one_ptr @one_pn)))) (And.intro (And.intro (And.intro @one_if (And.intro @one_map @bnd_none)) (And.intro @o_int (And.intro @o_bool @o_str))) (And.intro (And.intro @o_sl (And.intro @o_slc @o_ptr)) (And.intro @o_pn (And.intro @o_if @o_map))))))))
set_option linter.defProp false in
def ANc:=(And.intro (And.intro (And.intro (And.intro (And.intro @List.getD_cons_zero.{0} @List.getD_cons_succ.{0}) (And.intro @List.set_cons_zero.{0} @List.set_cons_succ.{0})) (And.intro (And.intro @List.map_cons.{0,0} @List.map_nil.{0,0}) (And.intro @Option.map_some.{0,0} (And.intro @Option.map_none.{0,0} @beq_self_eq_true.{0})))) (And.intro (And.intro (And.intro @if_true.{1} @if_true.{0}) (And.intro @Bool.false_eq_true @if_false.{1})) (And.intro (And.intro @if_false.{0} @Bool.not_true) (And.intro @Bool.not_false (And.intro @Nat.add_zero @Nat.zero_add))))) (And.intro (And.intro (And.intro (And.intro @Nat.mul_one @Int.toNat_natCast) (And.intro @List.getElem?_cons_zero.{0} @List.getElem?_cons_succ.{0})) (And.intro (And.intro @true_and @and_true) (And.intro @false_and (And.intro @Exit.exit.injEq @Bool.true_beq)))) (And.intro (And.intro (And.intro @Bool.false_beq @beq_true) (And.intro @beq_false (And.intro @List.length_cons.{0} @List.length_nil.{0}))) (And.intro (And.intro @List.all_cons.{0} @List.all_nil.{0}) (And.intro @Bool.and_true (And.intro @Bool.true_and @and_self))))))
end Go.AM

set_option linter.unusedSimpArgs false
set_option linter.unusedVariables false
namespace Go.AM
section
variable {P:Program} {ng:Nat} {H H':AHeap} {Q:AQ} {fr tm:List Value}
def cellO(g:Option AO)(o:Nat):Option Value:=match g with
 |some (.cells _ _ _ c _)=>c[o]?
 |_=>none
def rangeO(g:Option AO)(o n:Nat):Option (List Value):=match g with
 |some (.cells _ _ _ c _)=>if o+n≤c.length then some ((c.drop o).take n)else none
 |_=>none
theorem cellA_e(H:AHeap)(b o:Nat):cellA H b o=cellO (H.get b) o:=by unfold cellA cellO;rfl
theorem rangeA_e(H:AHeap)(b o n:Nat):rangeA H b o n=rangeO (H.get b) o n:=by unfold rangeA rangeO;rfl
theorem cellO_c(own room:Bool)(esz e:Nat)(c:List Value)(o:Nat):cellO (some (.cells own room esz c e)) o=c[o]? :=_root_.id rfl
theorem rangeO_c(own room:Bool)(esz e:Nat)(c:List Value)(o n:Nat):rangeO (some (.cells own room esz c e)) o n=if o+n≤c.length then some ((c.drop o).take n)else none:=_root_.id rfl
def st1O(H:AHeap)(b o:Nat)(x:Value)(g:Option AO):Option (Value×AHeap):=match g with
 |some (.cells true room esz c e)=>if o<c.length∧x.oneCell'=true then some (undef,H.set b (.cells true room esz (c.set o x) e))else none
 |_=>none
def stnO(H:AHeap)(b o n:Nat)(x:List Value)(g:Option AO):Option (Value×AHeap):=match g with
 |some (.cells true room esz c e)=>if o+n≤c.length∧x.length=n∧x.all Value.oneCell'=true then some (undef,H.set b (.cells true room esz (c.take o++x++c.drop (o+n)) e))else none
 |_=>none
theorem a_store1e(H:AHeap)(b o:Nat)(x:Value):asem (.store1 (ptr b o) x) H=st1O H b o x (H.get b):=by
 unfold st1O
 rfl
theorem a_storene(H:AHeap)(b o n:Nat)(x:Value):asem (.storen n (ptr b o) x) H=stnO H b o n x.cells.toList (H.get b):=by
 unfold stnO
 rfl
theorem st1O_c(b o:Nat)(x:Value)(room:Bool)(esz e:Nat)(c:List Value):st1O H b o x (some (.cells true room esz c e))=if o<c.length∧x.oneCell'=true then some (undef,H.set b (.cells true room esz (c.set o x) e))else none:=by
 unfold st1O;rfl
theorem stnO_c(b o n:Nat)(x:List Value)(room:Bool)(esz e:Nat)(c:List Value):stnO H b o n x (some (.cells true room esz c e))=if o+n≤c.length∧x.length=n∧x.all Value.oneCell'=true then some (undef,H.set b (.cells true room esz (c.take o++x++c.drop (o+n)) e))else none:=by
 unfold stnO;rfl
theorem rng_full{own room:Bool}{esz e n:Nat}{c:List Value}(h:c.length=n):rangeO (some (.cells own room esz c e)) 0 n=some c:=by
 rw[rangeO_c,if_pos (by omega),List.drop_zero,List.take_of_length_le (by omega)]
theorem rng_part{own room:Bool}{esz e o n:Nat}{c:List Value}(h:c.length≠n):rangeO (some (.cells own room esz c e)) o n=if o+n≤c.length then some ((c.drop o).take n)else none:=rangeO_c ..
theorem stn_full{b n:Nat}{x:List Value}{room:Bool}{esz e:Nat}{c:List Value}(h:c.length=n):stnO H b 0 n x (some (.cells true room esz c e))=if x.length=n∧x.all Value.oneCell'=true then some (undef,H.set b (.cells true room esz x e))else none:=by
 rw[stnO_c]
 by_cases hx:x.length=n∧x.all Value.oneCell'=true
 ·rw[if_pos ⟨by omega,hx⟩,if_pos hx,List.take_zero,List.nil_append,List.drop_of_length_le (by omega),List.append_nil]
 ·rw[if_neg (fun h=>hx h.2),if_neg hx]
theorem stn_part{b o n:Nat}{x:List Value}{room:Bool}{esz e:Nat}{c:List Value}(h:c.length≠n):stnO H b o n x (some (.cells true room esz c e))=if o+n≤c.length∧x.length=n∧x.all Value.oneCell'=true then some (undef,H.set b (.cells true room esz (c.take o++x++c.drop (o+n)) e))else none:=stnO_c ..
theorem cells_agg(l:List Value):(Value.agg l.toArray).cells.toList=l:=by simp[Value.cells]
theorem toList_arr(l:List Value):l.toArray.toList=l:=by simp
theorem size_arr(l:List Value):l.toArray.size=l.length:=by simp
theorem g_new{b:Nat}(o:AO)(h:b=H.n):(H.alloc o).get b=some o:=by subst h;exact AHeap.get_alloc_new H o
theorem g_old{b:Nat}(o:AO)(h:b<H.n):(H.alloc o).get b=H.get b:=AHeap.get_alloc_old H o h
theorem g_set(b:Nat)(o:AO):(H.set b o).get b=(H.get b).map fun _=>o:=by
 by_cases hb:b<H.n
 ·by_cases h:H.n-1-b<H.l.length
  ·simp[AHeap.get,AHeap.set,hb,h]
  ·simp only[AHeap.get,AHeap.set,hb,if_true,List.getElem?_eq_none (Nat.le_of_not_lt h),Option.map_none]
   exact List.getElem?_eq_none (by simpa using Nat.le_of_not_lt h)
 ·simp[AHeap.get,AHeap.set,hb]
theorem g_sets{b b':Nat}(o:AO)(h:b'≠b)(h2:b<H.n):(H.set b o).get b'=H.get b':=AHeap.get_set_other H h h2 o
theorem set_new{b:Nat}(o o':AO)(h:b=H.n):(H.alloc o).set b o'=H.alloc o':=by subst h;exact alloc_set H o o'
theorem set_old{b:Nat}(o o':AO)(h:b<H.n):(H.alloc o).set b o'=(H.set b o').alloc o:=by
 simp only[AHeap.alloc,AHeap.set,show H.n+1-1-b=(H.n-1-b)+1 by omega,List.set_cons_succ]
theorem set_set(b:Nat)(o o':AO):(H.set b o).set b o'=H.set b o':=by simp[AHeap.set]
theorem lt_yes{a b:Nat}(h:a<b):(a<b)=True:=by simp[h]
theorem le_yes{a b:Nat}(h:a≤b):(a≤b)=True:=by simp[h]
theorem eqn_yes{a b:Nat}(h:a=b):(a=b)=True:=by simp[h]
theorem lti_yes{a b:Int}(h:a<b):(a<b)=True:=by simp[h]
theorem lei_yes{a b:Int}(h:a≤b):(a≤b)=True:=by simp[h]
theorem lti_no{a b:Int}(h:¬a<b):(a<b)=False:=by simp[h]
theorem lei_no{a b:Int}(h:¬a≤b):(a≤b)=False:=by simp[h]
theorem beqi_no{a b:Int}(h:¬a=b):(a==b)=false:=by simp[h]
theorem beqi_yes{a b:Int}(h:a=b):(a==b)=true:=by simp[h]
theorem bnei_no{a b:Int}(h:a=b):(a != b)=false:=by simp[h]
theorem bnei_yes{a b:Int}(h:¬a=b):(a != b)=true:=by simp[h]
theorem bi_u(b:Bool):boolIs undef b=false:=by cases b<;>rfl
theorem boolIs_t(b:Bool):boolIs (.bool b) true=b:=by cases b<;>rfl
theorem boolIs_f(b:Bool):boolIs (.bool b) false= !b:=by cases b<;>rfl
theorem callK{f:FuncId}{xs:List Value}{R K:Value→AHeap→Prop}(h:∃v H',ARun P ng f xs H v H'∧R v H')(k:∀v H',R v H'→K v H'):∃v H',ARun P ng f xs H v H'∧K v H':=by
 obtain⟨v,H',h1,h2⟩:=h;exact⟨v,H',h1,k v H' h2⟩
theorem Chg1.get{r:Nat}(c:Chg [r] H H'){b:Nat}(h1:b<H.n)(h2:b≠r):H'.get b=H.get b:=c.get b h1 (by simpa using h2)
theorem Chg2.get{r s:Nat}(c:Chg [r,s] H H'){b:Nat}(h1:b<H.n)(h2:b≠r)(h3:b≠s):H'.get b=H.get b:=c.get b h1 (by simp[h2,h3])
theorem Keeps.trans'{A B C:AHeap}(k:Keeps B C)(h:Keeps A B):Keeps A C:=h.trans k
def bn(v:Value):Nat:=match blk v with
 |some b=>b+1
 |none=>0
def elP(v:Value)(esz j off:Nat):Value:=match v with
 | .slice (some ⟨b,o,none⟩) _ _=>ptr b (o+j*esz+off)
 |_=>undef
def nnS(v:Value):Bool:=match v with
 | .slice (some ⟨_,_,none⟩) _ _=>true
 |_=>false
def lenS(v:Value):Nat:=match v with
 | .slice _ n _=>n
 |_=>0
def isS(v:Value):Bool:=match v with
 | .slice _ _ _=>true
 |_=>false
def rowA(H:AHeap)(esz:Nat)(v:Value)(j:Nat):Option (List Value):=match v with
 | .slice (some ⟨b,o,none⟩) _ _=>rangeA H b (o+j*esz) esz
 |_=>none
theorem nnS_inv{v:Value}(h:nnS v=true):∃b o n k,v=slc b o n k:=by
 unfold nnS at h
 split at h
 ·exact⟨_,_,_,_,rfl⟩
 ·cases h
theorem isS_inv{v:Value}(h:isS v=true):∃a n k,v=.slice a n k:=by
 unfold isS at h
 split at h
 ·exact⟨_,_,_,rfl⟩
 ·cases h
theorem a_lenv{v:Value}(h:isS v=true):asem (.len false v) H=some (.int .i64 (lenS v),H):=by
 obtain⟨a,n,k,rfl⟩:=isS_inv h;rfl
theorem a_iaddrv{v:Value}{esz:Nat}{kd:IntKind}{i:Int}(h:nnS v=true)(h1:0≤i)(h2:i<(lenS v:Int)):asem (.iaddr esz v (.int kd i)) H=some (elP v esz i.toNat 0,H):=by
 obtain⟨b,o,n,k,rfl⟩:=nnS_inv h
 rw[a_iaddr,if_pos ⟨h1,h2⟩];rfl
theorem a_faddrv{v:Value}{esz j off d:Nat}(h:nnS v=true):asem (.faddr d (elP v esz j off)) H=some (elP v esz j (off+d),H):=by
 obtain⟨b,o,n,k,rfl⟩:=nnS_inv h
 show asem (.faddr d (ptr b (o+j*esz+off))) H=_
 rw[a_faddr,Nat.add_assoc];rfl
theorem rowA_range{v:Value}{esz j:Nat}{r:List Value}(h:rowA H esz v j=some r):∃b o n k,v=slc b o n k∧r.length=esz∧∃own room z c e,H.get b=some (.cells own room z c e)∧o+j*esz+esz≤c.length∧r=(c.drop (o+j*esz)).take esz:=by
 unfold rowA at h
 split at h
 ·rename_i b o n k
  refine⟨b,o,n,k,rfl,?_⟩
  unfold rangeA at h
  split at h
  ·rename_i own room z c e hg
   split at h
   ·rename_i hl
    simp only[Option.some.injEq]at h;subst h
    exact⟨by rw[List.length_take,List.length_drop];omega,own,room,z,c,e,hg,hl,rfl⟩
   ·cases h
  ·cases h
 ·cases h
theorem a_load1v{v:Value}{esz j off:Nat}{r:List Value}(h:rowA H esz v j=some r)(ho:off<esz):asem (.load1 (elP v esz j off)) H=r[off]?.map fun x=>(x,H):=by
 obtain⟨b,o,n,k,rfl,h1,own,room,z,c,e,h2,h3,h4⟩:=rowA_range h
 show asem (.load1 (ptr b (o+j*esz+off))) H=_
 rw[a_load1,cellA_of h2,h4,List.getElem?_take_of_lt ho,List.getElem?_drop]
theorem a_loadnv{v:Value}{esz j off n:Nat}{r:List Value}(h:rowA H esz v j=some r)(ho:off+n≤esz):asem (.loadn n (elP v esz j off)) H=some (.agg ((r.drop off).take n).toArray,H):=by
 obtain⟨b,o,n',k,rfl,h1,own,room,z,c,e,h2,h3,h4⟩:=rowA_range h
 show asem (.loadn n (ptr b (o+j*esz+off))) H=_
 rw[a_loadn,rangeA_of h2,if_pos (by omega),h4,List.drop_take,List.take_take,List.drop_drop,Nat.min_eq_left (by omega)]
 rfl
theorem a_loadnvf{v:Value}{n j:Nat}{r:List Value}(h:rowA H n v j=some r):asem (.loadn n (elP v n j 0)) H=some (.agg r.toArray,H):=by
 obtain⟨_,_,_,_,_,hl,_⟩:=rowA_range h
 rw[a_loadnv h (by omega),List.drop_zero,List.take_of_length_le (by omega)]
theorem a_loadnvp{v:Value}{esz j off n:Nat}{r:List Value}(hne:n≠esz)(h:rowA H esz v j=some r)(ho:off+n≤esz):asem (.loadn n (elP v esz j off)) H=some (.agg ((r.drop off).take n).toArray,H):=a_loadnv h ho
theorem stD_callv{KF:List Value→AHeap→Prop}{tr:List TE}(g:FuncId)(first cap:Array Value)(xs:List Value)(d:D)(un:List Nat)(r:List (AOper×List Nat)):stD P ng (.callv (.func (.func g) first cap) xs) d un r fr tm H tr KF=callD P ng g (first.toList++xs++cap.toList) d un r fr tm H tr KF:=_root_.id rfl
theorem reads_el{v:Value}{esz j off:Nat}(h:nnS v=true):readsA (.load1 (elP v esz j off))=[bn v-1]:=by
 obtain⟨b,o,n',k,rfl⟩:=nnS_inv h;rfl
theorem readsn_el{v:Value}{esz j off n:Nat}(h:nnS v=true):readsA (.loadn n (elP v esz j off))=[bn v-1]:=by
 obtain⟨b,o,n',k,rfl⟩:=nnS_inv h;rfl
theorem rowA_get{esz:Nat}{v:Value}{j:Nat}(h:∀b,blk v=some b→H'.get b=H.get b):rowA H' esz v j=rowA H esz v j:=by
 unfold rowA
 split
 ·rename_i b o n k
  rw[rangeA_e,rangeA_e,h b rfl]
 ·rfl
theorem bn_lt{v:Value}{n b:Nat}(h:bn v≤n)(e:blk v=some b):b<n:=by
 unfold bn at h;rw[e]at h;exact h
theorem row_alloc{esz:Nat}{v:Value}{j:Nat}(o:AO)(h:bn v≤H.n):rowA (H.alloc o) esz v j=rowA H esz v j:=rowA_get fun b e=>g_old o (bn_lt h e)
theorem row_set{esz:Nat}{v:Value}{j b:Nat}(o:AO)(h:bn v≠b+1)(hb:b<H.n):rowA (H.set b o) esz v j=rowA H esz v j:=rowA_get fun x e=>g_sets o (by intro hx;subst hx;apply h;unfold bn;rw[e]) hb
theorem Keeps.row(k:Keeps H H'){esz:Nat}{v:Value}{j:Nat}(h:bn v≤H.n):rowA H' esz v j=rowA H esz v j:=rowA_get fun b e=>k.get b (bn_lt h e)
structure Sl (H:AHeap) (esz:Nat) (v:Value) (rows:List (List Value)):Prop where
 sh:∃a k,v=.slice a rows.length k
 row:∀r∈rows,r.length=esz
 el:elemsA H esz v=some rows.flatten
theorem Sl.len{esz:Nat}{v:Value}{rows:List (List Value)}(h:Sl H esz v rows):lenS v=rows.length:=by
 obtain⟨a,k,rfl⟩:=h.sh;rfl
theorem Sl.is{esz:Nat}{v:Value}{rows:List (List Value)}(h:Sl H esz v rows):isS v=true:=by
 obtain⟨a,k,rfl⟩:=h.sh;rfl
theorem Sl.nil(H:AHeap)(esz:Nat):Sl H esz (.slice none 0 0) []:=⟨⟨_,_,rfl⟩,by simp,rfl⟩
theorem flat_len{esz:Nat}:∀{rows:List (List Value)},(∀r∈rows,r.length=esz)→rows.flatten.length=rows.length*esz
 |[],_=>by simp
 |r::rows,h=>by
  have h1:=h r (by simp)
  have h2:=flat_len (rows:=rows) (fun x hx=>h x (by simp[hx]))
  rw[List.flatten_cons,List.length_append,h1,h2,List.length_cons,Nat.add_mul];omega
theorem flat_at{esz:Nat}:∀{rows:List (List Value)},(∀r∈rows,r.length=esz)→∀(i:Nat) (hi:i<rows.length),(rows.flatten.drop (i*esz)).take esz=rows[i]
 |r::rows,h,0,_=>by
  have h1:=h r (by simp)
  rw[Nat.zero_mul,List.drop_zero,List.flatten_cons,List.take_append_of_le_length (by omega),List.take_of_length_le (by omega)];rfl
 |r::rows,h,i+1,hi=>by
  have h1:=h r (by simp)
  have h2:=flat_at (rows:=rows) (fun x hx=>h x (by simp[hx])) i (by simpa using hi)
  rw[Nat.add_mul,Nat.one_mul,Nat.add_comm,←List.drop_drop,List.flatten_cons]
  rw[show(r++rows.flatten).drop esz=rows.flatten by rw[←h1,List.drop_left],h2]
  rfl
theorem Sl.at_{esz:Nat}{v:Value}{rows:List (List Value)}(h:Sl H esz v rows)(hz:0<esz){i:Nat}(hi:i<rows.length):nnS v=true∧rowA H esz v i=some rows[i]:=by
 have h2:=h.el
 have hfl:=flat_len h.row
 have hpos:0<rows.flatten.length:=by rw[hfl];exact Nat.mul_pos (by omega) hz
 obtain⟨a,k,rfl⟩:=h.sh
 match a,h2 with
 |none,h2=>simp only[elemsA,Option.some.injEq]at h2;rw[←h2]at hpos;simp at hpos
 |some ⟨b,o,some q⟩,h2=>
  simp only[elemsA]at h2
  rw[if_neg (by omega)]at h2;cases h2
 |some ⟨b,o,none⟩,h2=>
  refine⟨rfl,?_⟩
  simp only[elemsA]at h2
  simp only[rowA,rangeA]
  split at h2
  ·rename_i own room z c e hg
   split at h2
   ·rename_i hl
    have hm:(i+1)*esz≤rows.length*esz:=Nat.mul_le_mul_right esz hi
    rw[Nat.add_mul,Nat.one_mul]at hm
    rw[if_pos (by omega)]
    simp only[Option.some.injEq]at h2
    have:=flat_at h.row i hi
    rw[←h2,List.drop_take,List.take_take,List.drop_drop,Nat.min_eq_left (by omega)]at this
    rw[this]
   ·cases h2
  ·cases h2
theorem Sl.get'{esz:Nat}{v:Value}{rows:List (List Value)}(h:Sl H esz v rows)(k:∀b,blk v=some b→b<H.n→H'.get b=H.get b):Sl H' esz v rows:=by
 refine⟨h.sh,h.row,?_⟩
 have h2:=h.el
 obtain⟨a,c,rfl⟩:=h.sh
 match a,h2 with
 |none,h2=>exact h2
 |some ⟨b,o,none⟩,h2=>
  simp only[elemsA]at h2 ⊢
  cases hg:H.get b with
  |none=>rw[hg]at h2;cases h2
  |some ob=>rw[k b rfl (AHeap.get_lt hg)];exact h2
 |some ⟨b,o,some _⟩,h2=>simpa[elemsA]using h2
theorem Sl.keeps{esz:Nat}{v:Value}{rows:List (List Value)}(h:Sl H esz v rows)(k:Keeps H H'):Sl H' esz v rows:=h.get' fun b _ hb=>k.get b hb
theorem Sl.chg{esz:Nat}{v:Value}{rows:List (List Value)}{S:List Nat}(h:Sl H esz v rows)(k:Chg S H H')(hS:∀b,blk v=some b→b∉S):Sl H' esz v rows:=h.get' fun b e hb=>k.get b hb (hS b e)
theorem BS.sl{v:Value}{l:List UInt8}(h:BS H v l):Sl H 1 v (l.map fun b=>[.int .u8 b.toNat]):=by
 obtain⟨a,k,e⟩:=h.sh
 refine⟨⟨a,k,by rw[List.length_map];exact e⟩,?_,?_⟩
 ·intro r hr;simp at hr;obtain⟨b,_,rfl⟩:=hr;rfl
 ·rw[h.el]
  congr 1
  clear h e
  induction l with
  |nil=>rfl
  |cons b l ih=>simp only[List.map_cons,List.flatten_cons,←ih];rfl
theorem AP.sl{e esz:Nat}{v:Value}{n:Nat}{rows:List (List Value)}(h:AP H e esz v n rows.flatten)(hr:∀r∈rows,r.length=esz)(hn:n=rows.length):Sl H esz v rows:=by
 obtain⟨a,ha⟩:=h.shape
 exact⟨⟨a,n,by rw[←hn];exact ha⟩,hr,h.elems⟩
section
variable {KF:List Value→AHeap→Prop} {tr:List TE} (d:D) (r:List AOper) (un:List Nat) (rd:List (AOper×List Nat))
theorem st_app(e s b:Nat)(x y:Value):stR P ng (.app e s b x y) d r fr tm H KF=goR P ng (asem (.app e s b x y) H) d r fr tm KF:=st_of d r (by simp) (by simp) (by simp)
theorem st_apps(e b:Nat)(x y:Value):stR P ng (.apps e b x y) d r fr tm H KF=goR P ng (asem (.apps e b x y) H) d r fr tm KF:=st_of d r (by simp) (by simp) (by simp)
theorem sd_apps(e b:Nat)(x y:Value):stD P ng (.apps e b x y) d un rd fr tm H tr KF=goD P ng (.apps e b x y) (asem (.apps e b x y) H) d un rd fr tm H tr KF:=stD_of d un rd (by simp) (by simp) (by simp)
theorem st_iaddrp(s n:Nat)(x i:Value):stR P ng (.iaddrp s n x i) d r fr tm H KF=goR P ng (asem (.iaddrp s n x i) H) d r fr tm KF:=st_of d r (by simp) (by simp) (by simp)
theorem sd_iaddrp(s n:Nat)(x i:Value):stD P ng (.iaddrp s n x i) d un rd fr tm H tr KF=goD P ng (.iaddrp s n x i) (asem (.iaddrp s n x i) H) d un rd fr tm H tr KF:=stD_of d un rd (by simp) (by simp) (by simp)
theorem st_idxa(a:Bool)(s n:Nat)(x i:Value):stR P ng (.idxa a s n x i) d r fr tm H KF=goR P ng (asem (.idxa a s n x i) H) d r fr tm KF:=st_of d r (by simp) (by simp) (by simp)
theorem sd_idxa(a:Bool)(s n:Nat)(x i:Value):stD P ng (.idxa a s n x i) d un rd fr tm H tr KF=goD P ng (.idxa a s n x i) (asem (.idxa a s n x i) H) d un rd fr tm H tr KF:=stD_of d un rd (by simp) (by simp) (by simp)
theorem st_slarr(s n:Nat)(x:Value)(lo hi mx:Option Value):stR P ng (.slarr s n x lo hi mx) d r fr tm H KF=goR P ng (asem (.slarr s n x lo hi mx) H) d r fr tm KF:=st_of d r (by simp) (by simp) (by simp)
theorem sd_slarr(s n:Nat)(x:Value)(lo hi mx:Option Value):stD P ng (.slarr s n x lo hi mx) d un rd fr tm H tr KF=goD P ng (.slarr s n x lo hi mx) (asem (.slarr s n x lo hi mx) H) d un rd fr tm H tr KF:=stD_of d un rd (by simp) (by simp) (by simp)
theorem st_eqs(c:List Nat)(n:Bool)(x y:Value):stR P ng (.eqs c n x y) d r fr tm H KF=goR P ng (asem (.eqs c n x y) H) d r fr tm KF:=st_of d r (by simp) (by simp) (by simp)
theorem sd_eqs(c:List Nat)(n:Bool)(x y:Value):stD P ng (.eqs c n x y) d un rd fr tm H tr KF=goD P ng (.eqs c n x y) (asem (.eqs c n x y) H) d un rd fr tm H tr KF:=stD_of d un rd (by simp) (by simp) (by simp)
theorem st_mm(m:Bool)(x y:Value):stR P ng (.mm m x y) d r fr tm H KF=goR P ng (asem (.mm m x y) H) d r fr tm KF:=st_of d r (by simp) (by simp) (by simp)
theorem sd_mm(m:Bool)(x y:Value):stD P ng (.mm m x y) d un rd fr tm H tr KF=goD P ng (.mm m x y) (asem (.mm m x y) H) d un rd fr tm H tr KF:=stD_of d un rd (by simp) (by simp) (by simp)
theorem st_i2str(x:Value):stR P ng (.i2str x) d r fr tm H KF=goR P ng (asem (.i2str x) H) d r fr tm KF:=st_of d r (by simp) (by simp) (by simp)
theorem sd_i2str(x:Value):stD P ng (.i2str x) d un rd fr tm H tr KF=goD P ng (.i2str x) (asem (.i2str x) H) d un rd fr tm H tr KF:=stD_of d un rd (by simp) (by simp) (by simp)
theorem st_rng(x:Value):stR P ng (.rng x) d r fr tm H KF=goR P ng (asem (.rng x) H) d r fr tm KF:=st_of d r (by simp) (by simp) (by simp)
theorem st_next(x:Value):stR P ng (.next x) d r fr tm H KF=goR P ng (asem (.next x) H) d r fr tm KF:=st_of d r (by simp) (by simp) (by simp)
theorem st_copy(e:Nat)(x y:Value):stR P ng (.copy e x y) d r fr tm H KF=goR P ng (asem (.copy e x y) H) d r fr tm KF:=st_of d r (by simp) (by simp) (by simp)
theorem sd_copy(e:Nat)(x y:Value):stD P ng (.copy e x y) d un rd fr tm H tr KF=goD P ng (.copy e x y) (asem (.copy e x y) H) d un rd fr tm H tr KF:=stD_of d un rd (by simp) (by simp) (by simp)
theorem st_clr(e:Nat)(z:List Value)(x:Value):stR P ng (.clr e z x) d r fr tm H KF=goR P ng (asem (.clr e z x) H) d r fr tm KF:=st_of d r (by simp) (by simp) (by simp)
end
theorem a_mm(m:Bool)(k:IntKind)(a b:Int):asem (.mm m (.int k a) (.int k b)) H=some (.int k (if m then(if b>a then b else a)else(if b<a then b else a)),H):=by
 simp[asem]
theorem a_mmx(k:IntKind)(a b:Int):asem (.mm true (.int k a) (.int k b)) H=some (.int k (max a b),H):=by
 rw[a_mm];simp only[if_true];congr 3;split<;>omega
theorem a_mmn(k:IntKind)(a b:Int):asem (.mm false (.int k a) (.int k b)) H=some (.int k (min a b),H):=by
 rw[a_mm];simp only[Bool.false_eq_true,if_false];congr 3;split<;>omega
theorem a_iaddrp(esz n b o:Nat)(kd:IntKind)(i:Int):asem (.iaddrp esz n (ptr b o) (.int kd i)) H=if 0≤i∧i<(n:Int)then some (ptr b (o+i.toNat*esz),H)else none:=_root_.id rfl
theorem a_bslicee(e esz n:Nat)(z:List Value)(ps:List (Nat×Nat×Value)):asem (.bslice e esz n z ps) H=(fillA z ps).bind fun c=>if c.all Value.oneCell'=true∧c.length=n*esz then some (slc H.n 0 n n,H.alloc (.cells true false esz c e))else none:=by
 simp only[asem];cases fillA z ps<;>rfl
theorem fill_cons(c:List Value)(o n:Nat)(v:Value)(r:List (Nat×Nat×Value)):fillA c ((o,n,v)::r)=if v.cells.toList.length=n∧o+n≤c.length then fillA (c.take o++v.cells.toList++c.drop (o+n)) r else none:=by
 simp only[fillA]
theorem cells_int(k:IntKind)(n:Int):(Value.int k n).cells.toList=[.int k n]:=_root_.id rfl
theorem cells_bool(n:Bool):(Value.bool n).cells.toList=[.bool n]:=_root_.id rfl
theorem cells_str(n:ByteArray):(Value.string n).cells.toList=[.string n]:=_root_.id rfl
theorem cells_sl(a:Option Addr)(n k:Nat):(Value.slice a n k).cells.toList=[.slice a n k]:=_root_.id rfl
theorem cells_slc(b o n k:Nat):(slc b o n k).cells.toList=[slc b o n k]:=_root_.id rfl
theorem cells_ptr(b o:Nat):(ptr b o).cells.toList=[ptr b o]:=_root_.id rfl
theorem cells_pn(a:Option Addr):(Value.pointer a).cells.toList=[.pointer a]:=_root_.id rfl
theorem cells_isS{v:Value}(h:isS v=true):v.cells.toList=[v]:=by obtain⟨a,n,k,rfl⟩:=isS_inv h;rfl
theorem one_isS{v:Value}(h:isS v=true):v.oneCell'=true:=by obtain⟨a,n,k,rfl⟩:=isS_inv h;rfl
theorem resC(i n:Nat)(fr:List Value):resO [.cn n i] fr H=(celln n (fr.getD i undef) H):=by
 simp only[resO,resVs,RX.get]
 cases celln n (fr.getD i undef) H<;>rfl
theorem cellnp(n b o:Nat):celln n (ptr b o) H=(rangeA H b o n).map fun c=>.agg c.toArray:=_root_.id rfl
theorem cell1p(b o:Nat):cell1 (ptr b o) H=cellA H b o:=_root_.id rfl
theorem touch_load1(b o:Nat)(H:AHeap):touchA (.load1 (ptr b o)) H=[b]:=_root_.id rfl
theorem touch_loadn(n b o:Nat)(H:AHeap):touchA (.loadn n (ptr b o)) H=[b]:=_root_.id rfl
theorem touch_load1v{v:Value}{esz j off:Nat}(h:nnS v=true)(H:AHeap):touchA (.load1 (elP v esz j off)) H=[bn v-1]:=by
 show readsA _=_;exact reads_el h
theorem touch_loadnv{v:Value}{esz j off n:Nat}(h:nnS v=true)(H:AHeap):touchA (.loadn n (elP v esz j off)) H=[bn v-1]:=by
 show readsA _=_;exact readsn_el h
theorem keepsB_n(A B:AHeap):keepsB [] A B=True:=_root_.id rfl
theorem keepsB_c(b:Nat)(l:List Nat)(A B:AHeap):keepsB (b::l) A B=(B.get b=A.get b∧keepsB l A B):=_root_.id rfl
theorem olderB_n(A:AHeap):olderB [] A=True:=_root_.id rfl
theorem olderB_c(b:Nat)(l:List Nat)(A:AHeap):olderB (b::l) A=(b<A.n∧olderB l A):=_root_.id rfl
def ob1(k:Nat)(bs:List Nat)(A B:AHeap)(x:Option TE):Prop:=match x with
 |some t=>if k=1∧t.k=3 then olderB bs t.H∧keepsB bs t.H t.H' else if k=3∧(t.k=1∨t.k=2)then keepsB t.bs A B else True
 |none=>True
theorem obl_c(k:Nat)(bs:List Nat)(A B:AHeap)(tr:List TE)(i:Nat)(un:List Nat):oblA k bs A B tr (i::un)=(ob1 k bs A B tr[i]? ∧oblA k bs A B tr un):=_root_.id rfl
theorem ob1_0(bs:List Nat)(A B:AHeap)(x:Option TE):ob1 0 bs A B x=True:=by unfold ob1;split<;>simp
theorem ob1_2(bs:List Nat)(A B:AHeap)(x:Option TE):ob1 2 bs A B x=True:=by unfold ob1;split<;>simp
theorem ob1_s(k:Nat)(bs:List Nat)(A B:AHeap)(j:Nat)(cs:List Nat)(C D:AHeap):ob1 k bs A B (some ⟨j,cs,C,D⟩)=if k=1∧j=3 then olderB bs C∧keepsB bs C D else if k=3∧(j=1∨j=2)then keepsB cs A B else True:=_root_.id rfl
end
set_option linter.defProp false in
def A3s:=(And.intro (And.intro (And.intro (And.intro (And.intro (And.intro @cellA_e @rangeA_e) (And.intro @cellO_c (And.intro @rng_full @rng_part))) (And.intro (And.intro @a_store1e (And.intro @a_storene @st1O_c)) (And.intro @stn_full (And.intro @stn_part @a_load1v)))) (And.intro (And.intro (And.intro @a_loadnvf (And.intro @a_loadnvp @stD_callv)) (And.intro @cells_agg (And.intro @toList_arr @size_arr))) (And.intro (And.intro @g_new (And.intro @g_old @g_set)) (And.intro @g_sets (And.intro @set_new @set_old))))) (And.intro (And.intro (And.intro (And.intro @set_set @alloc_n) (And.intro @set_n (And.intro @lt_yes @le_yes))) (And.intro (And.intro @eqn_yes (And.intro @lti_yes @lei_yes)) (And.intro @lti_no (And.intro @lei_no @beqi_no)))) (And.intro (And.intro (And.intro @beqi_yes (And.intro @bnei_no @bnei_yes)) (And.intro @boolIs_t (And.intro @boolIs_f @a_lenv))) (And.intro (And.intro @a_iaddrv (And.intro @a_faddrv @row_alloc)) (And.intro @row_set (And.intro @st_app @st_apps)))))) (And.intro (And.intro (And.intro (And.intro (And.intro @sd_apps @sd_app) (And.intro @st_iaddrp (And.intro @sd_iaddrp @st_idxa))) (And.intro (And.intro @sd_idxa (And.intro @st_slarr @sd_slarr)) (And.intro @st_eqs (And.intro @sd_eqs @st_mm)))) (And.intro (And.intro (And.intro @sd_mm (And.intro @st_i2str @sd_i2str)) (And.intro @st_rng (And.intro @st_next @st_copy))) (And.intro (And.intro @sd_copy (And.intro @st_clr @a_mmx)) (And.intro @a_mmn (And.intro @a_iaddrp @a_bslicee))))) (And.intro (And.intro (And.intro (And.intro @cells_int (And.intro @cells_bool @cells_str)) (And.intro @cells_sl (And.intro @cells_slc @cells_ptr))) (And.intro (And.intro @cells_pn (And.intro @touch_load1 @touch_loadn)) (And.intro @touch_load1v (And.intro @touch_loadnv @keepsB_n)))) (And.intro (And.intro (And.intro @keepsB_c (And.intro @olderB_n @olderB_c)) (And.intro @obl_nil (And.intro @obl_c @ob1_0))) (And.intro (And.intro @ob1_2 (And.intro @ob1_s @bi_u)) (And.intro @resC (And.intro @cellnp @cell1p)))))))
set_option linter.defProp false in
def A3c:=(And.intro (And.intro (And.intro (And.intro @List.append_nil.{0} @List.nil_append.{0}) (And.intro @List.cons_append.{0} @decide_true)) (And.intro (And.intro @decide_false @List.drop_zero.{0}) (And.intro @Option.bind_some.{0,0} @List.toList_toArray.{0}))) (And.intro (And.intro (And.intro @implies_true.{1} @implies_true.{0}) (And.intro @not_true_eq_false @not_false_eq_true)) (And.intro (And.intro @and_false @Int.toNat_zero) (And.intro @bne_self_eq_false.{0} @Bool.not_not))))
set_option linter.defProp false in
def LN:=And.intro @List.length_cons.{0} (And.intro @List.length_nil.{0} (And.intro @alloc_n @set_n))
set_option linter.defProp false in
def P3:=And.intro ANs (And.intro A3s (And.intro ANc (And.intro A3c (And.intro (And.intro (And.intro (And.intro (And.intro @AOp.map.eq_1 (And.intro @AOp.map.eq_2 @AOp.map.eq_3)) (And.intro @AOp.map.eq_4 (And.intro @AOp.map.eq_5 @AOp.map.eq_6))) (And.intro (And.intro @AOp.map.eq_7 (And.intro @AOp.map.eq_8 @AOp.map.eq_9)) (And.intro (And.intro @AOp.map.eq_10 @AOp.map.eq_11) (And.intro @AOp.map.eq_12 @AOp.map.eq_13)))) (And.intro (And.intro (And.intro @AOp.map.eq_14 (And.intro @AOp.map.eq_15 @AOp.map.eq_16)) (And.intro @AOp.map.eq_17 (And.intro @AOp.map.eq_18 @AOp.map.eq_19))) (And.intro (And.intro @AOp.map.eq_20 (And.intro @AOp.map.eq_21 @AOp.map.eq_22)) (And.intro (And.intro @AOp.map.eq_23 @AOp.map.eq_24) (And.intro @AOp.map.eq_25 @AOp.map.eq_26))))) (And.intro (And.intro (And.intro (And.intro @AOp.map.eq_27 (And.intro @AOp.map.eq_28 @AOp.map.eq_29)) (And.intro @AOp.map.eq_30 (And.intro @AOp.map.eq_31 @AOp.map.eq_32))) (And.intro (And.intro @AOp.map.eq_33 (And.intro @AOp.map.eq_34 @AOp.map.eq_35)) (And.intro (And.intro @AOp.map.eq_36 @AOp.map.eq_37) (And.intro @AOp.map.eq_38 @AOp.map.eq_39)))) (And.intro (And.intro (And.intro @AOp.map.eq_40 (And.intro @AOp.map.eq_41 @AOp.map.eq_42)) (And.intro (And.intro @AOp.map.eq_43 @AOp.map.eq_44) (And.intro @AOp.map.eq_45 @AOp.map.eq_46))) (And.intro (And.intro @AOp.map.eq_47 (And.intro (And.intro @AOp.map.eq_48 (And.intro @AOp.map.eq_49 (And.intro @AOp.map.eq_50 (And.intro @AOp.map.eq_51 (And.intro @AOp.map.eq_52 (And.intro @AOp.map.eq_53 @AOp.map.eq_54)))))) (And.intro @List.take_nil.{0} @List.take_zero.{0}))) (And.intro (And.intro @List.take_succ_cons.{0} @List.drop_nil.{0}) (And.intro @List.drop_zero.{0} @List.drop_succ_cons.{0})))))))))
end Go.AM

set_option linter.unusedSimpArgs false
set_option linter.unusedVariables false
namespace Go.AM
structure Th where
 P:AHeap→Prop
 F:List Nat
 lt:∀H,P H→∀b∈F,b<H.n
 st:∀H H',P H→H.n≤H'.n→(∀b∈F,H'.get b=H.get b)→P H'
def Apart(a b:Th):Prop:=∀x∈a.F,x∉b.F
theorem Apart.symm{a b:Th}(h:Apart a b):Apart b a:=fun x h1 h2=>h x h2 h1
structure Sep (H:AHeap) (ts:List Th):Prop where
 all:∀t∈ts,t.P H
 ap:ts.Pairwise Apart
theorem Sep.get{H:AHeap}{ts:List Th}(h:Sep H ts)(i:Nat){t:Th}(hi:ts[i]? =some t):t.P H:=h.all t (List.mem_of_getElem? hi)
theorem Sep.keeps{H H':AHeap}{ts:List Th}(h:Sep H ts)(k:Keeps H H'):Sep H' ts:=
 ⟨fun t ht=>t.st H H' (h.all t ht) k.n (fun b hb=>k.get b (t.lt H (h.all t ht) b hb)),h.ap⟩
theorem Sep.upd{H H':AHeap}{t t':Th}{r:List Th}:∀{l:List Th},Sep H (l++t::r)→Chg t.F H H'→t'.P H'→(∀b∈t'.F,b∈t.F∨H.n≤b)→Sep H' (l++t'::r):=by
 intro l h c hp hf
 have key:∀x,x.P H→Apart t x→Apart t' x:=fun x hx ha b hb hbx=>by
  rcases hf b hb with h1|h1
  ·exact ha b h1 hbx
  ·have:=x.lt H hx b hbx;omega
 have stay:∀x,x.P H→Apart t x→x.P H':=fun x hx ha=>x.st H H' hx c.n (fun b hb=>c.get b (x.lt H hx b hb) (fun hbt=>ha b hbt hb))
 have h1:=List.pairwise_append.1 h.ap
 obtain⟨a1,a2,a3⟩:=h1
 have a4:=List.pairwise_cons.1 a2
 refine⟨?_,List.pairwise_append.2 ⟨a1,List.pairwise_cons.2 ⟨fun x hx=>key x (h.all x (by simp[hx])) (a4.1 x hx),a4.2⟩,?_⟩⟩
 ·intro x hx
  rcases List.mem_append.1 hx with hx|hx
  ·exact stay x (h.all x (by simp[hx])) (a3 x hx t (by simp)).symm
  ·rcases List.mem_cons.1 hx with rfl|hx
   ·exact hp
   ·exact stay x (h.all x (by simp[hx])) (a4.1 x hx)
 ·intro x hx y hy
  rcases List.mem_cons.1 hy with rfl|hy
  ·exact(key x (h.all x (by simp[hx])) (a3 x hx t (by simp)).symm).symm
  ·exact a3 x hx y (by simp[hy])
theorem Sep.apart{H:AHeap}{ts:List Th}(h:Sep H ts)(i j:Nat)(hij:i<j){a b:Th}(hi:ts[i]? =some a)(hj:ts[j]? =some b):Apart a b:=by
 obtain⟨h1,rfl⟩:=List.getElem?_eq_some_iff.1 hi
 obtain⟨h2,rfl⟩:=List.getElem?_eq_some_iff.1 hj
 exact List.pairwise_iff_getElem.1 h.ap i j h1 h2 hij
theorem Sep.add{H H':AHeap}{t:Th}{ts:List Th}(h:Sep H ts)(k:Keeps H H')(hp:t.P H')(hf:∀b∈t.F,H.n≤b):Sep H' (t::ts):=
 ⟨fun x hx=>by
  rcases List.mem_cons.1 hx with rfl|hx
  ·exact hp
  ·exact(h.keeps k).all x hx,List.pairwise_cons.2 ⟨fun x hx b hb hbx=>by have:=x.lt H (h.all x hx) b hbx;have:=hf b hb;omega,h.ap⟩⟩
theorem Sep.perm{H:AHeap}{ts us:List Th}(h:Sep H ts)(p:ts.Perm us):Sep H us:=
 ⟨fun t ht=>h.all t (p.mem_iff.2 ht),p.pairwise_iff (fun{a b} hab=>hab.symm) |>.1 h.ap⟩
def thB(b:Nat)(o:AO):Th where
 P H:=H.get b=some o
 F:=[b]
 lt H h x hx:=by simp at hx;subst hx;exact AHeap.get_lt h
 st H H' h _ k:=by rw[k b (by simp)];exact h
section
variable {P:Program} {ng:Nat} {H:AHeap} {KF:List Value→AHeap→Prop} {fr tm:List Value} {tr:List TE} {Q:AQ}
theorem appG{d:D}{r:List AOper}{e esz bytes:Nat}{s x:Value}{n m:Nat}{c news:List Value}(h:AP H e esz s n c)(hx:∃a k,x=.slice a m k)(h1:elemsA H esz x=some news)(hm:news.length=m*esz)
 (hs:(n+m)*bytes≤140737488355328∧n+m≤140737488355328)
 (hk:∀v' H',AP H' e esz v' (n+m) (c++news)→Chg (blkL s) H H'→(blk v'=blk s∨blk v'=some H.n)→RW P ng r (d.frame v' fr) (d.temps v' tm) H' KF):goR P ng (asem (.app e esz bytes s x) H) d r fr tm KF:=by
 rw[←st_app];exact appR h hx h1 hm hs hk
theorem appGD{d:D}{r:List (AOper×List Nat)}{e esz bytes:Nat}{s x:Value}{n m:Nat}{c news:List Value}(h:AP H e esz s n c)(hx:∃a k,x=.slice a m k)(h1:elemsA H esz x=some news)(hm:news.length=m*esz)
 (hs:(n+m)*bytes≤140737488355328∧n+m≤140737488355328)
 (hk:∀v' H',AP H' e esz v' (n+m) (c++news)→Chg (blkL s) H H'→(blk v'=blk s∨blk v'=some H.n)→RD P ng r (d.frame v' fr) (d.temps v' tm) H' (tr++[⟨3,[],H,H'⟩]) KF):goD P ng (.app e esz bytes s x) (asem (.app e esz bytes s x) H) d [] r fr tm H tr KF:=by
 obtain⟨v',H',e1,e2,e3,e4⟩:=h.app (bytes:=bytes) hm hs
 obtain⟨a,k,rfl⟩:=hx
 exact⟨v',H',by simp only[asem,h1];exact e1,trivial,hk v' H' e2 e3 e4⟩
end
theorem elems_new{H:AHeap}{own room:Bool}{esz e n:Nat}{c:List Value}{b:Nat}(hb:b=H.n)(h:c.length=n*esz):elemsA (H.alloc (.cells own room esz c e)) esz (slc b 0 n n)=some c:=by
 subst hb;exact elems_own (AHeap.get_alloc_new H _) h
theorem b_remn{kd:IntKind}{n m:Nat}(h:0<m):binA .rem (.int kd (n:Int)) (.int kd (m:Int))=some (.int kd ((n % m:Nat):Int)):=by
 simp only[binA,if_true,intA]
 rw[if_neg (by omega)]
 rfl
def chunks(esz:Nat):Nat→List Value→List (List Value)
 |0,_=>[]
 |n+1,c=>c.take esz::chunks esz n (c.drop esz)
theorem chunks_len(esz:Nat):∀(n:Nat) (c:List Value),(chunks esz n c).length=n
 |0,_=>rfl
 |n+1,c=>by simp[chunks,chunks_len esz n]
theorem chunks_flat(esz:Nat):∀(n:Nat) (c:List Value),(chunks esz n c).flatten=c.take (n*esz)
 |0,_=>by simp[chunks]
 |n+1,c=>by
  rw[chunks,List.flatten_cons,chunks_flat esz n,Nat.add_mul,Nat.one_mul,Nat.add_comm (n*esz) esz,List.take_add]
theorem chunks_mem(esz:Nat):∀(n:Nat) (c:List Value) (r:List Value),r∈chunks esz n c→∃i,i<n∧r=(c.drop (i*esz)).take esz
 |n+1,c,r,h=>by
  simp only[chunks,List.mem_cons]at h
  rcases h with rfl|h
  ·exact⟨0,by omega,by simp⟩
  ·obtain⟨i,hi,rfl⟩:=chunks_mem esz n _ r h
   exact⟨i+1,by omega,by rw[List.drop_drop,Nat.add_mul,Nat.one_mul,Nat.add_comm]⟩
theorem AR.rows{P:Program}{t e esz:Nat}{H:AHeap}{v:Value}(hu:P.underlying t=some (.slice e))(hz:P.cellsOf e=esz)(h:AR P H.get t [v]):∃rows,Sl H esz v rows∧∀r∈rows,AR P H.get e r:=by
 subst hz
 rcases h.slice_inv hu with h2|⟨x,hx,h2⟩|⟨b,n,k,c,u,h2,h3,h4,h5,h6,h7,h8⟩
 ·cases h2;exact⟨[],Sl.nil _ _,by simp⟩
 ·cases h2
  refine⟨[],⟨⟨_,_,rfl⟩,by simp,?_⟩,by simp⟩
  obtain⟨b,o,s⟩:=x
  cases s with
  |none=>simp at hx
  |some s=>simp[elemsA]
 ·cases h2
  have hnk:n*P.cellsOf e≤c.length:=by rw[h7];exact Nat.mul_le_mul_right _ h4
  refine⟨chunks (P.cellsOf e) n c,⟨⟨_,k,by rw[chunks_len];rfl⟩,?_,?_⟩,?_⟩
  ·intro r hr
   obtain⟨i,hi,rfl⟩:=chunks_mem _ _ _ _ hr
   have:(i+1)*P.cellsOf e≤n*P.cellsOf e:=Nat.mul_le_mul_right _ hi
   rw[Nat.add_mul,Nat.one_mul]at this
   rw[List.length_take,List.length_drop];omega
  ·rw[chunks_flat]
   simp only[elemsA,slc,h6]
   rw[if_pos (by omega),List.drop_zero]
  ·intro r hr
   obtain⟨i,hi,rfl⟩:=chunks_mem _ _ _ _ hr
   exact h8 i (by omega)
theorem list_choose{α β:Type}{f:β→α}{Q:β→Prop}:∀{l:List α},(∀x∈l,∃y,x=f y∧Q y)→∃m:List β,l=m.map f∧∀y∈m,Q y
 |[],_=>⟨[],rfl,by simp⟩
 |x::l,h=>by
  obtain⟨y,rfl,hy⟩:=h x (by simp)
  obtain⟨m,rfl,hm⟩:=list_choose (l:=l) (fun z hz=>h z (by simp[hz]))
  exact⟨y::m,rfl,by intro z hz;rcases List.mem_cons.1 hz with rfl|hz;exact hy;exact hm z hz⟩
end Go.AM

set_option linter.unusedSimpArgs false
set_option linter.unusedVariables false
namespace Go.AM.Fd
open Nat (reduceAdd reduceEqDiff reduceLT reduceLeDiff reduceMul reduceSub)
open Go.Proofs Go.AM.F
def be:Nat→Nat→List UInt8
 |0,_=>[]
 |w+1,n=>UInt8.ofNat (n / 256 ^ w)::be w n
theorem be_length:∀w n,(be w n).length=w
 |0,_=>rfl
 |w+1,n=>by simp[be,be_length w n]
theorem pow8(i:Nat):(2:Nat) ^ (8*i)=256 ^ i:=by rw[Nat.pow_mul]
theorem byte_cell(n i:Nat):(((n:Int).fdiv (2 ^ (8*i))) % 256:Int)=((UInt8.ofNat (n / 256 ^ i)).toNat:Int):=by
 have h1:((2:Int) ^ (8*i))=((256 ^ i:Nat):Int):=by rw[←pow8];push_cast;rfl
 rw[h1,Int.fdiv_eq_ediv_of_nonneg _ (Int.natCast_nonneg _)]
 simp only[UInt8.toNat_ofNat']
 omega
theorem t93(n w:Nat)(hw:w≤8)(H:AHeap):∃v H',ARun Go.Proofs.Tryz.prog 0 93 [.int .u64 n,.int .i64 w] H v H'∧
 AP H' 5 1 v w (cellsOf (be w n))∧Keeps H H'∧Fresh H.n v:=by
 refine walk f93_ok f93_n ?_
 simp only[f93,initFr,↓reduceIte,RD_nil,RD_cons,RD_consg,W_dreg,obl_nil,Nat.reduceAdd,Nat.add_zero,Nat.zero_add,Nat.mul_one,Int.toNat_natCast,W_skip,W_reg,W_seq,W_cond,W_block,W_exit,W_ret,getD_nil',RW_nil,RW_cons,RW_consg,AOp.map,AX_fr,AX_tm,AX_c,AX_fn,AX_g,D_no,D_no',D_tm,D_tm',D_fr,D_fr',List.getD_cons_zero,List.getD_cons_succ,List.set_cons_zero,List.set_cons_succ,List.map_cons,List.map_nil,Option.map_some,Option.map_none,wantA,beq_self_eq_true,if_true,Bool.false_eq_true,if_false,Bool.not_true,Bool.not_false,s_mov,s_pick,s_new,s_box,s_build,s_bslice,s_load1,s_loadn,s_nilck,s_bin,s_eqv,s_not,s_neg,s_i2i,s_s2s,s_s2b,s_iface,s_mkfn,s_faddr,s_fld1,s_iaddr,s_idxs,s_assert,s_extract,s_len,s_lens,s_lenc,s_callf,resO0,resO1,resO2,resO3,List.getElem?_cons_zero,List.getElem?_cons_succ,Nat.reduceEqDiff,true_and,and_true,false_and,e_sn,e_ss,e_pn,e_ps,e_bb,fill0,fill1,b_add,b_sub,b_mul,b_eql,b_neq,b_lss,b_leq,b_gtr,b_geq,b_and,b_or,b_xor,b_seql,b_sneq,b_slss,AQ.andThen,AQ.inBlock,Option.some.injEq,exists_eq_left',exists_eq_left,reduceCtorEq,Exit.exit.injEq]
 rw[wrap_i64 (by omega) (by omega)]
 refine W_loop (fun k fr H1=>∃(i:Int) (x v:Value) (l:List UInt8),fr=[.int .u64 n,.int .i64 w,.slice none 0 0,v,.int .i64 i,x]∧ -1≤i∧i<w∧k=(i+1).toNat∧
  l++be (i+1).toNat n=be w n∧AP H1 5 1 v l.length (cellsOf l)∧Keeps H H1∧Fresh H.n v) (w) ?_ ?_
 ·refine⟨_,undef,_,[],rfl,by omega,by omega,by omega,?_,.inl ⟨rfl,rfl,rfl⟩,Keeps.refl H,fun b hb=>by cases hb⟩
  simp[show((w:Int)-1+1).toNat=w by omega]
 ·rintro k fr H1 ⟨i,x,v,l,rfl,h1,h2,rfl,h3,h4,h5,h6⟩
  simp only[↓reduceIte,RD_nil,RD_cons,RD_consg,W_dreg,obl_nil,Nat.reduceAdd,Nat.add_zero,Nat.zero_add,Nat.mul_one,Int.toNat_natCast,W_skip,W_reg,W_seq,W_cond,W_block,W_exit,W_ret,getD_nil',RW_nil,RW_cons,RW_consg,AOp.map,AX_fr,AX_tm,AX_c,AX_fn,AX_g,D_no,D_no',D_tm,D_tm',D_fr,D_fr',List.getD_cons_zero,List.getD_cons_succ,List.set_cons_zero,List.set_cons_succ,List.map_cons,List.map_nil,Option.map_some,Option.map_none,wantA,beq_self_eq_true,if_true,Bool.false_eq_true,if_false,Bool.not_true,Bool.not_false,s_mov,s_pick,s_new,s_box,s_build,s_bslice,s_load1,s_loadn,s_nilck,s_bin,s_eqv,s_not,s_neg,s_i2i,s_s2s,s_s2b,s_iface,s_mkfn,s_faddr,s_fld1,s_iaddr,s_idxs,s_assert,s_extract,s_len,s_lens,s_lenc,s_callf,resO0,resO1,resO2,resO3,List.getElem?_cons_zero,List.getElem?_cons_succ,Nat.reduceEqDiff,true_and,and_true,false_and,e_sn,e_ss,e_pn,e_ps,e_bb,fill0,fill1,b_add,b_sub,b_mul,b_eql,b_neq,b_lss,b_leq,b_gtr,b_geq,b_and,b_or,b_xor,b_seql,b_sneq,b_slss,AQ.andThen,AQ.inBlock,Option.some.injEq,exists_eq_left',exists_eq_left,reduceCtorEq,Exit.exit.injEq]
  by_cases hi:0≤i
  ·simp only[hi,decide_true,↓reduceIte,RD_nil,RD_cons,RD_consg,W_dreg,obl_nil,Nat.reduceAdd,Nat.add_zero,Nat.zero_add,Nat.mul_one,Int.toNat_natCast,W_skip,W_reg,W_seq,W_cond,W_block,W_exit,W_ret,getD_nil',RW_nil,RW_cons,RW_consg,AOp.map,AX_fr,AX_tm,AX_c,AX_fn,AX_g,D_no,D_no',D_tm,D_tm',D_fr,D_fr',List.getD_cons_zero,List.getD_cons_succ,List.set_cons_zero,List.set_cons_succ,List.map_cons,List.map_nil,Option.map_some,Option.map_none,wantA,beq_self_eq_true,if_true,Bool.false_eq_true,if_false,Bool.not_true,Bool.not_false,s_mov,s_pick,s_new,s_box,s_build,s_bslice,s_load1,s_loadn,s_nilck,s_bin,s_eqv,s_not,s_neg,s_i2i,s_s2s,s_s2b,s_iface,s_mkfn,s_faddr,s_fld1,s_iaddr,s_idxs,s_assert,s_extract,s_len,s_lens,s_lenc,s_callf,resO0,resO1,resO2,resO3,List.getElem?_cons_zero,List.getElem?_cons_succ,Nat.reduceEqDiff,true_and,and_true,false_and,e_sn,e_ss,e_pn,e_ps,e_bb,fill0,fill1,b_add,b_sub,b_mul,b_eql,b_neq,b_lss,b_leq,b_gtr,b_geq,b_and,b_or,b_xor,b_seql,b_sneq,b_slss,AQ.andThen,AQ.inBlock,Option.some.injEq,exists_eq_left',exists_eq_left,reduceCtorEq,Exit.exit.injEq]
   rw[wrap_i64 (by omega) (by omega)]
   obtain⟨j,rfl⟩:∃j:Nat,i=j:=⟨i.toNat,by omega⟩
   simp only[b_shr _ _ _ _ (show(0:Int)≤8*(j:Int) by omega),fill1,↓reduceIte,RD_nil,RD_cons,RD_consg,W_dreg,obl_nil,Nat.reduceAdd,Nat.add_zero,Nat.zero_add,Nat.mul_one,Int.toNat_natCast,W_skip,W_reg,W_seq,W_cond,W_block,W_exit,W_ret,getD_nil',RW_nil,RW_cons,RW_consg,AOp.map,AX_fr,AX_tm,AX_c,AX_fn,AX_g,D_no,D_no',D_tm,D_tm',D_fr,D_fr',List.getD_cons_zero,List.getD_cons_succ,List.set_cons_zero,List.set_cons_succ,List.map_cons,List.map_nil,Option.map_some,Option.map_none,wantA,beq_self_eq_true,if_true,Bool.false_eq_true,if_false,Bool.not_true,Bool.not_false,s_mov,s_pick,s_new,s_box,s_build,s_bslice,s_load1,s_loadn,s_nilck,s_bin,s_eqv,s_not,s_neg,s_i2i,s_s2s,s_s2b,s_iface,s_mkfn,s_faddr,s_fld1,s_iaddr,s_idxs,s_assert,s_extract,s_len,s_lens,s_lenc,s_callf,resO0,resO1,resO2,resO3,List.getElem?_cons_zero,List.getElem?_cons_succ,Nat.reduceEqDiff,true_and,and_true,false_and,e_sn,e_ss,e_pn,e_ps,e_bb,fill0,fill1,b_add,b_sub,b_mul,b_eql,b_neq,b_lss,b_leq,b_gtr,b_geq,b_and,b_or,b_xor,b_seql,b_sneq,b_slss,AQ.andThen,AQ.inBlock,Option.some.injEq,exists_eq_left',exists_eq_left,reduceCtorEq,Exit.exit.injEq]
   have hmin:min (8*(j:Int)).toNat IntKind.u64.bits=8*j:=by simp only[IntKind.bits];omega
   rw[hmin,wrap_u8,byte_cell]
   have hj:((j:Int)+1).toNat=j+1:=by omega
   rw[hj]at h3
   have hlen:l.length+(j+1)=w:=by
    have:=congrArg List.length h3
    simpa[be_length]using this
   refine⟨⟨rfl,rfl⟩,s_appAP (h4.keeps ((Keeps.refl H1).alloc _)) ⟨_,_,rfl⟩ (elems_own (AHeap.get_alloc_new H1 _) rfl) rfl (by omega) ?_⟩
   intro v' H' k1 k2 k3
   have hk:=(h5.alloc _).chg_trans k2 (Fresh.L h6)
   refine⟨j,by omega,j-1,.bool true,v',l++[UInt8.ofNat (n / 256 ^ j)],?_,by omega,by omega,by omega,?_,?_,hk,h6.app (by rw[alloc_n];have:=h5.n;omega) k3⟩
   ·rw[wrap_i64 (by omega) (by omega)]
   ·rw[show((j:Int)-1+1).toNat=j by omega,←h3]
    simp[be]
   ·rw[cellsOf_append,List.length_append]
    exact k1
  ·simp only[hi,decide_false,↓reduceIte,RD_nil,RD_cons,RD_consg,W_dreg,obl_nil,Nat.reduceAdd,Nat.add_zero,Nat.zero_add,Nat.mul_one,Int.toNat_natCast,W_skip,W_reg,W_seq,W_cond,W_block,W_exit,W_ret,getD_nil',RW_nil,RW_cons,RW_consg,AOp.map,AX_fr,AX_tm,AX_c,AX_fn,AX_g,D_no,D_no',D_tm,D_tm',D_fr,D_fr',List.getD_cons_zero,List.getD_cons_succ,List.set_cons_zero,List.set_cons_succ,List.map_cons,List.map_nil,Option.map_some,Option.map_none,wantA,beq_self_eq_true,if_true,Bool.false_eq_true,if_false,Bool.not_true,Bool.not_false,s_mov,s_pick,s_new,s_box,s_build,s_bslice,s_load1,s_loadn,s_nilck,s_bin,s_eqv,s_not,s_neg,s_i2i,s_s2s,s_s2b,s_iface,s_mkfn,s_faddr,s_fld1,s_iaddr,s_idxs,s_assert,s_extract,s_len,s_lens,s_lenc,s_callf,resO0,resO1,resO2,resO3,List.getElem?_cons_zero,List.getElem?_cons_succ,Nat.reduceEqDiff,true_and,and_true,false_and,e_sn,e_ss,e_pn,e_ps,e_bb,fill0,fill1,b_add,b_sub,b_mul,b_eql,b_neq,b_lss,b_leq,b_gtr,b_geq,b_and,b_or,b_xor,b_seql,b_sneq,b_slss,AQ.andThen,AQ.inBlock,Option.some.injEq,exists_eq_left',exists_eq_left,reduceCtorEq,Exit.exit.injEq]
   have:(i+1).toNat=0:=by omega
   rw[this]at h3
   simp only[be,List.append_nil]at h3
   subst h3
   rw[be_length]at h4
   exact⟨h4,h5,h6⟩
theorem t91{H:AHeap}{x:Value}{l:List UInt8}(hx:BS H x l)(hl:l.length≤1000000000):∃v H',ARun Go.Proofs.Tryz.prog 0 91 [x] H v H'∧
 AP H' 5 1 v l.length (cellsOf l)∧Keeps H H'∧Fresh H.n v:=by
 refine walk f91_ok f91_n ?_
 obtain⟨a,k,rfl⟩:=hx.sh
 cases a with
 |none=>
  have hl0:l=[]:=by
   have:=hx.el
   simp only[elemsA,Option.some.injEq]at this
   have:=congrArg List.length this
   rw[cellsOf_length]at this
   exact List.length_eq_zero_iff.1 this.symm
  subst hl0
  simp only[f91,initFr,↓reduceIte,RD_nil,RD_cons,RD_consg,W_dreg,obl_nil,Nat.reduceAdd,Nat.add_zero,Nat.zero_add,Nat.mul_one,Int.toNat_natCast,W_skip,W_reg,W_seq,W_cond,W_block,W_exit,W_ret,getD_nil',RW_nil,RW_cons,RW_consg,AOp.map,AX_fr,AX_tm,AX_c,AX_fn,AX_g,D_no,D_no',D_tm,D_tm',D_fr,D_fr',List.getD_cons_zero,List.getD_cons_succ,List.set_cons_zero,List.set_cons_succ,List.map_cons,List.map_nil,Option.map_some,Option.map_none,wantA,beq_self_eq_true,if_true,Bool.false_eq_true,if_false,Bool.not_true,Bool.not_false,s_mov,s_pick,s_new,s_box,s_build,s_bslice,s_load1,s_loadn,s_nilck,s_bin,s_eqv,s_not,s_neg,s_i2i,s_s2s,s_s2b,s_iface,s_mkfn,s_faddr,s_fld1,s_iaddr,s_idxs,s_assert,s_extract,s_len,s_lens,s_lenc,s_callf,resO0,resO1,resO2,resO3,List.getElem?_cons_zero,List.getElem?_cons_succ,Nat.reduceEqDiff,true_and,and_true,false_and,e_sn,e_ss,e_pn,e_ps,e_bb,fill0,fill1,b_add,b_sub,b_mul,b_eql,b_neq,b_lss,b_leq,b_gtr,b_geq,b_and,b_or,b_xor,b_seql,b_sneq,b_slss,AQ.andThen,AQ.inBlock,Option.some.injEq,exists_eq_left',exists_eq_left,reduceCtorEq,Exit.exit.injEq]
  exact⟨.inl ⟨rfl,rfl,rfl⟩,Keeps.refl H,fun b hb=>by cases hb⟩
 |some a=>
  simp only[f91,initFr,↓reduceIte,RD_nil,RD_cons,RD_consg,W_dreg,obl_nil,Nat.reduceAdd,Nat.add_zero,Nat.zero_add,Nat.mul_one,Int.toNat_natCast,W_skip,W_reg,W_seq,W_cond,W_block,W_exit,W_ret,getD_nil',RW_nil,RW_cons,RW_consg,AOp.map,AX_fr,AX_tm,AX_c,AX_fn,AX_g,D_no,D_no',D_tm,D_tm',D_fr,D_fr',List.getD_cons_zero,List.getD_cons_succ,List.set_cons_zero,List.set_cons_succ,List.map_cons,List.map_nil,Option.map_some,Option.map_none,wantA,beq_self_eq_true,if_true,Bool.false_eq_true,if_false,Bool.not_true,Bool.not_false,s_mov,s_pick,s_new,s_box,s_build,s_bslice,s_load1,s_loadn,s_nilck,s_bin,s_eqv,s_not,s_neg,s_i2i,s_s2s,s_s2b,s_iface,s_mkfn,s_faddr,s_fld1,s_iaddr,s_idxs,s_assert,s_extract,s_len,s_lens,s_lenc,s_callf,resO0,resO1,resO2,resO3,List.getElem?_cons_zero,List.getElem?_cons_succ,Nat.reduceEqDiff,true_and,and_true,false_and,e_sn,e_ss,e_pn,e_ps,e_bb,fill0,fill1,b_add,b_sub,b_mul,b_eql,b_neq,b_lss,b_leq,b_gtr,b_geq,b_and,b_or,b_xor,b_seql,b_sneq,b_slss,AQ.andThen,AQ.inBlock,Option.some.injEq,exists_eq_left',exists_eq_left,reduceCtorEq,Exit.exit.injEq]
  refine⟨⟨rfl,rfl⟩,s_appAP (.inr ⟨_,_,rfl,rfl,AHeap.get_alloc_new H _⟩) ⟨_,_,rfl⟩ (hx.keeps ((Keeps.refl H).alloc _)).el (by rw[cellsOf_length];omega) (by omega) ?_⟩
  intro v' H' k1 k2 k3
  rw[Nat.zero_add,List.nil_append]at k1
  have hf:Fresh H.n (slc H.n 0 0 0):=fun b hb=>by cases hb;exact Nat.le_refl _
  exact⟨k1,((Keeps.refl H).alloc _).chg_trans k2 hf.L,Fresh.app hf (by rw[alloc_n];omega) k3⟩
def wd(t:Nat):Nat:=if t=5 then 1 else if t=181 then 2 else if t=87 then 4 else 8
def kd(t:Nat):IntKind:=if t=5 then .u8 else if t=181 then .u16 else if t=87 then .u32 else .u64
theorem t172(t n:Nat)(ht:t=5∨t=181∨t=87∨t=85)(hn:n<256 ^ wd t)(H:AHeap):ARun Go.Proofs.Tryz.prog 0 172 [.iface t (.int (kd t) n)] H (.tuple #[.int .u64 n,.int .i64 (wd t)]) H:=by
 suffices h:∃v H',ARun Go.Proofs.Tryz.prog 0 172 [.iface t (.int (kd t) n)] H v H'∧v=.tuple #[.int .u64 n,.int .i64 (wd t)]∧H'=H by
  obtain⟨v,H',h1,h2,h3⟩:=h
  rw[h2,h3]at h1;exact h1
 refine walk f172_ok f172_n ?_
 rcases ht with rfl|rfl|rfl|rfl<;>simp only[f172,initFr,kd,wd,↓reduceIte,RD_nil,RD_cons,RD_consg,W_dreg,obl_nil,Nat.reduceAdd,Nat.add_zero,Nat.zero_add,Nat.mul_one,Int.toNat_natCast,W_skip,W_reg,W_seq,W_cond,W_block,W_exit,W_ret,getD_nil',RW_nil,RW_cons,RW_consg,AOp.map,AX_fr,AX_tm,AX_c,AX_fn,AX_g,D_no,D_no',D_tm,D_tm',D_fr,D_fr',List.getD_cons_zero,List.getD_cons_succ,List.set_cons_zero,List.set_cons_succ,List.map_cons,List.map_nil,Option.map_some,Option.map_none,wantA,beq_self_eq_true,if_true,Bool.false_eq_true,if_false,Bool.not_true,Bool.not_false,s_mov,s_pick,s_new,s_box,s_build,s_bslice,s_load1,s_loadn,s_nilck,s_bin,s_eqv,s_not,s_neg,s_i2i,s_s2s,s_s2b,s_iface,s_mkfn,s_faddr,s_fld1,s_iaddr,s_idxs,s_assert,s_extract,s_len,s_lens,s_lenc,s_callf,resO0,resO1,resO2,resO3,List.getElem?_cons_zero,List.getElem?_cons_succ,Nat.reduceEqDiff,true_and,and_true,false_and,e_sn,e_ss,e_pn,e_ps,e_bb,fill0,fill1,b_add,b_sub,b_mul,b_eql,b_neq,b_lss,b_leq,b_gtr,b_geq,b_and,b_or,b_xor,b_seql,b_sneq,b_slss,AQ.andThen,AQ.inBlock,Option.some.injEq,exists_eq_left',exists_eq_left,reduceCtorEq,Exit.exit.injEq,Nat.reduceEqDiff]at hn ⊢ <;>(try rw[wrap_u64])<;>(try rw[Int.emod_eq_of_lt (by omega) (by omega)])<;>trivial
def WS(H:AHeap)(b bv:Nat)(l:List UInt8):Prop:=
 ∃v,H.get b=some (.cells true false 1 [v] 210)∧AP H 5 1 v l.length (cellsOf l)∧(blk v=none∧bv=b∨blk v=some bv∧bv≠b)
theorem WS.lt{H:AHeap}{b bv:Nat}{l:List UInt8}(h:WS H b bv l):b<H.n∧bv<H.n:=by
 obtain⟨v,h1,h2,h3⟩:=h
 have:=AHeap.get_lt h1
 refine⟨this,?_⟩
 rcases h3 with⟨_,rfl⟩|⟨h3,_⟩
 ·exact this
 ·exact h2.lt h3
theorem WS.chg{H H':AHeap}{b bv:Nat}{l:List UInt8}{S:List Nat}(h:WS H b bv l)(k:Chg S H H')(h1:b∉S)(h2:bv∉S):WS H' b bv l:=by
 obtain⟨v,a1,a2,a3⟩:=h
 refine⟨v,k.at_ a1 h1,a2.chg k ?_,a3⟩
 intro x hx
 rw[mem_blkL]at hx
 rcases a3 with⟨e,_⟩|⟨e,_⟩
 ·rw[e]at hx;cases hx
 ·rw[e]at hx;cases hx;exact h2
theorem WS.app{H:AHeap}{b bv:Nat}{l m:List UInt8}{x:Value}(h:WS H b bv l)(hx:BS H x m)(hl:l.length+m.length≤1000000000):
 ∃v v' H1,H.get b=some (.cells true false 1 [v] 210)∧(∀K:Value→AHeap→Prop,K v' H1→stepA Go.Proofs.Tryz.prog 0 (.app 5 1 1 v x) H K)∧H1.get b=some (.cells true false 1 [v] 210)∧v'.oneCell'=true∧
  ∃bv',WS (H1.set b (.cells true false 1 [v'] 210)) b bv' (l++m)∧(bv'=bv∨H.n≤bv')∧Chg [b,bv] H (H1.set b (.cells true false 1 [v'] 210)):=by
 obtain⟨v,h1,h2,h3⟩:=h
 obtain⟨a,k,rfl⟩:=hx.sh
 obtain⟨v',H',k1,k2,k3,k4⟩:=h2.app (bytes:=1) (news:=cellsOf m) (m:=m.length) (by rw[cellsOf_length];omega) (by omega)
 have hb:b∉blkL v:=by
  rw[mem_blkL]
  rcases h3 with⟨e,_⟩|⟨e,hne⟩
  ·rw[e];simp
  ·rw[e];simpa using hne
 have hbn:=AHeap.get_lt h1
 have hb1:=k3.at_ h1 hb
 have hS:∀x∈blkL v,x∈[b,bv]∨H.n≤x:=by
  intro x hx
  rw[mem_blkL]at hx
  rcases h3 with⟨e,_⟩|⟨e,hne⟩
  ·rw[e]at hx;cases hx
  ·rw[e]at hx;cases hx;simp
 have hv'b:blk v'≠some b:=by
  rcases k4 with k4|k4
  ·exact fun e=>hb (mem_blkL.2 (k4 ▸ e))
  ·rw[k4];simp;omega
 refine⟨v,v',H',h1,fun K hK=>by rw[s_app rfl hx.el k1];exact hK,hb1,?_,?_⟩
 ·obtain⟨a',ha⟩:=k2.shape
  rw[ha];rfl
 have hset:=Chg.set H' (AHeap.get_lt hb1) (.cells true false 1 [v'] 210)
 have hW:AP (H'.set b (.cells true false 1 [v'] 210)) 5 1 v' (l++m).length (cellsOf (l++m)):=by
  rw[List.length_append,cellsOf_append]
  refine k2.chg hset ?_
  intro x hx
  rw[mem_blkL]at hx
  intro e
  simp only[List.mem_singleton]at e
  subst e
  exact hv'b hx
 have hC:Chg [b,bv] H (H'.set b (.cells true false 1 [v'] 210)):=by
  refine Chg.trans (S:=[b,bv]) (Chg.mono k3 (fun x hx=>?_)) hset (by simp)
  rcases hS x hx with h|h
  ·exact h
  ·rw[mem_blkL]at hx
   have:=h2.lt hx
   omega
 cases hbv:blk v' with
 |none=>
  have hbl:blk v=none:=by
   rcases k4 with k4|k4
   ·rw[←k4];exact hbv
   ·rw[hbv]at k4;cases k4
  refine⟨bv,⟨v',AHeap.get_set_same hb1 _,hW,.inl ⟨hbv,?_⟩⟩,.inl rfl,hC⟩
  rcases h3 with⟨_,e⟩|⟨e,_⟩
  ·exact e
  ·rw[hbl]at e;cases e
 |some x=>
  refine⟨x,⟨v',AHeap.get_set_same hb1 _,hW,.inr ⟨hbv,fun e=>hv'b (by rw[hbv,e])⟩⟩,?_,hC⟩
  rcases k4 with k4|k4
  ·rw[hbv]at k4
   rcases h3 with⟨e,_⟩|⟨e,_⟩
   ·rw[e]at k4;cases k4
   ·rw[e]at k4;cases k4;exact .inl rfl
  ·rw[hbv]at k4;cases k4;exact .inr (Nat.le_refl _)
theorem t165{H:AHeap}{b bv:Nat}{l:List UInt8}(h:WS H b bv l)(t n:Nat)(ht:t=5∨t=181∨t=87∨t=85)(hn:n<256 ^ wd t)(hl:l.length≤100000000):
 ∃v H',ARun Go.Proofs.Tryz.prog 0 165 [ptr b 0,.iface t (.int (kd t) n)] H v H'∧∃bv',WS H' b bv' (l++be (wd t) n)∧(bv'=bv∨H.n≤bv')∧Chg [b,bv] H H':=by
 refine walk f165_ok f165_n ?_
 have r35:=t172 t n ht hn H
 have hw:1≤wd t∧wd t≤8:=by rcases ht with rfl|rfl|rfl|rfl<;>simp[wd]
 simp only[f165,initFr,↓reduceIte,RD_nil,RD_cons,RD_consg,W_dreg,obl_nil,Nat.reduceAdd,Nat.add_zero,Nat.zero_add,Nat.mul_one,Int.toNat_natCast,W_skip,W_reg,W_seq,W_cond,W_block,W_exit,W_ret,getD_nil',RW_nil,RW_cons,RW_consg,AOp.map,AX_fr,AX_tm,AX_c,AX_fn,AX_g,D_no,D_no',D_tm,D_tm',D_fr,D_fr',List.getD_cons_zero,List.getD_cons_succ,List.set_cons_zero,List.set_cons_succ,List.map_cons,List.map_nil,Option.map_some,Option.map_none,wantA,beq_self_eq_true,if_true,Bool.false_eq_true,if_false,Bool.not_true,Bool.not_false,s_mov,s_pick,s_new,s_box,s_build,s_bslice,s_load1,s_loadn,s_nilck,s_bin,s_eqv,s_not,s_neg,s_i2i,s_s2s,s_s2b,s_iface,s_mkfn,s_faddr,s_fld1,s_iaddr,s_idxs,s_assert,s_extract,s_len,s_lens,s_lenc,s_callf,resO0,resO1,resO2,resO3,List.getElem?_cons_zero,List.getElem?_cons_succ,Nat.reduceEqDiff,true_and,and_true,false_and,e_sn,e_ss,e_pn,e_ps,e_bb,fill0,fill1,b_add,b_sub,b_mul,b_eql,b_neq,b_lss,b_leq,b_gtr,b_geq,b_and,b_or,b_xor,b_seql,b_sneq,b_slss,AQ.andThen,AQ.inBlock,Option.some.injEq,exists_eq_left',exists_eq_left,reduceCtorEq,Exit.exit.injEq]
 refine⟨_,_,r35,?_⟩
 simp only[↓reduceIte,RD_nil,RD_cons,RD_consg,W_dreg,obl_nil,Nat.reduceAdd,Nat.add_zero,Nat.zero_add,Nat.mul_one,Int.toNat_natCast,W_skip,W_reg,W_seq,W_cond,W_block,W_exit,W_ret,getD_nil',RW_nil,RW_cons,RW_consg,AOp.map,AX_fr,AX_tm,AX_c,AX_fn,AX_g,D_no,D_no',D_tm,D_tm',D_fr,D_fr',List.getD_cons_zero,List.getD_cons_succ,List.set_cons_zero,List.set_cons_succ,List.map_cons,List.map_nil,Option.map_some,Option.map_none,wantA,beq_self_eq_true,if_true,Bool.false_eq_true,if_false,Bool.not_true,Bool.not_false,s_mov,s_pick,s_new,s_box,s_build,s_bslice,s_load1,s_loadn,s_nilck,s_bin,s_eqv,s_not,s_neg,s_i2i,s_s2s,s_s2b,s_iface,s_mkfn,s_faddr,s_fld1,s_iaddr,s_idxs,s_assert,s_extract,s_len,s_lens,s_lenc,s_callf,resO0,resO1,resO2,resO3,List.getElem?_cons_zero,List.getElem?_cons_succ,Nat.reduceEqDiff,true_and,and_true,false_and,e_sn,e_ss,e_pn,e_ps,e_bb,fill0,fill1,b_add,b_sub,b_mul,b_eql,b_neq,b_lss,b_leq,b_gtr,b_geq,b_and,b_or,b_xor,b_seql,b_sneq,b_slss,AQ.andThen,AQ.inBlock,Option.some.injEq,exists_eq_left',exists_eq_left,reduceCtorEq,Exit.exit.injEq]
 rw[wrap_i64 (n:=(wd t:Int)-1) (by omega) (by omega),wrap_i64 (by omega) (by omega)]
 refine W_loop (fun k fr H1=>∃(j:Int) (x:Value) (m:List UInt8) (bv1:Nat),fr=[ptr b 0,.iface t (.int (kd t) n),.int .u64 n,.int .i64 (wd t),.int .i64 (8*j),.bool false,x]∧ -1≤j∧j<wd t∧k=(j+1).toNat∧
  m++be (j+1).toNat n=be (wd t) n∧WS H1 b bv1 (l++m)∧(bv1=bv∨H.n≤bv1)∧Chg [b,bv] H H1) (wd t) ?_ ?_
 ·refine⟨(wd t:Int)-1,undef,[],bv,rfl,by omega,by omega,by omega,?_,by rw[List.append_nil];exact h,.inl rfl,Chg.refl _ _⟩
  rw[show((wd t:Int)-1+1).toNat=wd t by omega,List.nil_append]
 ·rintro k fr H1 ⟨j,x,m,bv1,rfl,h1,h2,rfl,h3,h4,h5,h6⟩
  simp only[↓reduceIte,RD_nil,RD_cons,RD_consg,W_dreg,obl_nil,Nat.reduceAdd,Nat.add_zero,Nat.zero_add,Nat.mul_one,Int.toNat_natCast,W_skip,W_reg,W_seq,W_cond,W_block,W_exit,W_ret,getD_nil',RW_nil,RW_cons,RW_consg,AOp.map,AX_fr,AX_tm,AX_c,AX_fn,AX_g,D_no,D_no',D_tm,D_tm',D_fr,D_fr',List.getD_cons_zero,List.getD_cons_succ,List.set_cons_zero,List.set_cons_succ,List.map_cons,List.map_nil,Option.map_some,Option.map_none,wantA,beq_self_eq_true,if_true,Bool.false_eq_true,if_false,Bool.not_true,Bool.not_false,s_mov,s_pick,s_new,s_box,s_build,s_bslice,s_load1,s_loadn,s_nilck,s_bin,s_eqv,s_not,s_neg,s_i2i,s_s2s,s_s2b,s_iface,s_mkfn,s_faddr,s_fld1,s_iaddr,s_idxs,s_assert,s_extract,s_len,s_lens,s_lenc,s_callf,resO0,resO1,resO2,resO3,List.getElem?_cons_zero,List.getElem?_cons_succ,Nat.reduceEqDiff,true_and,and_true,false_and,e_sn,e_ss,e_pn,e_ps,e_bb,fill0,fill1,b_add,b_sub,b_mul,b_eql,b_neq,b_lss,b_leq,b_gtr,b_geq,b_and,b_or,b_xor,b_seql,b_sneq,b_slss,AQ.andThen,AQ.inBlock,Option.some.injEq,exists_eq_left',exists_eq_left,reduceCtorEq,Exit.exit.injEq]
  by_cases hj:0≤j
  ·obtain⟨i,rfl⟩:∃i:Nat,j=i:=⟨j.toNat,by omega⟩
   simp only[show(0:Int)≤8*(i:Int) by omega,decide_true,↓reduceIte,RD_nil,RD_cons,RD_consg,W_dreg,obl_nil,Nat.reduceAdd,Nat.add_zero,Nat.zero_add,Nat.mul_one,Int.toNat_natCast,W_skip,W_reg,W_seq,W_cond,W_block,W_exit,W_ret,getD_nil',RW_nil,RW_cons,RW_consg,AOp.map,AX_fr,AX_tm,AX_c,AX_fn,AX_g,D_no,D_no',D_tm,D_tm',D_fr,D_fr',List.getD_cons_zero,List.getD_cons_succ,List.set_cons_zero,List.set_cons_succ,List.map_cons,List.map_nil,Option.map_some,Option.map_none,wantA,beq_self_eq_true,if_true,Bool.false_eq_true,if_false,Bool.not_true,Bool.not_false,s_mov,s_pick,s_new,s_box,s_build,s_bslice,s_load1,s_loadn,s_nilck,s_bin,s_eqv,s_not,s_neg,s_i2i,s_s2s,s_s2b,s_iface,s_mkfn,s_faddr,s_fld1,s_iaddr,s_idxs,s_assert,s_extract,s_len,s_lens,s_lenc,s_callf,resO0,resO1,resO2,resO3,List.getElem?_cons_zero,List.getElem?_cons_succ,Nat.reduceEqDiff,true_and,and_true,false_and,e_sn,e_ss,e_pn,e_ps,e_bb,fill0,fill1,b_add,b_sub,b_mul,b_eql,b_neq,b_lss,b_leq,b_gtr,b_geq,b_and,b_or,b_xor,b_seql,b_sneq,b_slss,AQ.andThen,AQ.inBlock,Option.some.injEq,exists_eq_left',exists_eq_left,reduceCtorEq,Exit.exit.injEq]
   have hji:((i:Int)+1).toNat=i+1:=by omega
   rw[hji]at h3
   have hlen:m.length+(i+1)=wd t:=by
    have:=congrArg List.length h3
    simpa[be_length]using this
   have h4':=h4.chg (S:=[]) (((Keeps.refl H1).alloc (.cells true false 1 [.int .u8 (UInt8.ofNat (n / 256 ^ i)).toNat] 5)).chg []) (by simp) (by simp)
   obtain⟨v,v',H2,e1,e2,e3,e4,bv',e5,e6,e7⟩:=h4'.app (m:=[UInt8.ofNat (n / 256 ^ i)]) (x:=slc H1.n 0 1 1) ⟨⟨_,_,rfl⟩,elems_own (AHeap.get_alloc_new H1 _) rfl⟩ (by simp;omega)
   have e0:H1.get b=some (.cells true false 1 [v] 210):=by
    rw[AHeap.get_alloc_old H1 _ h4.lt.1]at e1;exact e1
   simp only[cellA_of e0,b_shr _ _ _ _ (show(0:Int)≤8*(i:Int) by omega),↓reduceIte,RD_nil,RD_cons,RD_consg,W_dreg,obl_nil,Nat.reduceAdd,Nat.add_zero,Nat.zero_add,Nat.mul_one,Int.toNat_natCast,W_skip,W_reg,W_seq,W_cond,W_block,W_exit,W_ret,getD_nil',RW_nil,RW_cons,RW_consg,AOp.map,AX_fr,AX_tm,AX_c,AX_fn,AX_g,D_no,D_no',D_tm,D_tm',D_fr,D_fr',List.getD_cons_zero,List.getD_cons_succ,List.set_cons_zero,List.set_cons_succ,List.map_cons,List.map_nil,Option.map_some,Option.map_none,wantA,beq_self_eq_true,if_true,Bool.false_eq_true,if_false,Bool.not_true,Bool.not_false,s_mov,s_pick,s_new,s_box,s_build,s_bslice,s_load1,s_loadn,s_nilck,s_bin,s_eqv,s_not,s_neg,s_i2i,s_s2s,s_s2b,s_iface,s_mkfn,s_faddr,s_fld1,s_iaddr,s_idxs,s_assert,s_extract,s_len,s_lens,s_lenc,s_callf,resO0,resO1,resO2,resO3,List.getElem?_cons_zero,List.getElem?_cons_succ,Nat.reduceEqDiff,true_and,and_true,false_and,e_sn,e_ss,e_pn,e_ps,e_bb,fill0,fill1,b_add,b_sub,b_mul,b_eql,b_neq,b_lss,b_leq,b_gtr,b_geq,b_and,b_or,b_xor,b_seql,b_sneq,b_slss,AQ.andThen,AQ.inBlock,Option.some.injEq,exists_eq_left',exists_eq_left,reduceCtorEq,Exit.exit.injEq]
   have hmin:min (8*(i:Int)).toNat IntKind.u64.bits=8*i:=by simp only[IntKind.bits];omega
   rw[hmin,wrap_u8,byte_cell]
   refine⟨⟨rfl,rfl⟩,e2 _ ?_⟩
   simp only[↓reduceIte,RD_nil,RD_cons,RD_consg,W_dreg,obl_nil,Nat.reduceAdd,Nat.add_zero,Nat.zero_add,Nat.mul_one,Int.toNat_natCast,W_skip,W_reg,W_seq,W_cond,W_block,W_exit,W_ret,getD_nil',RW_nil,RW_cons,RW_consg,AOp.map,AX_fr,AX_tm,AX_c,AX_fn,AX_g,D_no,D_no',D_tm,D_tm',D_fr,D_fr',List.getD_cons_zero,List.getD_cons_succ,List.set_cons_zero,List.set_cons_succ,List.map_cons,List.map_nil,Option.map_some,Option.map_none,wantA,beq_self_eq_true,if_true,Bool.false_eq_true,if_false,Bool.not_true,Bool.not_false,s_mov,s_pick,s_new,s_box,s_build,s_bslice,s_load1,s_loadn,s_nilck,s_bin,s_eqv,s_not,s_neg,s_i2i,s_s2s,s_s2b,s_iface,s_mkfn,s_faddr,s_fld1,s_iaddr,s_idxs,s_assert,s_extract,s_len,s_lens,s_lenc,s_callf,resO0,resO1,resO2,resO3,List.getElem?_cons_zero,List.getElem?_cons_succ,Nat.reduceEqDiff,true_and,and_true,false_and,e_sn,e_ss,e_pn,e_ps,e_bb,fill0,fill1,b_add,b_sub,b_mul,b_eql,b_neq,b_lss,b_leq,b_gtr,b_geq,b_and,b_or,b_xor,b_seql,b_sneq,b_slss,AQ.andThen,AQ.inBlock,Option.some.injEq,exists_eq_left',exists_eq_left,reduceCtorEq,Exit.exit.injEq,s_store1 e3]
   refine⟨⟨by simp,e4⟩,i,by omega,(i:Int)-1,.bool true,m++[UInt8.ofNat (n / 256 ^ i)],bv',?_,by omega,by omega,by omega,?_,?_,?_,?_⟩
   ·rw[wrap_i64 (by omega) (by omega),show 8*(i:Int)-8=8*((i:Int)-1) by omega]
   ·rw[show((i:Int)-1+1).toNat=i by omega,←h3]
    simp[be]
   ·rw[←List.append_assoc];exact e5
   ·have:=h6.n
    rw[alloc_n]at e6
    omega
   ·have:=h6.n
    refine(h6.alloc _).trans e7 ?_
    intro x hx
    simp only[List.mem_cons,List.not_mem_nil,or_false]at hx ⊢
    omega
  ·simp only[show¬(0:Int)≤8*j by omega,decide_false,↓reduceIte,RD_nil,RD_cons,RD_consg,W_dreg,obl_nil,Nat.reduceAdd,Nat.add_zero,Nat.zero_add,Nat.mul_one,Int.toNat_natCast,W_skip,W_reg,W_seq,W_cond,W_block,W_exit,W_ret,getD_nil',RW_nil,RW_cons,RW_consg,AOp.map,AX_fr,AX_tm,AX_c,AX_fn,AX_g,D_no,D_no',D_tm,D_tm',D_fr,D_fr',List.getD_cons_zero,List.getD_cons_succ,List.set_cons_zero,List.set_cons_succ,List.map_cons,List.map_nil,Option.map_some,Option.map_none,wantA,beq_self_eq_true,if_true,Bool.false_eq_true,if_false,Bool.not_true,Bool.not_false,s_mov,s_pick,s_new,s_box,s_build,s_bslice,s_load1,s_loadn,s_nilck,s_bin,s_eqv,s_not,s_neg,s_i2i,s_s2s,s_s2b,s_iface,s_mkfn,s_faddr,s_fld1,s_iaddr,s_idxs,s_assert,s_extract,s_len,s_lens,s_lenc,s_callf,resO0,resO1,resO2,resO3,List.getElem?_cons_zero,List.getElem?_cons_succ,Nat.reduceEqDiff,true_and,and_true,false_and,e_sn,e_ss,e_pn,e_ps,e_bb,fill0,fill1,b_add,b_sub,b_mul,b_eql,b_neq,b_lss,b_leq,b_gtr,b_geq,b_and,b_or,b_xor,b_seql,b_sneq,b_slss,AQ.andThen,AQ.inBlock,Option.some.injEq,exists_eq_left',exists_eq_left,reduceCtorEq,Exit.exit.injEq]
   have:(j+1).toNat=0:=by omega
   rw[this]at h3
   simp only[be,List.append_nil]at h3
   subst h3
   exact⟨bv1,h4,h5,h6⟩
def Put(H H':AHeap)(b bv:Nat)(l:List UInt8):Prop:=∃bv',WS H' b bv' l∧(bv'=bv∨H.n≤bv')∧Chg [b,bv] H H'
theorem t149{H:AHeap}{b bv:Nat}{l:List UInt8}(h:WS H b bv l)(n:Nat)(hn:n<256)(hl:l.length≤100000000):∃v H',ARun Go.Proofs.Tryz.prog 0 149 [ptr b 0,.int .u8 n] H v H'∧Put H H' b bv (l++be 1 n):=by
 refine walk f149_ok f149_n ?_
 obtain⟨v,H',r,p⟩:=t165 h 5 n (by omega) (by simpa[wd]using hn) hl
 simp only[f149,initFr,↓reduceIte,RD_nil,RD_cons,RD_consg,W_dreg,obl_nil,Nat.reduceAdd,Nat.add_zero,Nat.zero_add,Nat.mul_one,Int.toNat_natCast,W_skip,W_reg,W_seq,W_cond,W_block,W_exit,W_ret,getD_nil',RW_nil,RW_cons,RW_consg,AOp.map,AX_fr,AX_tm,AX_c,AX_fn,AX_g,D_no,D_no',D_tm,D_tm',D_fr,D_fr',List.getD_cons_zero,List.getD_cons_succ,List.set_cons_zero,List.set_cons_succ,List.map_cons,List.map_nil,Option.map_some,Option.map_none,wantA,beq_self_eq_true,if_true,Bool.false_eq_true,if_false,Bool.not_true,Bool.not_false,s_mov,s_pick,s_new,s_box,s_build,s_bslice,s_load1,s_loadn,s_nilck,s_bin,s_eqv,s_not,s_neg,s_i2i,s_s2s,s_s2b,s_iface,s_mkfn,s_faddr,s_fld1,s_iaddr,s_idxs,s_assert,s_extract,s_len,s_lens,s_lenc,s_callf,resO0,resO1,resO2,resO3,List.getElem?_cons_zero,List.getElem?_cons_succ,Nat.reduceEqDiff,true_and,and_true,false_and,e_sn,e_ss,e_pn,e_ps,e_bb,fill0,fill1,b_add,b_sub,b_mul,b_eql,b_neq,b_lss,b_leq,b_gtr,b_geq,b_and,b_or,b_xor,b_seql,b_sneq,b_slss,AQ.andThen,AQ.inBlock,Option.some.injEq,exists_eq_left',exists_eq_left,reduceCtorEq,Exit.exit.injEq]
 exact⟨v,H',r,p⟩
theorem t151{H:AHeap}{b bv:Nat}{l:List UInt8}(h:WS H b bv l)(n:Nat)(hn:n<65536)(hl:l.length≤100000000):∃v H',ARun Go.Proofs.Tryz.prog 0 151 [ptr b 0,.int .u16 n] H v H'∧Put H H' b bv (l++be 2 n):=by
 refine walk f151_ok f151_n ?_
 obtain⟨v,H',r,p⟩:=t165 h 181 n (by omega) (by simpa[wd]using hn) hl
 simp only[f151,initFr,↓reduceIte,RD_nil,RD_cons,RD_consg,W_dreg,obl_nil,Nat.reduceAdd,Nat.add_zero,Nat.zero_add,Nat.mul_one,Int.toNat_natCast,W_skip,W_reg,W_seq,W_cond,W_block,W_exit,W_ret,getD_nil',RW_nil,RW_cons,RW_consg,AOp.map,AX_fr,AX_tm,AX_c,AX_fn,AX_g,D_no,D_no',D_tm,D_tm',D_fr,D_fr',List.getD_cons_zero,List.getD_cons_succ,List.set_cons_zero,List.set_cons_succ,List.map_cons,List.map_nil,Option.map_some,Option.map_none,wantA,beq_self_eq_true,if_true,Bool.false_eq_true,if_false,Bool.not_true,Bool.not_false,s_mov,s_pick,s_new,s_box,s_build,s_bslice,s_load1,s_loadn,s_nilck,s_bin,s_eqv,s_not,s_neg,s_i2i,s_s2s,s_s2b,s_iface,s_mkfn,s_faddr,s_fld1,s_iaddr,s_idxs,s_assert,s_extract,s_len,s_lens,s_lenc,s_callf,resO0,resO1,resO2,resO3,List.getElem?_cons_zero,List.getElem?_cons_succ,Nat.reduceEqDiff,true_and,and_true,false_and,e_sn,e_ss,e_pn,e_ps,e_bb,fill0,fill1,b_add,b_sub,b_mul,b_eql,b_neq,b_lss,b_leq,b_gtr,b_geq,b_and,b_or,b_xor,b_seql,b_sneq,b_slss,AQ.andThen,AQ.inBlock,Option.some.injEq,exists_eq_left',exists_eq_left,reduceCtorEq,Exit.exit.injEq]
 exact⟨v,H',r,p⟩
theorem t153{H:AHeap}{b bv:Nat}{l:List UInt8}(h:WS H b bv l)(n:Nat)(hn:n<4294967296)(hl:l.length≤100000000):∃v H',ARun Go.Proofs.Tryz.prog 0 153 [ptr b 0,.int .u32 n] H v H'∧Put H H' b bv (l++be 4 n):=by
 refine walk f153_ok f153_n ?_
 obtain⟨v,H',r,p⟩:=t165 h 87 n (by omega) (by simpa[wd]using hn) hl
 simp only[f153,initFr,↓reduceIte,RD_nil,RD_cons,RD_consg,W_dreg,obl_nil,Nat.reduceAdd,Nat.add_zero,Nat.zero_add,Nat.mul_one,Int.toNat_natCast,W_skip,W_reg,W_seq,W_cond,W_block,W_exit,W_ret,getD_nil',RW_nil,RW_cons,RW_consg,AOp.map,AX_fr,AX_tm,AX_c,AX_fn,AX_g,D_no,D_no',D_tm,D_tm',D_fr,D_fr',List.getD_cons_zero,List.getD_cons_succ,List.set_cons_zero,List.set_cons_succ,List.map_cons,List.map_nil,Option.map_some,Option.map_none,wantA,beq_self_eq_true,if_true,Bool.false_eq_true,if_false,Bool.not_true,Bool.not_false,s_mov,s_pick,s_new,s_box,s_build,s_bslice,s_load1,s_loadn,s_nilck,s_bin,s_eqv,s_not,s_neg,s_i2i,s_s2s,s_s2b,s_iface,s_mkfn,s_faddr,s_fld1,s_iaddr,s_idxs,s_assert,s_extract,s_len,s_lens,s_lenc,s_callf,resO0,resO1,resO2,resO3,List.getElem?_cons_zero,List.getElem?_cons_succ,Nat.reduceEqDiff,true_and,and_true,false_and,e_sn,e_ss,e_pn,e_ps,e_bb,fill0,fill1,b_add,b_sub,b_mul,b_eql,b_neq,b_lss,b_leq,b_gtr,b_geq,b_and,b_or,b_xor,b_seql,b_sneq,b_slss,AQ.andThen,AQ.inBlock,Option.some.injEq,exists_eq_left',exists_eq_left,reduceCtorEq,Exit.exit.injEq]
 exact⟨v,H',r,p⟩
theorem t150{H:AHeap}{b bv:Nat}{l:List UInt8}(h:WS H b bv l)(n:Nat)(hn:n<18446744073709551616)(hl:l.length≤100000000):∃v H',ARun Go.Proofs.Tryz.prog 0 150 [ptr b 0,.int .u64 n] H v H'∧Put H H' b bv (l++be 8 n):=by
 refine walk f150_ok f150_n ?_
 obtain⟨v,H',r,p⟩:=t165 h 85 n (by omega) (by simpa[wd]using hn) hl
 simp only[f150,initFr,↓reduceIte,RD_nil,RD_cons,RD_consg,W_dreg,obl_nil,Nat.reduceAdd,Nat.add_zero,Nat.zero_add,Nat.mul_one,Int.toNat_natCast,W_skip,W_reg,W_seq,W_cond,W_block,W_exit,W_ret,getD_nil',RW_nil,RW_cons,RW_consg,AOp.map,AX_fr,AX_tm,AX_c,AX_fn,AX_g,D_no,D_no',D_tm,D_tm',D_fr,D_fr',List.getD_cons_zero,List.getD_cons_succ,List.set_cons_zero,List.set_cons_succ,List.map_cons,List.map_nil,Option.map_some,Option.map_none,wantA,beq_self_eq_true,if_true,Bool.false_eq_true,if_false,Bool.not_true,Bool.not_false,s_mov,s_pick,s_new,s_box,s_build,s_bslice,s_load1,s_loadn,s_nilck,s_bin,s_eqv,s_not,s_neg,s_i2i,s_s2s,s_s2b,s_iface,s_mkfn,s_faddr,s_fld1,s_iaddr,s_idxs,s_assert,s_extract,s_len,s_lens,s_lenc,s_callf,resO0,resO1,resO2,resO3,List.getElem?_cons_zero,List.getElem?_cons_succ,Nat.reduceEqDiff,true_and,and_true,false_and,e_sn,e_ss,e_pn,e_ps,e_bb,fill0,fill1,b_add,b_sub,b_mul,b_eql,b_neq,b_lss,b_leq,b_gtr,b_geq,b_and,b_or,b_xor,b_seql,b_sneq,b_slss,AQ.andThen,AQ.inBlock,Option.some.injEq,exists_eq_left',exists_eq_left,reduceCtorEq,Exit.exit.injEq]
 exact⟨v,H',r,p⟩
theorem t152{H:AHeap}{b bv:Nat}{l m:List UInt8}{x:Value}(h:WS H b bv l)(hx:BS H x m)(hl:l.length+m.length≤1000000000):∃v H',ARun Go.Proofs.Tryz.prog 0 152 [ptr b 0,x] H v H'∧Put H H' b bv (l++m):=by
 refine walk f152_ok f152_n ?_
 obtain⟨v,v',H1,e1,e2,e3,e4,e5⟩:=h.app hx hl
 simp only[f152,initFr,cellA_of e1,↓reduceIte,RD_nil,RD_cons,RD_consg,W_dreg,obl_nil,Nat.reduceAdd,Nat.add_zero,Nat.zero_add,Nat.mul_one,Int.toNat_natCast,W_skip,W_reg,W_seq,W_cond,W_block,W_exit,W_ret,getD_nil',RW_nil,RW_cons,RW_consg,AOp.map,AX_fr,AX_tm,AX_c,AX_fn,AX_g,D_no,D_no',D_tm,D_tm',D_fr,D_fr',List.getD_cons_zero,List.getD_cons_succ,List.set_cons_zero,List.set_cons_succ,List.map_cons,List.map_nil,Option.map_some,Option.map_none,wantA,beq_self_eq_true,if_true,Bool.false_eq_true,if_false,Bool.not_true,Bool.not_false,s_mov,s_pick,s_new,s_box,s_build,s_bslice,s_load1,s_loadn,s_nilck,s_bin,s_eqv,s_not,s_neg,s_i2i,s_s2s,s_s2b,s_iface,s_mkfn,s_faddr,s_fld1,s_iaddr,s_idxs,s_assert,s_extract,s_len,s_lens,s_lenc,s_callf,resO0,resO1,resO2,resO3,List.getElem?_cons_zero,List.getElem?_cons_succ,Nat.reduceEqDiff,true_and,and_true,false_and,e_sn,e_ss,e_pn,e_ps,e_bb,fill0,fill1,b_add,b_sub,b_mul,b_eql,b_neq,b_lss,b_leq,b_gtr,b_geq,b_and,b_or,b_xor,b_seql,b_sneq,b_slss,AQ.andThen,AQ.inBlock,Option.some.injEq,exists_eq_left',exists_eq_left,reduceCtorEq,Exit.exit.injEq]
 refine e2 _ ?_
 simp only[s_store1 e3,↓reduceIte,RD_nil,RD_cons,RD_consg,W_dreg,obl_nil,Nat.reduceAdd,Nat.add_zero,Nat.zero_add,Nat.mul_one,Int.toNat_natCast,W_skip,W_reg,W_seq,W_cond,W_block,W_exit,W_ret,getD_nil',RW_nil,RW_cons,RW_consg,AOp.map,AX_fr,AX_tm,AX_c,AX_fn,AX_g,D_no,D_no',D_tm,D_tm',D_fr,D_fr',List.getD_cons_zero,List.getD_cons_succ,List.set_cons_zero,List.set_cons_succ,List.map_cons,List.map_nil,Option.map_some,Option.map_none,wantA,beq_self_eq_true,if_true,Bool.false_eq_true,if_false,Bool.not_true,Bool.not_false,s_mov,s_pick,s_new,s_box,s_build,s_bslice,s_load1,s_loadn,s_nilck,s_bin,s_eqv,s_not,s_neg,s_i2i,s_s2s,s_s2b,s_iface,s_mkfn,s_faddr,s_fld1,s_iaddr,s_idxs,s_assert,s_extract,s_len,s_lens,s_lenc,s_callf,resO0,resO1,resO2,resO3,List.getElem?_cons_zero,List.getElem?_cons_succ,Nat.reduceEqDiff,true_and,and_true,false_and,e_sn,e_ss,e_pn,e_ps,e_bb,fill0,fill1,b_add,b_sub,b_mul,b_eql,b_neq,b_lss,b_leq,b_gtr,b_geq,b_and,b_or,b_xor,b_seql,b_sneq,b_slss,AQ.andThen,AQ.inBlock,Option.some.injEq,exists_eq_left',exists_eq_left,reduceCtorEq,Exit.exit.injEq]
 exact⟨⟨by simp,e4⟩,e5⟩
theorem t155{H:AHeap}{b bv:Nat}{l:List UInt8}(h:WS H b bv l)(hl:l.length≤1000000000):∃v H',ARun Go.Proofs.Tryz.prog 0 155 [ptr b 0] H v H'∧AP H' 5 1 v l.length (cellsOf l)∧Keeps H H'∧Fresh H.n v:=by
 refine walk f155_ok f155_n ?_
 obtain⟨v,h1,h2,h3⟩:=h
 obtain⟨v',H',r,p⟩:=t91 h2.bs hl
 simp only[f155,initFr,cellA_of h1,↓reduceIte,RD_nil,RD_cons,RD_consg,W_dreg,obl_nil,Nat.reduceAdd,Nat.add_zero,Nat.zero_add,Nat.mul_one,Int.toNat_natCast,W_skip,W_reg,W_seq,W_cond,W_block,W_exit,W_ret,getD_nil',RW_nil,RW_cons,RW_consg,AOp.map,AX_fr,AX_tm,AX_c,AX_fn,AX_g,D_no,D_no',D_tm,D_tm',D_fr,D_fr',List.getD_cons_zero,List.getD_cons_succ,List.set_cons_zero,List.set_cons_succ,List.map_cons,List.map_nil,Option.map_some,Option.map_none,wantA,beq_self_eq_true,if_true,Bool.false_eq_true,if_false,Bool.not_true,Bool.not_false,s_mov,s_pick,s_new,s_box,s_build,s_bslice,s_load1,s_loadn,s_nilck,s_bin,s_eqv,s_not,s_neg,s_i2i,s_s2s,s_s2b,s_iface,s_mkfn,s_faddr,s_fld1,s_iaddr,s_idxs,s_assert,s_extract,s_len,s_lens,s_lenc,s_callf,resO0,resO1,resO2,resO3,List.getElem?_cons_zero,List.getElem?_cons_succ,Nat.reduceEqDiff,true_and,and_true,false_and,e_sn,e_ss,e_pn,e_ps,e_bb,fill0,fill1,b_add,b_sub,b_mul,b_eql,b_neq,b_lss,b_leq,b_gtr,b_geq,b_and,b_or,b_xor,b_seql,b_sneq,b_slss,AQ.andThen,AQ.inBlock,Option.some.injEq,exists_eq_left',exists_eq_left,reduceCtorEq,Exit.exit.injEq]
 exact⟨v',H',r,p⟩
theorem be_mod:∀w n k:Nat,w≤k→be w (n % 256 ^ k)=be w n
 |0,_,_,_=>rfl
 |w+1,n,k,h=>by
  simp only[be]
  rw[be_mod w n k (by omega)]
  congr 1
  have h1:n % 256 ^ k / 256 ^ w=n / 256 ^ w % 256 ^ (k-w):=by
   rw[show(256:Nat) ^ k=256 ^ w*256 ^ (k-w) by rw[←Nat.pow_add];congr 1;omega]
   rw[Nat.mod_mul_right_div_self]
  rw[h1]
  have h2:(256:Nat) ^ (k-w)=256*256 ^ (k-w-1):=by
   rw[←Nat.pow_succ'];congr 1;omega
  apply UInt8.toNat_inj.1
  simp only[UInt8.toNat_ofNat',h2]
  exact Nat.mod_mul_right_mod _ _ _
def num(l:List UInt8):Nat:=l.foldl (fun n b=>(n*256+b.toNat) % 18446744073709551616) 0
theorem num_append(l:List UInt8)(b:UInt8):num (l++[b])=(num l*256+b.toNat) % 18446744073709551616:=by simp[num]
theorem or_byte(n:Nat)(b:UInt8):(IntKind.u64.wrap ((BitVec.ofInt IntKind.u64.bits (IntKind.u64.wrap ((n:Int)*2 ^ (min 8 IntKind.u64.bits)))|||BitVec.ofInt IntKind.u64.bits (b.toNat:Int)).toNat:Int))=
 (((n*256+b.toNat) % 18446744073709551616:Nat):Int):=by
 have hb:=b.toNat_lt
 change IntKind.u64.wrap (((BitVec.ofInt 64 (IntKind.u64.wrap ((n:Int)*2 ^ (min 8 64)))|||BitVec.ofInt 64 (b.toNat:Int)).toNat:Nat):Int)=_
 have e1:(IntKind.u64.wrap ((n:Int)*2 ^ (min 8 64)))=((n*256 % 18446744073709551616:Nat):Int):=by
  rw[wrap_u64]
  have:(2:Int) ^ (min 8 64)=256:=by decide
  rw[this]
  omega
 rw[e1]
 simp only[BitVec.ofInt_natCast,BitVec.toNat_or,BitVec.toNat_ofNat]
 have h1:n*256 % 18446744073709551616 % 2 ^ 64=(n % 72057594037927936) <<< 8:=by
  rw[Nat.shiftLeft_eq];omega
 have h2:b.toNat % 2 ^ 64=b.toNat:=by omega
 rw[h1,h2,←Nat.shiftLeft_add_eq_or_of_lt (by omega),wrap_u64,Nat.shiftLeft_eq]
 omega
theorem t123{H:AHeap}{x:Value}{l:List UInt8}(hx:BS H x l)(hl:l.length≤1000000000):ARun Go.Proofs.Tryz.prog 0 123 [x] H (.int .u64 (num l)) H:=by
 suffices h:∃v H',ARun Go.Proofs.Tryz.prog 0 123 [x] H v H'∧v=.int .u64 (num l)∧H'=H by
  obtain⟨v,H',h1,h2,h3⟩:=h
  rw[h2,h3]at h1;exact h1
 refine walk f123_ok f123_n ?_
 simp only[f123,initFr,↓reduceIte,RD_nil,RD_cons,RD_consg,W_dreg,obl_nil,Nat.reduceAdd,Nat.add_zero,Nat.zero_add,Nat.mul_one,Int.toNat_natCast,W_skip,W_reg,W_seq,W_cond,W_block,W_exit,W_ret,getD_nil',RW_nil,RW_cons,RW_consg,AOp.map,AX_fr,AX_tm,AX_c,AX_fn,AX_g,D_no,D_no',D_tm,D_tm',D_fr,D_fr',List.getD_cons_zero,List.getD_cons_succ,List.set_cons_zero,List.set_cons_succ,List.map_cons,List.map_nil,Option.map_some,Option.map_none,wantA,beq_self_eq_true,if_true,Bool.false_eq_true,if_false,Bool.not_true,Bool.not_false,s_mov,s_pick,s_new,s_box,s_build,s_bslice,s_load1,s_loadn,s_nilck,s_bin,s_eqv,s_not,s_neg,s_i2i,s_s2s,s_s2b,s_iface,s_mkfn,s_faddr,s_fld1,s_iaddr,s_idxs,s_assert,s_extract,s_len,s_lens,s_lenc,s_callf,resO0,resO1,resO2,resO3,List.getElem?_cons_zero,List.getElem?_cons_succ,Nat.reduceEqDiff,true_and,and_true,false_and,e_sn,e_ss,e_pn,e_ps,e_bb,fill0,fill1,b_add,b_sub,b_mul,b_eql,b_neq,b_lss,b_leq,b_gtr,b_geq,b_and,b_or,b_xor,b_seql,b_sneq,b_slss,AQ.andThen,AQ.inBlock,Option.some.injEq,exists_eq_left',exists_eq_left,reduceCtorEq,Exit.exit.injEq]
 refine W_loop (fun k fr H1=>∃(i:Nat) (c:Value),fr=[x,.int .u64 0,.int .u64 (num (l.take i)),.int .i64 i,c]∧i≤l.length∧k=l.length-i∧H1=H) l.length ?_ ?_
 ·exact⟨0,undef,by simp[num],by omega,rfl,rfl⟩
 ·rintro k fr H1 ⟨i,c,rfl,h1,rfl,rfl⟩
  obtain⟨a,kk,hsh⟩:=hx.sh
  by_cases hi:i<l.length
  ·obtain⟨b,o,kc,rfl,hc⟩:=hx.split (fun e=>by subst e;simp at hi)
   simp only[↓reduceIte,RD_nil,RD_cons,RD_consg,W_dreg,obl_nil,Nat.reduceAdd,Nat.add_zero,Nat.zero_add,Nat.mul_one,Int.toNat_natCast,W_skip,W_reg,W_seq,W_cond,W_block,W_exit,W_ret,getD_nil',RW_nil,RW_cons,RW_consg,AOp.map,AX_fr,AX_tm,AX_c,AX_fn,AX_g,D_no,D_no',D_tm,D_tm',D_fr,D_fr',List.getD_cons_zero,List.getD_cons_succ,List.set_cons_zero,List.set_cons_succ,List.map_cons,List.map_nil,Option.map_some,Option.map_none,wantA,beq_self_eq_true,if_true,Bool.false_eq_true,if_false,Bool.not_true,Bool.not_false,s_mov,s_pick,s_new,s_box,s_build,s_bslice,s_load1,s_loadn,s_nilck,s_bin,s_eqv,s_not,s_neg,s_i2i,s_s2s,s_s2b,s_iface,s_mkfn,s_faddr,s_fld1,s_iaddr,s_idxs,s_assert,s_extract,s_len,s_lens,s_lenc,s_callf,resO0,resO1,resO2,resO3,List.getElem?_cons_zero,List.getElem?_cons_succ,Nat.reduceEqDiff,true_and,and_true,false_and,e_sn,e_ss,e_pn,e_ps,e_bb,fill0,fill1,b_add,b_sub,b_mul,b_eql,b_neq,b_lss,b_leq,b_gtr,b_geq,b_and,b_or,b_xor,b_seql,b_sneq,b_slss,AQ.andThen,AQ.inBlock,Option.some.injEq,exists_eq_left',exists_eq_left,reduceCtorEq,Exit.exit.injEq,show(i:Int)<(l.length:Int) by omega,decide_true,hc i hi,b_shl _ _ _ _ (show(0:Int)≤8 by omega),wrap_u64 ((l[i].toNat:Int))]
   have e1:((l[i].toNat:Int) % 18446744073709551616)=(l[i].toNat:Int):=by have:=l[i].toNat_lt;omega
   rw[show Int.toNat 8=8 from rfl,e1,or_byte,←num_append,wrap_i64 (by omega) (by omega)]
   refine⟨by omega,l.length-(i+1),by omega,i+1,.bool true,?_,by omega,rfl⟩
   rw[List.take_succ_eq_append_getElem hi]
   rfl
  ·subst hsh
   simp only[↓reduceIte,RD_nil,RD_cons,RD_consg,W_dreg,obl_nil,Nat.reduceAdd,Nat.add_zero,Nat.zero_add,Nat.mul_one,Int.toNat_natCast,W_skip,W_reg,W_seq,W_cond,W_block,W_exit,W_ret,getD_nil',RW_nil,RW_cons,RW_consg,AOp.map,AX_fr,AX_tm,AX_c,AX_fn,AX_g,D_no,D_no',D_tm,D_tm',D_fr,D_fr',List.getD_cons_zero,List.getD_cons_succ,List.set_cons_zero,List.set_cons_succ,List.map_cons,List.map_nil,Option.map_some,Option.map_none,wantA,beq_self_eq_true,if_true,Bool.false_eq_true,if_false,Bool.not_true,Bool.not_false,s_mov,s_pick,s_new,s_box,s_build,s_bslice,s_load1,s_loadn,s_nilck,s_bin,s_eqv,s_not,s_neg,s_i2i,s_s2s,s_s2b,s_iface,s_mkfn,s_faddr,s_fld1,s_iaddr,s_idxs,s_assert,s_extract,s_len,s_lens,s_lenc,s_callf,resO0,resO1,resO2,resO3,List.getElem?_cons_zero,List.getElem?_cons_succ,Nat.reduceEqDiff,true_and,and_true,false_and,e_sn,e_ss,e_pn,e_ps,e_bb,fill0,fill1,b_add,b_sub,b_mul,b_eql,b_neq,b_lss,b_leq,b_gtr,b_geq,b_and,b_or,b_xor,b_seql,b_sneq,b_slss,AQ.andThen,AQ.inBlock,Option.some.injEq,exists_eq_left',exists_eq_left,reduceCtorEq,Exit.exit.injEq,show¬(i:Int)<(l.length:Int) by omega,decide_false]
   rw[List.take_of_length_le (by omega)]
def RV(H:AHeap)(r bv:Nat)(v:Value)(l:List UInt8):Prop:=
 (v=.slice none 0 0∧l=[]∧bv=r)∨∃o c rm,v=slc bv o l.length l.length∧H.get bv=some (.cells true rm 1 c 5)∧bv≠r∧c.drop o=cellsOf l∧o≤c.length
def RS(H:AHeap)(r bv:Nat)(l:List UInt8)(bad:Bool):Prop:=∃v,H.get r=some (.cells true false 2 [v,.bool bad] 207)∧RV H r bv v l
theorem RV.bs{H:AHeap}{r bv:Nat}{v:Value}{l:List UInt8}(h:RV H r bv v l):BS H v l:=by
 rcases h with⟨rfl,rfl,rfl⟩|⟨o,c,rm,rfl,h1,h2,h3,h4⟩
 ·exact BS.nil H
 ·refine⟨⟨_,_,rfl⟩,?_⟩
  have hl:=congrArg List.length h3
  rw[List.length_drop,cellsOf_length]at hl
  simp only[elemsA,slc,h1]
  rw[if_pos (by omega),h3,List.take_of_length_le (by rw[cellsOf_length];omega)]
theorem RV.chg{H H':AHeap}{r bv:Nat}{v:Value}{l:List UInt8}{S:List Nat}(h:RV H r bv v l)(k:Chg S H H')(hS:bv∉S):RV H' r bv v l:=by
 rcases h with⟨rfl,rfl,rfl⟩|⟨o,c,rm,rfl,h1,h2,h3,h4⟩
 ·exact .inl ⟨rfl,rfl,rfl⟩
 ·exact .inr ⟨o,c,rm,rfl,k.at_ h1 hS,h2,h3,h4⟩
theorem RS.chg{H H':AHeap}{r bv:Nat}{l:List UInt8}{bad:Bool}{S:List Nat}(h:RS H r bv l bad)(k:Chg S H H')(h1:r∉S)(h2:bv∉S):RS H' r bv l bad:=by
 obtain⟨v,a1,a2⟩:=h
 exact⟨v,k.at_ a1 h1,a2.chg k h2⟩
theorem RS.lt{H:AHeap}{r bv:Nat}{l:List UInt8}{bad:Bool}(h:RS H r bv l bad):r<H.n∧bv<H.n:=by
 obtain⟨v,a1,a2⟩:=h
 refine⟨AHeap.get_lt a1,?_⟩
 rcases a2 with⟨_,_,rfl⟩|⟨o,c,rm,_,h1,_⟩
 ·exact AHeap.get_lt a1
 ·exact AHeap.get_lt h1
theorem t114{H:AHeap}{x:Value}{l:List UInt8}(hx:BS H x l)(hl:l.length≤1000000000):∃v H',ARun Go.Proofs.Tryz.prog 0 114 [x] H v H'∧∃r bv,v=ptr r 0∧RS H' r bv l false∧H.n≤r∧H.n≤bv∧Keeps H H':=by
 refine walk f114_ok f114_n ?_
 obtain⟨v,H1,r31,p1,p2,p3⟩:=t91 hx hl
 simp only[f114,initFr,↓reduceIte,RD_nil,RD_cons,RD_consg,W_dreg,obl_nil,Nat.reduceAdd,Nat.add_zero,Nat.zero_add,Nat.mul_one,Int.toNat_natCast,W_skip,W_reg,W_seq,W_cond,W_block,W_exit,W_ret,getD_nil',RW_nil,RW_cons,RW_consg,AOp.map,AX_fr,AX_tm,AX_c,AX_fn,AX_g,D_no,D_no',D_tm,D_tm',D_fr,D_fr',List.getD_cons_zero,List.getD_cons_succ,List.set_cons_zero,List.set_cons_succ,List.map_cons,List.map_nil,Option.map_some,Option.map_none,wantA,beq_self_eq_true,if_true,Bool.false_eq_true,if_false,Bool.not_true,Bool.not_false,s_mov,s_pick,s_new,s_box,s_build,s_bslice,s_load1,s_loadn,s_nilck,s_bin,s_eqv,s_not,s_neg,s_i2i,s_s2s,s_s2b,s_iface,s_mkfn,s_faddr,s_fld1,s_iaddr,s_idxs,s_assert,s_extract,s_len,s_lens,s_lenc,s_callf,resO0,resO1,resO2,resO3,List.getElem?_cons_zero,List.getElem?_cons_succ,Nat.reduceEqDiff,true_and,and_true,false_and,e_sn,e_ss,e_pn,e_ps,e_bb,fill0,fill1,b_add,b_sub,b_mul,b_eql,b_neq,b_lss,b_leq,b_gtr,b_geq,b_and,b_or,b_xor,b_seql,b_sneq,b_slss,AQ.andThen,AQ.inBlock,Option.some.injEq,exists_eq_left',exists_eq_left,reduceCtorEq,Exit.exit.injEq]
 refine⟨_,_,r31,?_⟩
 obtain⟨a,ha⟩:=p1.shape
 have hf:fillA [.slice none 0 0,.bool false] [(0,1,v)]=some [v,.bool false]:=by rw[ha];rfl
 refine⟨_,hf,?_⟩
 simp only[↓reduceIte,RD_nil,RD_cons,RD_consg,W_dreg,obl_nil,Nat.reduceAdd,Nat.add_zero,Nat.zero_add,Nat.mul_one,Int.toNat_natCast,W_skip,W_reg,W_seq,W_cond,W_block,W_exit,W_ret,getD_nil',RW_nil,RW_cons,RW_consg,AOp.map,AX_fr,AX_tm,AX_c,AX_fn,AX_g,D_no,D_no',D_tm,D_tm',D_fr,D_fr',List.getD_cons_zero,List.getD_cons_succ,List.set_cons_zero,List.set_cons_succ,List.map_cons,List.map_nil,Option.map_some,Option.map_none,wantA,beq_self_eq_true,if_true,Bool.false_eq_true,if_false,Bool.not_true,Bool.not_false,s_mov,s_pick,s_new,s_box,s_build,s_bslice,s_load1,s_loadn,s_nilck,s_bin,s_eqv,s_not,s_neg,s_i2i,s_s2s,s_s2b,s_iface,s_mkfn,s_faddr,s_fld1,s_iaddr,s_idxs,s_assert,s_extract,s_len,s_lens,s_lenc,s_callf,resO0,resO1,resO2,resO3,List.getElem?_cons_zero,List.getElem?_cons_succ,Nat.reduceEqDiff,true_and,and_true,false_and,e_sn,e_ss,e_pn,e_ps,e_bb,fill0,fill1,b_add,b_sub,b_mul,b_eql,b_neq,b_lss,b_leq,b_gtr,b_geq,b_and,b_or,b_xor,b_seql,b_sneq,b_slss,AQ.andThen,AQ.inBlock,Option.some.injEq,exists_eq_left',exists_eq_left,reduceCtorEq,Exit.exit.injEq,Value.cells]
 refine⟨by rw[ha];rfl,H1.n,?_⟩
 have hK:=(Keeps.refl H1).alloc (.cells true false 2 [v,.bool false] 207)
 have hg:=AHeap.get_alloc_new H1 (.cells true false 2 [v,.bool false] 207)
 rcases p1 with⟨rfl,h2,h3⟩|⟨b,room,rfl,h1,h2⟩
 ·have hl0:l=[]:=List.length_eq_zero_iff.1 h2
  subst hl0
  exact⟨H1.n,rfl,⟨_,hg,.inl ⟨rfl,rfl,rfl⟩⟩,p2.n,p2.n,p2.trans hK⟩
 ·have hb:=AHeap.get_lt h2
  exact⟨b,rfl,⟨_,hg,.inr ⟨0,_,room,rfl,hK.at_ h2,by omega,by rw[List.drop_zero],by omega⟩⟩,p2.n,p3 b rfl,p2.trans hK⟩
def TK(H H':AHeap)(r bv:Nat)(l:List UInt8)(n:Nat)(v:Value):Prop:=
 Chg [r] H H'∧((v=.slice none 0 0∧l=[]∧n=0∧bv=r∧H'.get r=some (.cells true false 2 [.slice none 0 0,.bool false] 207))∨
  ∃o c rm,v=slc bv o n n∧H'.get r=some (.cells true false 2 [slc bv (o+n) (l.length-n) (l.length-n),.bool false] 207)∧H'.get bv=some (.cells true rm 1 c 5)∧bv≠r∧c.drop o=cellsOf l∧o+n≤c.length)
theorem TK.rs{H H':AHeap}{r bv:Nat}{l:List UInt8}{n:Nat}{v:Value}(h:TK H H' r bv l n v):RS H' r bv (l.drop n) false:=by
 obtain⟨_,⟨rfl,rfl,rfl,rfl,h1⟩|⟨o,c,rm,rfl,h1,h2,h3,h4,h5⟩⟩:=h
 ·exact⟨_,h1,.inl ⟨rfl,rfl,rfl⟩⟩
 ·refine⟨_,h1,.inr ⟨o+n,c,rm,by rw[List.length_drop],h2,h3,?_,h5⟩⟩
  rw[←List.drop_drop,h4]
  simp[cellsOf,List.map_drop]
theorem TK.bs{H H':AHeap}{r bv:Nat}{l:List UInt8}{n:Nat}{v:Value}(h:TK H H' r bv l n v)(hn:n≤l.length):BS H' v (l.take n):=by
 obtain⟨_,⟨rfl,rfl,rfl,rfl,h1⟩|⟨o,c,rm,rfl,h1,h2,h3,h4,h5⟩⟩:=h
 ·exact BS.nil H'
 ·refine⟨⟨some ⟨bv,o,none⟩,n,by rw[List.length_take,Nat.min_eq_left hn];rfl⟩,?_⟩
  simp only[elemsA,slc,h2,Nat.mul_one]
  rw[if_pos h5,h4]
  simp[cellsOf,List.map_take]
theorem t148{H:AHeap}{r bv:Nat}{l:List UInt8}{bad:Bool}(h:RS H r bv l bad)(n:Int)(hl:l.length≤1000000000):
 ∃v H',ARun Go.Proofs.Tryz.prog 0 148 [ptr r 0,.int .i64 n] H v H'∧if bad=true∨n<0∨(l.length:Int)<n then v=.slice none 0 0∧RS H' r r [] true∧Chg [r] H H' else TK H H' r bv l n.toNat v:=by
 refine walk2 f148_ok f148_n ?_
 intro Q hq1 hq2
 obtain⟨v,h1,h2⟩:=h
 obtain⟨a,k,hsh⟩:=h2.bs.sh
 have hrn:=AHeap.get_lt h1
 have e1:∀x:Value,(H.set r (.cells true false 2 [x,.bool bad] 207)).get r=some (.cells true false 2 [x,.bool bad] 207):=fun x=>AHeap.get_set_same h1 _
 have fail:RS ((H.set r (.cells true false 2 [.slice none 0 0,.bool bad] 207)).set r (.cells true false 2 [.slice none 0 0,.bool true] 207)) r r [] true∧Chg [r] H ((H.set r (.cells true false 2 [.slice none 0 0,.bool bad] 207)).set r (.cells true false 2 [.slice none 0 0,.bool true] 207)):=
  ⟨⟨_,AHeap.get_set_same (e1 _) _,.inl ⟨rfl,rfl,rfl⟩⟩,(Chg.set H hrn _).trans (Chg.set (H.set r _) hrn _) (fun x hx=>.inl hx)⟩
 by_cases hbad:bad=true
 ·subst hbad
  simp only[f148,W_block,ANs,AOp.map,↓reduceIte,Nat.reduceAdd,Nat.reduceEqDiff,reduceCtorEq,initFr,Nat.reduceLT,ANc,cellA_of h1,a_st h1,a_st (e1 _)]
  refine hq2 _ _ ⟨_,rfl,?_⟩
  rw[if_pos (.inl rfl)]
  exact⟨rfl,fail⟩
 ·have hb0:bad=false:=by simpa using hbad
  subst hb0
  by_cases hn:n<0
  ·simp only[f148,W_block,ANs,AOp.map,↓reduceIte,Nat.reduceAdd,Nat.reduceEqDiff,reduceCtorEq,initFr,Nat.reduceLT,ANc,cellA_of h1,hn,decide_true,a_st h1,a_st (e1 _)]
   refine hq2 _ _ ⟨_,rfl,?_⟩
   rw[if_pos (.inr (.inl hn))]
   exact⟨rfl,fail⟩
  ·by_cases hn2:(l.length:Int)<n
   ·subst hsh
    simp only[f148,W_block,ANs,AOp.map,↓reduceIte,Nat.reduceAdd,Nat.reduceEqDiff,reduceCtorEq,initFr,Nat.reduceLT,ANc,cellA_of h1,hn,decide_true,decide_false,hn2,a_st h1,a_st (e1 _)]
    refine hq2 _ _ ⟨_,rfl,?_⟩
    rw[if_pos (.inr (.inr hn2))]
    exact⟨rfl,fail⟩
   ·obtain⟨m,rfl⟩:∃m:Nat,n=m:=⟨n.toNat,by omega⟩
    have hm:m≤l.length:=by omega
    rcases h2 with⟨rfl,rfl,rfl⟩|⟨o,c,rm,rfl,g1,g2,g3,g4⟩
    ·have hm0:m=0:=by simpa using hm
     have z1:∀k:IntKind,bndA (some (.int k (m:Int))) 0 0=some 0:=fun k=>by rw[hm0];exact bnd_some k 0 0 0 (Nat.le_refl _)
     have hn3:¬(((0:Nat):Int)<(m:Int)):=by omega
     simp only[f148,W_block,ANs,AOp.map,↓reduceIte,Nat.reduceAdd,Nat.reduceEqDiff,reduceCtorEq,initFr,Nat.reduceLT,ANc,cellA_of h1,hn,decide_true,decide_false,hn3,a_slsl_nil ⟨0,0,0,z1 .i64,z1 .i64,bnd_none 0 0⟩,a_slsl_nil ⟨0,0,0,bnd_none 0 0,bnd_none 0 0,z1 .i64⟩,a_st h1]
     refine hq2 _ _ ⟨_,rfl,?_⟩
     rw[if_neg (by simp;omega)]
     exact⟨Chg.set H hrn _,.inl ⟨rfl,rfl,hm0,rfl,AHeap.get_set_same h1 _⟩⟩
    ·simp only[f148,W_block,ANs,AOp.map,↓reduceIte,Nat.reduceAdd,Nat.reduceEqDiff,reduceCtorEq,initFr,Nat.reduceLT,ANc,cellA_of h1,hn,decide_true,decide_false,hn2,a_slsl g1 (bnd_some .i64 m l.length l.length hm) (bnd_some .i64 m l.length m (Nat.le_refl _)) (bnd_none 0 m),
      a_slsl g1 (bnd_none l.length l.length) (bnd_none l.length l.length) (bnd_some .i64 m 0 l.length hm),a_st h1,Nat.sub_zero,Nat.zero_mul]
     refine hq2 _ _ ⟨_,rfl,?_⟩
     rw[if_neg (by simp;omega)]
     exact⟨Chg.set H hrn _,.inr ⟨o,c,rm,rfl,AHeap.get_set_same h1 _,by rw[AHeap.get_set_other H g2 hrn];exact g1,g2,g3,by
      have hl:=congrArg List.length g3
      rw[List.length_drop,cellsOf_length]at hl
      simp only[Int.toNat_natCast];omega⟩⟩
def failB(l:List UInt8)(bad:Bool)(n:Int):Prop:=bad=true∨n<0∨(l.length:Int)<n
instance (l:List UInt8) (bad:Bool) (n:Int):Decidable (failB l bad n):=by unfold failB;infer_instance
def gotL(l:List UInt8)(bad:Bool)(n:Int):List UInt8:=if failB l bad n then[]else l.take n.toNat
def restL(l:List UInt8)(bad:Bool)(n:Int):List UInt8:=if failB l bad n then[]else l.drop n.toNat
def badB(l:List UInt8)(bad:Bool)(n:Int):Bool:=decide (failB l bad n)
def Aft(H H':AHeap)(r bv:Nat)(l:List UInt8)(bad:Bool)(n:Int):Prop:=∃bv',RS H' r bv' (restL l bad n) (badB l bad n)∧(bv'=bv∨bv'=r)
theorem t148'{H:AHeap}{r bv:Nat}{l:List UInt8}{bad:Bool}(h:RS H r bv l bad)(n:Int)(hl:l.length≤1000000000):
 ∃v H',ARun Go.Proofs.Tryz.prog 0 148 [ptr r 0,.int .i64 n] H v H'∧BS H' v (gotL l bad n)∧Aft H H' r bv l bad n∧Chg [r] H H'∧((v=.slice none 0 0∧gotL l bad n=[])∨(¬failB l bad n∧TK H H' r bv l n.toNat v)):=by
 obtain⟨v,H',q,p⟩:=t148 h n hl
 refine⟨v,H',q,?_⟩
 by_cases hf:failB l bad n
 ·rw[if_pos (show bad=true∨n<0∨(l.length:Int)<n from hf)]at p
  obtain⟨rfl,p1,p2⟩:=p
  have hb:badB l bad n=true:=by simp[badB,hf]
  refine⟨by simp only[gotL,hf,if_true];exact BS.nil H',⟨r,by rw[hb];simp only[restL,hf,if_true];exact p1,.inr rfl⟩,p2,.inl ⟨rfl,by simp[gotL,hf]⟩⟩
 ·rw[if_neg (show¬(bad=true∨n<0∨(l.length:Int)<n)from hf)]at p
  have hb:badB l bad n=false:=by simp[badB,hf]
  have hn:n.toNat≤l.length:=by unfold failB at hf;omega
  refine⟨by simp only[gotL,hf,if_false];exact p.bs hn,⟨bv,by rw[hb];simp only[restL,hf,if_false];exact p.rs,.inl rfl⟩,p.1,.inr ⟨hf,p⟩⟩
def tyR(k:Nat):Nat:=if k=0 then 5 else if k=1 then 181 else if k=2 then 87 else 85
def kdR(k:Nat):IntKind:=if k=0 then .u8 else if k=1 then .u16 else if k=2 then .u32 else .u64
theorem fold_le:∀(l:List UInt8) (a:Nat),l.foldl (fun n b=>(n*256+b.toNat) % 18446744073709551616) a+1≤a*256 ^ l.length+256 ^ l.length
 |[],a=>by simp
 |b::l,a=>by
  have h:=fold_le l ((a*256+b.toNat) % 18446744073709551616)
  have hb:=b.toNat_lt
  have h1:(a*256+b.toNat) % 18446744073709551616≤a*256+255:=Nat.le_trans (Nat.mod_le _ _) (by omega)
  have h2:((a*256+b.toNat) % 18446744073709551616)*256 ^ l.length≤(a*256+255)*256 ^ l.length:=Nat.mul_le_mul_right _ h1
  simp only[List.foldl_cons,List.length_cons,Nat.pow_succ]
  have h3:(a*256+255)*256 ^ l.length+256 ^ l.length=a*(256 ^ l.length*256)+256 ^ l.length*256:=by
   rw[Nat.add_mul,Nat.mul_assoc,Nat.mul_comm 256 (256 ^ l.length)];omega
  omega
theorem num_lt'(l:List UInt8):num l<256 ^ l.length:=by
 have:=fold_le l 0
 unfold num
 omega
theorem t164{H:AHeap}{x:Value}{l:List UInt8}(hx:BS H x l)(k:Nat)(hk:k<4)(hl:l.length≤2 ^ k):∃v H',ARun Go.Proofs.Tryz.prog 0 164 [x,.int .i64 ((2 ^ k:Nat):Int)] H v H'∧v=.iface (tyR k) (.int (kdR k) (num l))∧H'=H:=by
 refine walk2 f164_ok f164_n ?_
 intro Q hq1 hq2
 obtain⟨a,kk,hsh⟩:=hx.sh
 have hp8:2 ^ k≤8:=by
  have c0:k=0∨k=1∨k=2∨k=3:=by omega
  rcases c0 with rfl|rfl|rfl|rfl<;>decide
 rw[hsh]
 simp only[f164,W_block,ANs,AOp.map,↓reduceIte,Nat.reduceAdd,Nat.reduceEqDiff,reduceCtorEq,initFr,Nat.reduceLT,ANc]
 refine W_loop2 (fun q fr H1=>∃(i:Nat) (z y:Value),fr=[.slice a l.length kk,.int .i64 ((2 ^ k:Nat):Int),.nilIface,.int .u64 (num (l.take i)),y,.slice a l.length kk,.int .i64 l.length,.int .i64 i,z,undef,undef,undef,undef]∧i≤l.length∧q=l.length-i∧H1=H) l.length ?_ ?_
 ·exact⟨0,undef,undef,by simp[num],by omega,by omega,rfl⟩
 ·rintro Q' q fr H1 ⟨i,z,y,rfl,h1,rfl,rfl⟩ hnext hexit hret
  by_cases hi:i<l.length
  ·obtain⟨b,o,kc,hs,hc⟩:=hx.split (fun e=>by subst e;simp at hi)
   rw[hsh]at hs
   have e1:((l[i].toNat:Int) % 18446744073709551616)=(l[i].toNat:Int):=by have:=l[i].toNat_lt;omega
   rw[hs]
   simp only[W_block,ANs,AOp.map,↓reduceIte,Nat.reduceAdd,Nat.reduceEqDiff,reduceCtorEq,initFr,Nat.reduceLT,ANc,show(i:Int)<(l.length:Int) by omega,decide_true,show(0:Int)≤(i:Int) by omega,hc i hi,b_shl _ _ _ _ (show(0:Int)≤8 by omega),wrap_u64 ((l[i].toNat:Int)),show Int.toNat 8=8 from rfl,e1,or_byte,←num_append,wrap_succ (n:=i) (by omega)]
   refine hnext _ _ _ ⟨i+1,_,_,by rw[List.take_succ_eq_append_getElem hi,hs],by omega,rfl,rfl⟩ (by omega)
  ·simp only[W_block,ANs,AOp.map,↓reduceIte,Nat.reduceAdd,Nat.reduceEqDiff,reduceCtorEq,initFr,Nat.reduceLT,ANc,show¬(i:Int)<(l.length:Int) by omega,decide_false]
   refine hexit _ _ _ ?_
   have hnum:=num_lt' l
   rw[List.take_of_length_le (by omega)]
   have hpw:256 ^ l.length≤256 ^ (2 ^ k):=Nat.pow_le_pow_right (by omega) hl
   have c0:k=0∨k=1∨k=2∨k=3:=by omega
   rcases c0 with rfl|rfl|rfl|rfl
   ·simp only[W_block,ANs,AOp.map,↓reduceIte,Nat.reduceAdd,Nat.reduceEqDiff,reduceCtorEq,initFr,Nat.reduceLT,ANc,show((((2 ^ 0:Nat):Int))==1)=true by decide]
    refine hq2 _ _ ⟨_,rfl,?_,rfl⟩
    rw[wrap_u8,Int.emod_eq_of_lt (by omega) (by omega)]
    rfl
   ·simp only[W_block,ANs,AOp.map,↓reduceIte,Nat.reduceAdd,Nat.reduceEqDiff,reduceCtorEq,initFr,Nat.reduceLT,ANc,show((((2 ^ 1:Nat):Int))==1)=false by decide,show((((2 ^ 1:Nat):Int))==2)=true by decide]
    refine hq2 _ _ ⟨_,rfl,?_,rfl⟩
    rw[wrap_u16,Int.emod_eq_of_lt (by omega) (by omega)]
    rfl
   ·simp only[W_block,ANs,AOp.map,↓reduceIte,Nat.reduceAdd,Nat.reduceEqDiff,reduceCtorEq,initFr,Nat.reduceLT,ANc,show((((2 ^ 2:Nat):Int))==1)=false by decide,show((((2 ^ 2:Nat):Int))==2)=false by decide,show((((2 ^ 2:Nat):Int))==4)=true by decide]
    refine hq2 _ _ ⟨_,rfl,?_,rfl⟩
    rw[wrap_u32,Int.emod_eq_of_lt (by omega) (by omega)]
    rfl
   ·simp only[W_block,ANs,AOp.map,↓reduceIte,Nat.reduceAdd,Nat.reduceEqDiff,reduceCtorEq,initFr,Nat.reduceLT,ANc,show((((2 ^ 3:Nat):Int))==1)=false by decide,show((((2 ^ 3:Nat):Int))==2)=false by decide,show((((2 ^ 3:Nat):Int))==4)=false by decide]
    exact hq2 _ _ ⟨_,rfl,rfl,rfl⟩
theorem got_le(l:List UInt8)(bad:Bool)(n:Int):((gotL l bad n).length:Int)≤max n 0:=by
 unfold gotL
 split
 ·simp;omega
 ·rw[List.length_take];omega
theorem t147{H:AHeap}{r bv:Nat}{l:List UInt8}{bad:Bool}(h:RS H r bv l bad)(k:Nat)(hk:k<4)(hl:l.length≤1000000000):
 ∃v H',ARun Go.Proofs.Tryz.prog 0 147 [ptr r 0,.int .i64 ((2 ^ k:Nat):Int)] H v H'∧v=.iface (tyR k) (.int (kdR k) (num (gotL l bad ((2 ^ k:Nat):Int))))∧Aft H H' r bv l bad ((2 ^ k:Nat):Int)∧Chg [r] H H':=by
 refine walk2 f147_ok f147_n ?_
 intro Q hq1 hq2
 obtain⟨v,H1,r1,p1,p2,p3,_⟩:=t148' h ((2 ^ k:Nat):Int) hl
 simp only[f147,W_block,ANs,AOp.map,↓reduceIte,Nat.reduceAdd,Nat.reduceEqDiff,reduceCtorEq,initFr,Nat.reduceLT,ANc]
 refine⟨_,_,r1,?_⟩
 simp only[W_block,ANs,AOp.map,↓reduceIte,Nat.reduceAdd,Nat.reduceEqDiff,reduceCtorEq,initFr,Nat.reduceLT,ANc]
 have hle:=got_le l bad ((2 ^ k:Nat):Int)
 rw[Int.max_eq_left (Int.natCast_nonneg _)]at hle
 obtain⟨v2,H2,r2,rfl,rfl⟩:=t164 p1 k hk (Int.ofNat_le.1 hle)
 refine⟨_,_,r2,?_⟩
 simp only[W_block,ANs,AOp.map,↓reduceIte,Nat.reduceAdd,Nat.reduceEqDiff,reduceCtorEq,initFr,Nat.reduceLT,ANc]
 exact hq2 _ _ ⟨_,rfl,rfl,p2,p3⟩
theorem t115{H:AHeap}{r bv:Nat}{l:List UInt8}{bad:Bool}(h:RS H r bv l bad)(hl:l.length≤1000000000):
 ∃v H',ARun Go.Proofs.Tryz.prog 0 115 [ptr r 0] H v H'∧v=.int .u8 (num (gotL l bad 1))∧Aft H H' r bv l bad 1∧Chg [r] H H':=by
 refine walk2 f115_ok f115_n ?_
 intro Q hq1 hq2
 obtain⟨v,H1,r1,rfl,p2,p3⟩:=t147 h 0 (by omega) hl
 simp only[f115,W_block,ANs,AOp.map,↓reduceIte,Nat.reduceAdd,Nat.reduceEqDiff,reduceCtorEq,initFr,Nat.reduceLT,ANc]
 refine⟨_,_,r1,?_⟩
 simp only[W_block,ANs,AOp.map,↓reduceIte,Nat.reduceAdd,Nat.reduceEqDiff,reduceCtorEq,initFr,Nat.reduceLT,ANc,tyR,kdR]
 exact hq2 _ _ ⟨_,rfl,rfl,p2,p3⟩
theorem t118{H:AHeap}{r bv:Nat}{l:List UInt8}{bad:Bool}(h:RS H r bv l bad)(hl:l.length≤1000000000):
 ∃v H',ARun Go.Proofs.Tryz.prog 0 118 [ptr r 0] H v H'∧v=.int .u16 (num (gotL l bad 2))∧Aft H H' r bv l bad 2∧Chg [r] H H':=by
 refine walk2 f118_ok f118_n ?_
 intro Q hq1 hq2
 obtain⟨v,H1,r1,rfl,p2,p3⟩:=t147 h 1 (by omega) hl
 simp only[f118,W_block,ANs,AOp.map,↓reduceIte,Nat.reduceAdd,Nat.reduceEqDiff,reduceCtorEq,initFr,Nat.reduceLT,ANc]
 refine⟨_,_,r1,?_⟩
 simp only[W_block,ANs,AOp.map,↓reduceIte,Nat.reduceAdd,Nat.reduceEqDiff,reduceCtorEq,initFr,Nat.reduceLT,ANc,tyR,kdR]
 exact hq2 _ _ ⟨_,rfl,rfl,p2,p3⟩
theorem t158{H:AHeap}{r bv:Nat}{l:List UInt8}{bad:Bool}(h:RS H r bv l bad)(hl:l.length≤1000000000):
 ∃v H',ARun Go.Proofs.Tryz.prog 0 158 [ptr r 0] H v H'∧v=.int .u32 (num (gotL l bad 4))∧Aft H H' r bv l bad 4∧Chg [r] H H':=by
 refine walk2 f158_ok f158_n ?_
 intro Q hq1 hq2
 obtain⟨v,H1,r1,rfl,p2,p3⟩:=t147 h 2 (by omega) hl
 simp only[f158,W_block,ANs,AOp.map,↓reduceIte,Nat.reduceAdd,Nat.reduceEqDiff,reduceCtorEq,initFr,Nat.reduceLT,ANc]
 refine⟨_,_,r1,?_⟩
 simp only[W_block,ANs,AOp.map,↓reduceIte,Nat.reduceAdd,Nat.reduceEqDiff,reduceCtorEq,initFr,Nat.reduceLT,ANc,tyR,kdR]
 exact hq2 _ _ ⟨_,rfl,rfl,p2,p3⟩
theorem t116{H:AHeap}{r bv:Nat}{l:List UInt8}{bad:Bool}(h:RS H r bv l bad)(hl:l.length≤1000000000):
 ∃v H',ARun Go.Proofs.Tryz.prog 0 116 [ptr r 0] H v H'∧v=.int .u64 (num (gotL l bad 8))∧Aft H H' r bv l bad 8∧Chg [r] H H':=by
 refine walk2 f116_ok f116_n ?_
 intro Q hq1 hq2
 obtain⟨v,H1,r1,rfl,p2,p3⟩:=t147 h 3 (by omega) hl
 simp only[f116,W_block,ANs,AOp.map,↓reduceIte,Nat.reduceAdd,Nat.reduceEqDiff,reduceCtorEq,initFr,Nat.reduceLT,ANc]
 refine⟨_,_,r1,?_⟩
 simp only[W_block,ANs,AOp.map,↓reduceIte,Nat.reduceAdd,Nat.reduceEqDiff,reduceCtorEq,initFr,Nat.reduceLT,ANc,tyR,kdR]
 exact hq2 _ _ ⟨_,rfl,rfl,p2,p3⟩
theorem t119{H:AHeap}{r bv:Nat}{l:List UInt8}{bad:Bool}(h:RS H r bv l bad)(n:Int)(hl:l.length≤1000000000):
 ∃v H',ARun Go.Proofs.Tryz.prog 0 119 [ptr r 0,.int .i64 n] H v H'∧BS H' v (gotL l bad n)∧Aft H H' r bv l bad n∧Chg [r] H H'∧((v=.slice none 0 0∧gotL l bad n=[])∨(¬failB l bad n∧TK H H' r bv l n.toNat v)):=by
 refine walk2 f119_ok f119_n ?_
 intro Q hq1 hq2
 obtain⟨v,H1,r1,p⟩:=t148' h n hl
 simp only[f119,W_block,ANs,AOp.map,↓reduceIte,Nat.reduceAdd,Nat.reduceEqDiff,reduceCtorEq,initFr,Nat.reduceLT,ANc]
 refine⟨_,_,r1,?_⟩
 simp only[W_block,ANs,AOp.map,↓reduceIte,Nat.reduceAdd,Nat.reduceEqDiff,reduceCtorEq,initFr,Nat.reduceLT,ANc]
 exact hq2 _ _ ⟨_,rfl,p⟩
theorem t159{H:AHeap}{r bv:Nat}{l:List UInt8}{bad:Bool}(h:RS H r bv l bad):∃v H',ARun Go.Proofs.Tryz.prog 0 159 [ptr r 0] H v H'∧v=.bool bad∧H'=H:=by
 refine walk2 f159_ok f159_n ?_
 intro Q hq1 hq2
 obtain⟨v,h1,h2⟩:=h
 simp only[f159,W_block,ANs,AOp.map,↓reduceIte,Nat.reduceAdd,Nat.reduceEqDiff,reduceCtorEq,initFr,Nat.reduceLT,ANc,cellA_of h1]
 exact hq2 _ _ ⟨_,rfl,rfl,rfl⟩
theorem t160{H:AHeap}{r bv:Nat}{l:List UInt8}{bad:Bool}(h:RS H r bv l bad):∃v H',ARun Go.Proofs.Tryz.prog 0 160 [ptr r 0] H v H'∧v=.int .i64 l.length∧H'=H:=by
 refine walk2 f160_ok f160_n ?_
 intro Q hq1 hq2
 obtain⟨v,h1,h2⟩:=h
 obtain⟨a,k,rfl⟩:=h2.bs.sh
 simp only[f160,W_block,ANs,AOp.map,↓reduceIte,Nat.reduceAdd,Nat.reduceEqDiff,reduceCtorEq,initFr,Nat.reduceLT,ANc,cellA_of h1]
 exact hq2 _ _ ⟨_,rfl,rfl,rfl⟩
end Go.AM.Fd

set_option linter.unusedSimpArgs false
set_option linter.unusedVariables false
namespace Go.AM
theorem ofI(n a:Nat):BitVec.ofInt n (a:Int)=BitVec.ofNat n a:=BitVec.ofInt_natCast ..
theorem bv_xor(n a b:Nat):(BitVec.ofInt n (a:Int) ^^^ BitVec.ofInt n (b:Int)).toNat=(a ^^^ b) % 2 ^ n:=by
 rw[ofI,ofI,BitVec.toNat_xor,BitVec.toNat_ofNat,BitVec.toNat_ofNat,Nat.xor_mod_two_pow]
theorem bv_and(n a b:Nat):(BitVec.ofInt n (a:Int)&&& BitVec.ofInt n (b:Int)).toNat=(a&&& b) % 2 ^ n:=by
 rw[ofI,ofI,BitVec.toNat_and,BitVec.toNat_ofNat,BitVec.toNat_ofNat,Nat.and_mod_two_pow]
def uk(k:IntKind):Bool:= !k.signed
theorem wrapU{k:IntKind}(h:uk k=true)(n:Nat)(hn:n<2 ^ k.bits):k.wrap (n:Int)=n:=by
 cases k<;>simp[uk,IntKind.signed]at h<;>simp[IntKind.wrap,IntKind.bits,IntKind.signed]at hn ⊢ <;>omega
theorem w_xor{k:IntKind}(hk:uk k=true){a b:Nat}(ha:a<2 ^ k.bits)(hb:b<2 ^ k.bits):k.wrap ((BitVec.ofInt k.bits (a:Int) ^^^ BitVec.ofInt k.bits (b:Int)).toNat:Int)=((a ^^^ b:Nat):Int):=by
 rw[bv_xor,Nat.mod_eq_of_lt (Nat.xor_lt_two_pow ha hb),wrapU hk _ (Nat.xor_lt_two_pow ha hb)]
theorem w_and{k:IntKind}(hk:uk k=true){a b:Nat}(ha:a<2 ^ k.bits):k.wrap ((BitVec.ofInt k.bits (a:Int)&&& BitVec.ofInt k.bits (b:Int)).toNat:Int)=((a&&& b:Nat):Int):=by
 have:a&&& b<2 ^ k.bits:=Nat.lt_of_le_of_lt Nat.and_le_left ha
 rw[bv_and,Nat.mod_eq_of_lt this,wrapU hk _ this]
theorem w_xor32{a b:Nat}(ha:a<4294967296)(hb:b<4294967296):IntKind.u32.wrap ((BitVec.ofInt IntKind.u32.bits (a:Int) ^^^ BitVec.ofInt IntKind.u32.bits (b:Int)).toNat:Int)=((a ^^^ b:Nat):Int):=w_xor (k:=.u32) rfl ha hb
theorem w_xor8{a b:Nat}(ha:a<256)(hb:b<256):IntKind.u8.wrap ((BitVec.ofInt IntKind.u8.bits (a:Int) ^^^ BitVec.ofInt IntKind.u8.bits (b:Int)).toNat:Int)=((a ^^^ b:Nat):Int):=w_xor (k:=.u8) rfl ha hb
theorem w_and1{k:IntKind}(hk:uk k=true){a:Nat}(ha:a<2 ^ k.bits):k.wrap ((BitVec.ofInt k.bits (a:Int)&&& BitVec.ofInt k.bits 1).toNat:Int)=((a % 2:Nat):Int):=by
 have:=w_and hk (b:=1) ha
 rw[Nat.and_one_is_mod]at this;exact this
theorem b_shrN{k k':IntKind}{n s:Nat}(h:s≤k.bits):binA .shr (.int k (n:Int)) (.int k' (s:Int))=some (.int k ((n / 2 ^ s:Nat):Int)):=by
 rw[b_shr _ _ _ _ (Int.natCast_nonneg s),Int.toNat_natCast,Nat.min_eq_left h,Int.fdiv_eq_ediv_of_nonneg _ (Int.le_of_lt (Int.pow_pos (by omega)))]
 simp
theorem a_uxor{H:AHeap}{k:IntKind}{n:Int}:asem (.un .xor (.int k n)) H=some (.int k (k.wrap (BitVec.ofInt k.bits (if k.signed then-1 else k.max) ^^^ BitVec.ofInt k.bits n).toNat),H):=_root_.id rfl
def BQ(H:AHeap)(v:Value)(l:List UInt8):Prop:=
 (v=.slice none 0 0∧l=[])∨(∃b o z,v=.slice (some ⟨b,o,some z⟩) 0 0∧l=[])∨
  ∃b o k own room esz c e,v=slc b o l.length k∧l.length≤k∧H.get b=some (.cells own room esz c e)∧(esz=1∨room=false)∧(c.drop o).take l.length=cellsOf l∧o+l.length≤c.length
theorem BQ.bs{H:AHeap}{v:Value}{l:List UInt8}(h:BQ H v l):BS H v l:=by
 rcases h with⟨rfl,rfl⟩|⟨b,o,z,rfl,rfl⟩|⟨b,o,k,own,room,esz,c,e,rfl,h1,h2,h3,h4,h5⟩
 ·exact BS.nil H
 ·exact⟨⟨_,_,rfl⟩,by simp[elemsA,cellsOf]⟩
 ·refine⟨⟨_,_,rfl⟩,?_⟩
  simp only[elemsA,slc,h2,Nat.mul_one]
  rw[if_pos h5,h4]
def tb:Value→List Nat
 | .slice (some ⟨b,_,none⟩) _ _=>[b]
 |_=>[]
theorem BQ.tbl{H:AHeap}{v:Value}{l:List UInt8}(h:BQ H v l):∀b∈tb v,b<H.n:=by
 rcases h with⟨rfl,rfl⟩|⟨b,o,z,rfl,rfl⟩|⟨b,o,k,own,room,esz,c,e,rfl,h1,h2,h3,h4,h5⟩
 ·simp[tb]
 ·simp[tb]
 ·intro x hx;simp[tb,slc]at hx;subst hx;exact AHeap.get_lt h2
theorem BQ.chg{H H':AHeap}{v:Value}{l:List UInt8}{S:List Nat}(h:BQ H v l)(k:Chg S H H')(hS:∀b∈tb v,b∉S):BQ H' v l:=by
 rcases h with h|h|⟨b,o,kk,own,room,esz,c,e,rfl,h1,h2,h3,h4,h5⟩
 ·exact .inl h
 ·exact .inr (.inl h)
 ·exact .inr (.inr ⟨b,o,kk,own,room,esz,c,e,rfl,h1,k.at_ h2 (hS b (by simp[tb,slc])),h3,h4,h5⟩)
theorem touch_sl(s:Nat)(v:Value)(a b c:Option Value)(X:AHeap):touchA (.slsl s v a b c) X=tb v:=by
 unfold touchA
 have:clsA (.slsl s v a b c)=1:=rfl
 rw[if_pos this]
 cases v<;>try rfl
 rename_i a n k
 cases a with
 |none=>rfl
 |some a=>
  obtain⟨b,o,z⟩:=a
  cases z<;>rfl
theorem tb_older{v:Value}{H:AHeap}(h:∀b∈tb v,b<H.n):olderB (tb v) H:=by
 unfold tb at*
 split
 ·exact⟨h _ (by simp),trivial⟩
 ·trivial
theorem tb_keeps{v:Value}{S:List Nat}{H H':AHeap}(h:∀b∈tb v,b<H.n∧b∉S)(k:Chg S H H'):keepsB (tb v) H H':=by
 unfold tb at*
 split
 ·rename_i b _ _ _
  have:=h b (by simp)
  exact⟨k.get _ this.1 this.2,trivial⟩
 ·trivial
theorem BQ.keeps{H H':AHeap}{v:Value}{l:List UInt8}(h:BQ H v l)(k:Keeps H H'):BQ H' v l:=h.chg (k.chg []) (by simp)
theorem AP.bq{H:AHeap}{e:Nat}{v:Value}{n:Nat}{l:List UInt8}(h:AP H e 1 v n (cellsOf l)):BQ H v l:=by
 rcases h with⟨rfl,rfl,h2⟩|⟨b,room,rfl,h1,h2⟩
 ·have:=congrArg List.length h2
  rw[cellsOf_length]at this
  exact .inl ⟨rfl,List.length_eq_zero_iff.1 this⟩
 ·rw[cellsOf_length,Nat.mul_one]at h1
  subst h1
  exact .inr (.inr ⟨b,0,l.length,true,room,1,_,e,rfl,Nat.le_refl _,h2,.inl rfl,by rw[List.drop_zero,List.take_of_length_le (by rw[cellsOf_length];omega)],by rw[cellsOf_length];omega⟩)
theorem BQ.cut{H:AHeap}{v:Value}{l:List UInt8}(h:BQ H v l){lo hi:Option Value}{i j:Nat}(hij:i≤j)(hj:j≤l.length)(h1:∀k,l.length≤k→bndA hi l.length k=some j)(h2:bndA lo 0 j=some i):
 ∃w,asem (.slsl 1 v lo hi none) H=some (w,H)∧BQ H w ((l.drop i).take (j-i)):=by
 rcases h with⟨rfl,rfl⟩|⟨b,o,z,rfl,rfl⟩|⟨b,o,k,own,room,esz,c,e,rfl,p1,p2,p3,p4,p5⟩
 ·have hj0:j=0:=by simpa using hj
  have hi0:i=0:=by omega
  subst hj0;subst hi0
  exact⟨_,a_slsl_nil ⟨0,0,0,bnd_none 0 0,h1 0 (Nat.le_refl _),h2⟩,.inl ⟨rfl,rfl⟩⟩
 ·have hj0:j=0:=by simpa using hj
  have hi0:i=0:=by omega
  subst hj0;subst hi0
  refine⟨.slice (some ⟨b,o,some z⟩) 0 0,?_,.inr (.inl ⟨b,o,z,rfl,rfl⟩)⟩
  have:=h1 0 (Nat.le_refl _)
  simp only[List.length_nil]at this
  simp only[asem,bnd_none,this,h2]
  simp
 ·refine⟨slc b (o+i) (j-i) (k-i),?_,?_⟩
  ·have:=h1 k p1
   simp only[asem,slc,bnd_none,this,h2,p2,Nat.mul_one]
   rw[if_pos p3]
  ·have hl:((l.drop i).take (j-i)).length=j-i:=by rw[List.length_take,List.length_drop];omega
   refine .inr (.inr ⟨b,o+i,k-i,own,room,esz,c,e,by rw[hl],by rw[hl];omega,p2,p3,?_,by rw[hl];omega⟩)
   rw[hl]
   have e1:cellsOf ((l.drop i).take (j-i))=((cellsOf l).drop i).take (j-i):=by simp[cellsOf,List.map_take,List.map_drop]
   rw[e1,←p4,←List.drop_drop,List.drop_take,List.take_take]
   congr 1
   omega
theorem BQ.from_{H:AHeap}{v:Value}{l:List UInt8}(h:BQ H v l){k:IntKind}(i:Nat)(hi:i≤l.length):∃w,asem (.slsl 1 v (some (.int k (i:Nat))) none none) H=some (w,H)∧BQ H w (l.drop i):=by
 obtain⟨w,h1,h2⟩:=h.cut (hi:=none) (lo:=some (.int k (i:Nat))) (i:=i) (j:=l.length) hi (Nat.le_refl _) (fun _ _=>bnd_none _ _) (bnd_some k i 0 l.length hi)
 exact⟨w,h1,by rwa [List.take_of_length_le (by rw[List.length_drop];omega)]at h2⟩
theorem BQ.to_{H:AHeap}{v:Value}{l:List UInt8}(h:BQ H v l){k:IntKind}(j:Nat)(hj:j≤l.length):∃w,asem (.slsl 1 v none (some (.int k (j:Nat))) none) H=some (w,H)∧BQ H w (l.take j):=by
 obtain⟨w,h1,h2⟩:=h.cut (hi:=some (.int k (j:Nat))) (lo:=none) (i:=0) (j:=j) (by omega) hj (fun m hm=>bnd_some k j l.length m (by omega)) (bnd_none 0 j)
 exact⟨w,h1,by simpa using h2⟩
theorem BQ.mid{H:AHeap}{v:Value}{l:List UInt8}(h:BQ H v l){k k':IntKind}(i j:Nat)(hi:i≤j)(hj:j≤l.length):∃w,asem (.slsl 1 v (some (.int k (i:Nat))) (some (.int k' (j:Nat))) none) H=some (w,H)∧BQ H w ((l.drop i).take (j-i)):=
 h.cut (hi:=some (.int k' (j:Nat))) (lo:=some (.int k (i:Nat))) hi hj (fun m hm=>bnd_some k' j l.length m (by omega)) (bnd_some k i 0 j hi)
theorem a_slarr0{H:AHeap}(esz n b o:Nat):asem (.slarr esz n (ptr b o) none none none) H=some (slc b o n n,H):=by
 simp[asem,bndA,ptr]
theorem el_tbl{H:AHeap}{esz:Nat}{v:Value}{l:List Value}(h:elemsA H esz v=some l):∀b∈tb v,b<H.n:=by
 intro b hb
 unfold tb at hb
 split at hb
 ·rename_i x o n k
  simp only[List.mem_singleton]at hb;subst hb
  simp only[elemsA]at h
  cases hg:H.get b with
  |none=>rw[hg]at h;cases h
  |some ob=>exact AHeap.get_lt hg
 ·cases hb
theorem el_get{H H':AHeap}{esz:Nat}{v:Value}{l:List Value}(h:elemsA H esz v=some l)(k:∀b∈tb v,b<H.n→H'.get b=H.get b):elemsA H' esz v=some l:=by
 have ht:=el_tbl h
 unfold elemsA at h ⊢
 split
 ·exact h
 ·rename_i b o n k2
  have hb:b∈tb (.slice (some ⟨b,o,none⟩) n k2):=by simp[tb]
  rw[k b hb (ht b hb)];exact h
 ·exact h
 ·simp at h
theorem BS.tbl{H:AHeap}{v:Value}{l:List UInt8}(h:BS H v l):∀b∈tb v,b<H.n:=el_tbl h.el
theorem BS.chgT{H H':AHeap}{v:Value}{l:List UInt8}{S:List Nat}(h:BS H v l)(k:Chg S H H')(hS:∀b∈tb v,b∉S):BS H' v l:=
 ⟨h.sh,el_get h.el fun b hb hn=>k.get b hn (hS b hb)⟩
theorem resCT{H:AHeap}(n i j:Nat)(fr:List Value):resO [.cn n i,.t j] fr H=(celln n (fr.getD i undef) H).map fun c=>.tuple #[c,fr.getD j undef]:=by
 simp only[resO,resVs,RX.get]
 cases celln n (fr.getD i undef) H<;>rfl
theorem Chg1.tr{r:Nat}{A B C:AHeap}(h:Chg [r] A B)(k:Chg [r] B C):Chg [r] A C:=h.trans k (fun x hx=>.inl hx)
theorem Chg1.kp{r:Nat}{A B:AHeap}(k:Keeps A B):Chg [r] A B:=k.chg _
theorem tb_blk{v:Value}{b:Nat}(h:b∈tb v):blk v=some b:=by
 unfold tb at h
 split at h
 ·simp only[List.mem_singleton]at h;subst h;rfl
 ·cases h
theorem Fresh.tb{n:Nat}{v:Value}(h:Fresh n v):∀b∈Go.AM.tb v,n≤b:=fun b hb=>h b (tb_blk hb)
end Go.AM

set_option linter.unusedSimpArgs false
set_option linter.unusedVariables false
namespace Go.AM.Fd
open Nat (reduceAdd reduceEqDiff reduceLT reduceLeDiff reduceMul reduceSub)
open Go.Proofs Go.AM.F
def DV:Nat:=3988292384
def ah(r:Nat):Nat:=if r % 2=1 then r / 2 ^^^ DV else r / 2
def ei:Nat→Nat→Nat
 |0,r=>r
 |n+1,r=>ei n (ah r)
def crcS(r:Nat)(c:UInt8):Nat:=ei 8 (r ^^^ c.toNat)
def crcL(l:List UInt8):Nat:=l.foldl crcS 4294967295
def crc(l:List UInt8):Nat:=4294967295 ^^^ crcL l
theorem ah_lt{r:Nat}(h:r<4294967296):ah r<4294967296:=by
 unfold ah
 split
 ·exact Nat.xor_lt_two_pow (n:=32) (by omega) (by decide)
 ·omega
theorem ei_lt:∀n {r:Nat},r<4294967296→ei n r<4294967296
 |0,_,h=>h
 |n+1,_,h=>ei_lt n (ah_lt h)
theorem xc_lt{r:Nat}(h:r<4294967296)(c:UInt8):r ^^^ c.toNat<4294967296:=Nat.xor_lt_two_pow (n:=32) (by omega) (by have:=c.toNat_lt;omega)
theorem crcS_lt{r:Nat}(h:r<4294967296)(c:UInt8):crcS r c<4294967296:=ei_lt 8 (xc_lt h c)
theorem fold_lt:∀(l:List UInt8) {r:Nat},r<4294967296→l.foldl crcS r<4294967296
 |[],_,h=>h
 |c::l,_,h=>fold_lt l (crcS_lt h c)
theorem crcL_lt(l:List UInt8):crcL l<4294967296:=fold_lt l (by decide)
theorem crc_lt(l:List UInt8):crc l<4294967296:=Nat.xor_lt_two_pow (n:=32) (by decide) (crcL_lt l)
theorem t167(r:Nat)(hr:r<4294967296)(H:AHeap):∃v H',ARun Go.Proofs.Tryz.prog 0 167 [.int .u32 r] H v H'∧v=.int .u32 (ah r)∧H'=H:=by
 refine walk2 f167_ok f167_n ?_
 intro Q hq1 hq2
 have h1:IntKind.u32.wrap ((BitVec.ofInt IntKind.u32.bits (r:Int)&&& BitVec.ofInt IntKind.u32.bits 1).toNat:Int)=((r % 2:Nat):Int):=w_and1 (k:=.u32) rfl hr
 have h2:binA .shr (.int .u32 (r:Int)) (.int .u64 1)=some (.int .u32 ((r / 2:Nat):Int)):=b_shrN (k:=.u32) (k':=.u64) (n:=r) (s:=1) (by decide)
 have h3:IntKind.u32.wrap ((BitVec.ofInt IntKind.u32.bits ((r / 2:Nat):Int) ^^^ BitVec.ofInt IntKind.u32.bits 3988292384).toNat:Int)=((r / 2 ^^^ DV:Nat):Int):=w_xor32 (b:=DV) (by omega) (by decide)
 by_cases h:r % 2=1
 ·have h4:(0:Int)<((r % 2:Nat):Int):=by omega
  simp(disch:=first|assumption|omega|(simp only[LN]<;>omega)|(simp(disch:=first|assumption|omega|(simp only[LN]<;>omega))only[row_alloc,row_set];assumption))only[f167,W_block,P3,↓reduceIte,reduceAdd,reduceEqDiff,reduceCtorEq,initFr,reduceLT,clsA,reduceLeDiff,reduceMul,reduceSub,reduceIte,h1,h2,h3,h4]
  exact hq2 _ _ ⟨_,rfl,by rw[ah,if_pos h];rfl,rfl⟩
 ·have h4:¬(0:Int)<((r % 2:Nat):Int):=by omega
  simp(disch:=first|assumption|omega|(simp only[LN]<;>omega)|(simp(disch:=first|assumption|omega|(simp only[LN]<;>omega))only[row_alloc,row_set];assumption))only[f167,W_block,P3,↓reduceIte,reduceAdd,reduceEqDiff,reduceCtorEq,initFr,reduceLT,clsA,reduceLeDiff,reduceMul,reduceSub,reduceIte,h1,h2,h3,h4]
  exact hq2 _ _ ⟨_,rfl,by rw[ah,if_neg h];rfl,rfl⟩
theorem t166(r:Nat)(hr:r<4294967296)(H:AHeap):∃v H',ARun Go.Proofs.Tryz.prog 0 166 [.int .u32 r,.func (.func 167) #[] #[]] H v H'∧v=.int .u32 (ei 8 r)∧H'=H:=by
 refine walk2 f166_ok f166_n ?_
 intro Q hq1 hq2
 simp(disch:=first|assumption|omega|(simp only[LN]<;>omega)|(simp(disch:=first|assumption|omega|(simp only[LN]<;>omega))only[row_alloc,row_set];assumption))only[f166,W_block,P3,↓reduceIte,reduceAdd,reduceEqDiff,reduceCtorEq,initFr,reduceLT,clsA,reduceLeDiff,reduceMul,reduceSub,reduceIte]
 refine W_loop2 (fun q fr K=>K=H∧∃(i s:Nat) (a:Value),i≤8∧q=8-i∧s<4294967296∧ei (8-i) s=ei 8 r∧fr=[.int .u32 s,.func (.func 167) #[] #[],.int .u32 0,.int .i64 i,a]) 8 ⟨rfl,0,r,undef,by omega,rfl,hr,rfl,rfl⟩ ?_
 rintro Q' q fr K ⟨rfl,i,s,a,hi,rfl,hs,he8,rfl⟩ hn he hrt
 by_cases hc:i<8
 ·simp(disch:=first|assumption|omega|(simp only[LN]<;>omega)|(simp(disch:=first|assumption|omega|(simp only[LN]<;>omega))only[row_alloc,row_set];assumption))only[W_block,P3,↓reduceIte,reduceAdd,reduceEqDiff,reduceCtorEq,initFr,reduceLT,clsA,reduceLeDiff,reduceMul,reduceSub,reduceIte]
  refine callK (t167 s hs K) ?_
  rintro _ _ ⟨rfl,rfl⟩
  simp(disch:=first|assumption|omega|(simp only[LN]<;>omega)|(simp(disch:=first|assumption|omega|(simp only[LN]<;>omega))only[row_alloc,row_set];assumption))only[W_block,P3,↓reduceIte,reduceAdd,reduceEqDiff,reduceCtorEq,initFr,reduceLT,clsA,reduceLeDiff,reduceMul,reduceSub,reduceIte,wrap_succ (n:=i) (by omega)]
  refine hn _ _ _ ⟨rfl,i+1,ah s,_,by omega,rfl,ah_lt hs,?_,rfl⟩ (by omega)
  rw[←he8,show 8-i=(8-(i+1))+1 by omega];rfl
 ·obtain rfl:i=8:=by omega
  simp(disch:=first|assumption|omega|(simp only[LN]<;>omega)|(simp(disch:=first|assumption|omega|(simp only[LN]<;>omega))only[row_alloc,row_set];assumption))only[W_block,P3,↓reduceIte,reduceAdd,reduceEqDiff,reduceCtorEq,initFr,reduceLT,clsA,reduceLeDiff,reduceMul,reduceSub,reduceIte]
  refine he _ _ _ ?_
  simp(disch:=first|assumption|omega|(simp only[LN]<;>omega)|(simp(disch:=first|assumption|omega|(simp only[LN]<;>omega))only[row_alloc,row_set];assumption))only[W_block,P3,↓reduceIte,reduceAdd,reduceEqDiff,reduceCtorEq,initFr,reduceLT,clsA,reduceLeDiff,reduceMul,reduceSub,reduceIte]
  exact hq2 _ _ ⟨_,rfl,by rw[←he8];rfl,rfl⟩
theorem t154{H:AHeap}{x:Value}{l:List UInt8}(hx:BS H x l)(hl:l.length≤1000000000):∃v H',ARun Go.Proofs.Tryz.prog 0 154 [x] H v H'∧v=.int .u32 (crc l)∧H'=H:=by
 refine walk2 f154_ok f154_n ?_
 intro Q hq1 hq2
 have hs:=hx.sl
 have his:=hs.is
 have hlen:=hs.len
 rw[List.length_map]at hlen
 simp(disch:=first|assumption|omega|(simp only[LN]<;>omega)|(simp(disch:=first|assumption|omega|(simp only[LN]<;>omega))only[row_alloc,row_set];assumption))only[f154,W_block,P3,↓reduceIte,reduceAdd,reduceEqDiff,reduceCtorEq,initFr,reduceLT,clsA,reduceLeDiff,reduceMul,reduceSub,reduceIte,hlen]
 refine W_loop2 (fun q fr K=>K=H∧∃(i:Nat) (y a:Value),i≤l.length∧q=l.length-i∧fr=[x,.int .u32 0,.int .u32 ((l.take i).foldl crcS 4294967295:Nat),y,x,.int .i64 l.length,.int .i64 i,a]) l.length ⟨rfl,0,undef,undef,by omega,rfl,rfl⟩ ?_
 rintro Q' q fr K ⟨rfl,i,y,a,hi,rfl,rfl⟩ hn he hrt
 have hr:=fold_lt (l.take i) (r:=4294967295) (by decide)
 generalize hR:(l.take i).foldl crcS 4294967295=R at hr ⊢
 by_cases hc:i<l.length
 ·obtain⟨hnn,hrow⟩:=hs.at_ (by omega) (i:=i) (by simpa using hc)
  rw[List.getElem_map]at hrow
  have hw:IntKind.u32.wrap (l[i].toNat:Int)=l[i].toNat:=by rw[wrap_u32];have:=l[i].toNat_lt;omega
  have hw2:=w_xor32 (a:=R) (b:=l[i].toNat) hr (by have:=l[i].toNat_lt;omega)
  simp(disch:=first|assumption|omega|(simp only[LN]<;>omega)|(simp(disch:=first|assumption|omega|(simp only[LN]<;>omega))only[row_alloc,row_set];assumption))only[W_block,P3,↓reduceIte,reduceAdd,reduceEqDiff,reduceCtorEq,initFr,reduceLT,clsA,reduceLeDiff,reduceMul,reduceSub,reduceIte,hlen,hw,hw2]
  refine callK (t166 _ (xc_lt hr l[i]) K) ?_
  rintro _ _ ⟨rfl,rfl⟩
  simp(disch:=first|assumption|omega|(simp only[LN]<;>omega)|(simp(disch:=first|assumption|omega|(simp only[LN]<;>omega))only[row_alloc,row_set];assumption))only[W_block,P3,↓reduceIte,reduceAdd,reduceEqDiff,reduceCtorEq,initFr,reduceLT,clsA,reduceLeDiff,reduceMul,reduceSub,reduceIte,wrap_succ (n:=i) (by omega)]
  refine hn _ _ _ ⟨rfl,i+1,.int .u8 l[i].toNat,.bool true,by omega,rfl,?_⟩ (by omega)
  rw[List.take_succ_eq_append_getElem hc,List.foldl_append,hR]
  rfl
 ·simp(disch:=first|assumption|omega|(simp only[LN]<;>omega)|(simp(disch:=first|assumption|omega|(simp only[LN]<;>omega))only[row_alloc,row_set];assumption))only[W_block,P3,↓reduceIte,reduceAdd,reduceEqDiff,reduceCtorEq,initFr,reduceLT,clsA,reduceLeDiff,reduceMul,reduceSub,reduceIte]
  refine he _ _ _ ?_
  have hw2:=w_xor32 (a:=4294967295) (b:=R) (by decide) hr
  simp(disch:=first|assumption|omega|(simp only[LN]<;>omega)|(simp(disch:=first|assumption|omega|(simp only[LN]<;>omega))only[row_alloc,row_set];assumption))only[W_block,P3,↓reduceIte,reduceAdd,reduceEqDiff,reduceCtorEq,initFr,reduceLT,clsA,reduceLeDiff,reduceMul,reduceSub,reduceIte,a_uxor]
  rw[List.take_of_length_le (by omega)]at hR
  exact hq2 _ _ ⟨_,rfl,by unfold crc crcL;rw[hR,←hw2];rfl,rfl⟩
def TB:List Nat:=[1996959894,3993919788,124634137,249268274,498536548,997073096,1994146192,3988292384]
def CTB:List Value:=[.int .u32 1996959894,.int .u32 3993919788,.int .u32 124634137,.int .u32 249268274,.int .u32 498536548,.int .u32 997073096,.int .u32 1994146192,.int .u32 3988292384]
def gk(u n:Nat):Nat→Nat
 |0=>n
 |k+1=>if u / 2 ^ k % 2=1 then gk u n k ^^^ TB.getD k 0 else gk u n k
theorem CTB_at{k:Nat}(h:k<8):CTB[k]? =some (.int .u32 (TB.getD k 0:Nat)):=by
 obtain rfl|rfl|rfl|rfl|rfl|rfl|rfl|rfl:k=0∨k=1∨k=2∨k=3∨k=4∨k=5∨k=6∨k=7:=by omega
 all_goals rfl
theorem TB_lt(k:Nat):TB.getD k 0<4294967296:=by
 by_cases h:k<8
 ·obtain rfl|rfl|rfl|rfl|rfl|rfl|rfl|rfl:k=0∨k=1∨k=2∨k=3∨k=4∨k=5∨k=6∨k=7:=by omega
  all_goals decide
 ·rw[List.getD_eq_getElem?_getD,List.getElem?_eq_none (by simp[TB];omega)];decide
theorem gk_lt{u n:Nat}(h:n<4294967296):∀k,gk u n k<4294967296
 |0=>h
 |k+1=>by
  rw[gk]
  split
  ·exact Nat.xor_lt_two_pow (n:=32) (gk_lt h k) (TB_lt k)
  ·exact gk_lt h k
theorem bit_half(x k:Nat):x / 2 ^ k / 2=x / 2 ^ (k+1):=by rw[Nat.div_div_eq_div_mul,Nat.pow_succ]
theorem xor_half(a b:Nat):(a ^^^ b) / 2=a / 2 ^^^ b / 2:=Nat.xor_div_two ..
theorem xor_par(a b:Nat):(a ^^^ b) % 2=(a % 2) ^^^ (b % 2):=Nat.xor_mod_two_pow (n:=1)
theorem ah_xor(a b:Nat):ah (a ^^^ b)=ah a ^^^ ah b:=by
 unfold ah
 rw[xor_half,xor_par]
 rcases Nat.mod_two_eq_zero_or_one a with h1|h1<;>rcases Nat.mod_two_eq_zero_or_one b with h2|h2<;>simp only[h1,h2,Nat.reduceXor,if_true,if_false,Nat.reduceEqDiff,Nat.zero_ne_one]
 ·rw[Nat.xor_assoc]
 ·rw[Nat.xor_assoc,Nat.xor_assoc,Nat.xor_comm DV]
 ·rw[show(a / 2 ^^^ DV) ^^^ (b / 2 ^^^ DV)=(a / 2 ^^^ b / 2) ^^^ (DV ^^^ DV) by rw[Nat.xor_assoc,Nat.xor_assoc,←Nat.xor_assoc DV,←Nat.xor_assoc (b / 2),Nat.xor_comm DV (b / 2)],Nat.xor_self,Nat.xor_zero]
theorem ei_xor:∀n a b,ei n (a ^^^ b)=ei n a ^^^ ei n b
 |0,_,_=>rfl
 |n+1,a,b=>by rw[ei,ah_xor,ei_xor n];rfl
def dd(k x:Nat):Nat:=if x / 2 ^ k % 2=1 then DV else 0
def tt(x k:Nat):Nat:=if x / 2 ^ k % 2=1 then TB.getD k 0 else 0
theorem ah_dd(x:Nat):ah x=x / 2 ^^^ dd 0 x:=by
 unfold ah dd
 rw[Nat.pow_zero,Nat.div_one]
 split
 ·rfl
 ·rw[Nat.xor_zero]
theorem ei_dd{m k:Nat}(x:Nat)(h:ei m DV=TB.getD k 0):ei m (dd k x)=tt x k:=by
 unfold dd tt
 split
 ·exact h
 ·have:∀n,ei n 0=0:=fun n=>by induction n with
   |zero=>rfl
   |succ n ih=>rw[ei,show ah 0=0 from rfl,ih]
  exact this m
theorem dd_half(x k:Nat):dd 0 (x / 2 ^ k)=dd k x:=by unfold dd;rw[Nat.pow_zero,Nat.div_one]
theorem ei_step(m k x:Nat)(h:ei m DV=TB.getD k 0):ei (m+1) (x / 2 ^ k)=ei m (x / 2 ^ (k+1)) ^^^ tt x k:=by
 rw[ei,ah_dd,dd_half,bit_half,ei_xor,ei_dd x h]
theorem ei8(x:Nat):ei 8 x=x / 256 ^^^ tt x 7 ^^^ tt x 6 ^^^ tt x 5 ^^^ tt x 4 ^^^ tt x 3 ^^^ tt x 2 ^^^ tt x 1 ^^^ tt x 0:=by
 have h:=ei_step 7 0 x (by decide)
 rw[Nat.pow_zero,Nat.div_one]at h
 rw[h,ei_step 6 1 x (by decide),ei_step 5 2 x (by decide),ei_step 4 3 x (by decide),ei_step 3 4 x (by decide),ei_step 2 5 x (by decide),ei_step 1 6 x (by decide),ei_step 0 7 x (by decide)]
 rfl
theorem gk_tt(u n k:Nat):gk u n (k+1)=gk u n k ^^^ tt u k:=by
 rw[gk,tt]
 split
 ·rfl
 ·rw[Nat.xor_zero]
theorem gk8(u n:Nat):gk u n 8=n ^^^ tt u 7 ^^^ tt u 6 ^^^ tt u 5 ^^^ tt u 4 ^^^ tt u 3 ^^^ tt u 2 ^^^ tt u 1 ^^^ tt u 0:=by
 rw[gk_tt,gk_tt,gk_tt,gk_tt,gk_tt,gk_tt,gk_tt,gk_tt,gk]
 ac_rfl
theorem crcS_gk(n:Nat)(c:UInt8):crcS n c=gk ((n % 256) ^^^ c.toNat) (n / 256) 8:=by
 have hc:=c.toNat_lt
 have h1:(n % 256) ^^^ c.toNat=(n ^^^ c.toNat) % 256:=by
  have:=Nat.xor_mod_two_pow (a:=n) (b:=c.toNat) (n:=8)
  rw[show 2 ^ 8=256 from rfl]at this
  rw[this,Nat.mod_eq_of_lt hc]
 have h2:n / 256=(n ^^^ c.toNat) / 256:=by
  have:=Nat.xor_div_two_pow (a:=n) (b:=c.toNat) (n:=8)
  rw[show 2 ^ 8=256 from rfl]at this
  rw[this,Nat.div_eq_of_lt hc,Nat.xor_zero]
 have h3:∀k,k<8→tt ((n ^^^ c.toNat) % 256) k=tt (n ^^^ c.toNat) k:=by
  intro k hk
  unfold tt
  have:(n ^^^ c.toNat) % 256 / 2 ^ k % 2=(n ^^^ c.toNat) / 2 ^ k % 2:=by
   generalize n ^^^ c.toNat=x
   obtain rfl|rfl|rfl|rfl|rfl|rfl|rfl|rfl:k=0∨k=1∨k=2∨k=3∨k=4∨k=5∨k=6∨k=7:=by omega
   all_goals (simp only[Nat.reducePow];omega)
  rw[this]
 unfold crcS
 rw[ei8,gk8,h1,h2,h3 0 (by omega),h3 1 (by omega),h3 2 (by omega),h3 3 (by omega),h3 4 (by omega),h3 5 (by omega),h3 6 (by omega),h3 7 (by omega)]
theorem fillTB:fillA [(.int .u32 0),(.int .u32 0),(.int .u32 0),(.int .u32 0),(.int .u32 0),(.int .u32 0),(.int .u32 0),(.int .u32 0)] [(0,1,.int .u32 1996959894),(1,1,.int .u32 3993919788),(2,1,.int .u32 124634137),(3,1,.int .u32 249268274),(4,1,.int .u32 498536548),(5,1,.int .u32 997073096),(6,1,.int .u32 1994146192),(7,1,.int .u32 3988292384)]=some CTB:=rfl
theorem CTB_o:(CTB.all Value.oneCell'=true∧CTB.length=8)=True:=by simp[CTB,Value.oneCell']
theorem CTB_n:CTB.length=8:=rfl
theorem t157{H:AHeap}{x:Value}{l:List UInt8}(hx:BS H x l)(n:Nat)(hn:n<4294967296)(hl:l.length≤1000000000):∃v H',ARun Go.Proofs.Tryz.prog 0 157 [.int .u32 n,x] H v H'∧v=.int .u32 (l.foldl crcS n:Nat)∧Keeps H H':=by
 refine walk2 f157_ok f157_n ?_
 intro Q hq1 hq2
 have his:=hx.sl.is
 have hlen:=hx.sl.len
 rw[List.length_map]at hlen
 simp(disch:=first|assumption|omega|(simp only[LN]<;>omega)|(simp(disch:=first|assumption|omega|(simp only[LN]<;>omega))only[row_alloc,row_set];assumption))only[f157,W_block,P3,↓reduceIte,reduceAdd,reduceEqDiff,reduceCtorEq,initFr,reduceLT,clsA,reduceLeDiff,reduceMul,reduceSub,reduceIte,hlen,fillTB,CTB_o]
 obtain⟨Ha,hHa⟩:∃X,X=H.alloc (.cells true false 1 CTB 87):=⟨_,rfl⟩
 have ka:=(Keeps.refl H).alloc (.cells true false 1 CTB 87)
 have g:=AHeap.get_alloc_new H (.cells true false 1 CTB 87)
 rw[←hHa]at ka g ⊢
 have la:=AHeap.get_lt g
 have hs:=hx.sl.keeps ka
 refine W_loop2 (fun q fr K=>K=Ha∧∃(i:Nat) (u k a b e:Value),i≤l.length∧q=l.length-i∧fr=[.int .u32 ((l.take i).foldl crcS n:Nat),x,.int .u32 0,slc H.n 0 8 8,.int .i64 i,u,k,a,b,e]) l.length ⟨rfl,0,undef,undef,undef,undef,undef,by omega,rfl,rfl⟩ ?_
 rintro Q' q fr K ⟨rfl,i,u,k,a,b,e,hi,rfl,rfl⟩ hn' he hrt
 have hr:=fold_lt (l.take i) hn
 generalize hR:(l.take i).foldl crcS n=R at hr ⊢
 by_cases hc:i<l.length
 ·obtain⟨hnn,hrow⟩:=hs.at_ (by omega) (i:=i) (by simpa using hc)
  rw[List.getElem_map]at hrow
  have hw:IntKind.u8.wrap (R:Int)=((R % 256:Nat):Int):=by rw[wrap_u8];omega
  have hw2:=w_xor8 (a:=R % 256) (b:=l[i].toNat) (by omega) (by have:=l[i].toNat_lt;omega)
  have hw3:binA .shr (.int .u32 (R:Int)) (.int .u64 8)=some (.int .u32 ((R / 256:Nat):Int)):=b_shrN (k:=.u32) (k':=.u64) (n:=R) (s:=8) (by decide)
  simp(disch:=first|assumption|omega|(simp only[LN]<;>omega)|(simp(disch:=first|assumption|omega|(simp only[LN]<;>omega))only[row_alloc,row_set];assumption))only[W_block,P3,↓reduceIte,reduceAdd,reduceEqDiff,reduceCtorEq,initFr,reduceLT,clsA,reduceLeDiff,reduceMul,reduceSub,reduceIte,hlen,hw,hw2,hw3]
  have hU:R % 256 ^^^ l[i].toNat<256:=Nat.xor_lt_two_pow (n:=8) (by omega) (by have:=l[i].toNat_lt;omega)
  have hS:crcS R l[i]=gk (R % 256 ^^^ l[i].toNat) (R / 256) 8:=crcS_gk R l[i]
  generalize R % 256 ^^^ l[i].toNat=U at hU hS ⊢
  refine W_loop2 (fun q fr K'=>K'=K∧∃(k:Nat) (b e:Value),k≤8∧q=8-k∧fr=[.int .u32 (gk U (R / 256) k:Nat),x,.int .u32 0,slc H.n 0 8 8,.int .i64 i,.int .u8 (U:Nat),.int .i64 k,.bool true,b,e]) 8 ⟨rfl,0,_,_,by omega,rfl,rfl⟩ ?_
  rintro Q2 q fr K' ⟨rfl,k,b,e,hk,rfl,rfl⟩ hn2 he2 hr2
  have hG:=gk_lt (u:=U) (n:=R / 256) (by omega) k
  by_cases hk8:k<8
  ·have h1:binA .shr (.int .u8 (U:Int)) (.int .i64 (k:Int))=some (.int .u8 ((U / 2 ^ k:Nat):Int)):=b_shrN (k:=.u8) (k':=.i64) (by show k≤8;omega)
   have h2:IntKind.u8.wrap ((BitVec.ofInt IntKind.u8.bits ((U / 2 ^ k:Nat):Int)&&& BitVec.ofInt IntKind.u8.bits 1).toNat:Int)=((U / 2 ^ k % 2:Nat):Int):=w_and1 (k:=.u8) rfl (Nat.lt_of_le_of_lt (Nat.div_le_self ..) hU)
   have h3:=CTB_at hk8
   have h4:=w_xor32 hG (TB_lt k)
   by_cases hb:U / 2 ^ k % 2=1
   ·have h5:((U / 2 ^ k % 2:Nat):Int)=1:=by omega
    simp(disch:=first|assumption|omega|(simp only[LN]<;>omega)|(simp(disch:=first|assumption|omega|(simp only[LN]<;>omega))only[row_alloc,row_set];assumption))only[W_block,P3,↓reduceIte,reduceAdd,reduceEqDiff,reduceCtorEq,initFr,reduceLT,clsA,reduceLeDiff,reduceMul,reduceSub,reduceIte,h1,h2,h3,h4,h5,g,CTB_n,wrap_succ (n:=k) (by omega)]
    refine hn2 _ _ _ ⟨rfl,k+1,.bool true,.bool true,by omega,rfl,?_⟩ (by omega)
    rw[gk,if_pos hb]
   ·have h5:((U / 2 ^ k % 2:Nat):Int)≠1:=by omega
    simp(disch:=first|assumption|omega|(simp only[LN]<;>omega)|(simp(disch:=first|assumption|omega|(simp only[LN]<;>omega))only[row_alloc,row_set];assumption))only[W_block,P3,↓reduceIte,reduceAdd,reduceEqDiff,reduceCtorEq,initFr,reduceLT,clsA,reduceLeDiff,reduceMul,reduceSub,reduceIte,h1,h2,h3,h4,h5,g,CTB_n,wrap_succ (n:=k) (by omega)]
    refine hn2 _ _ _ ⟨rfl,k+1,.bool true,.bool false,by omega,rfl,?_⟩ (by omega)
    rw[gk,if_neg hb]
  ·obtain rfl:k=8:=by omega
   simp(disch:=first|assumption|omega|(simp only[LN]<;>omega)|(simp(disch:=first|assumption|omega|(simp only[LN]<;>omega))only[row_alloc,row_set];assumption))only[W_block,P3,↓reduceIte,reduceAdd,reduceEqDiff,reduceCtorEq,initFr,reduceLT,clsA,reduceLeDiff,reduceMul,reduceSub,reduceIte]
   refine he2 _ _ _ ?_
   simp(disch:=first|assumption|omega|(simp only[LN]<;>omega)|(simp(disch:=first|assumption|omega|(simp only[LN]<;>omega))only[row_alloc,row_set];assumption))only[W_block,P3,↓reduceIte,reduceAdd,reduceEqDiff,reduceCtorEq,initFr,reduceLT,clsA,reduceLeDiff,reduceMul,reduceSub,reduceIte,wrap_succ (n:=i) (by omega)]
   refine hn' _ _ _ ⟨rfl,i+1,.int .u8 (U:Nat),.int .i64 8,.bool true,.bool false,e,by omega,rfl,?_⟩ (by omega)
   rw[List.take_succ_eq_append_getElem hc,List.foldl_append,hR]
   simp only[List.foldl_cons,List.foldl_nil,hS]
   rfl
 ·simp(disch:=first|assumption|omega|(simp only[LN]<;>omega)|(simp(disch:=first|assumption|omega|(simp only[LN]<;>omega))only[row_alloc,row_set];assumption))only[W_block,P3,↓reduceIte,reduceAdd,reduceEqDiff,reduceCtorEq,initFr,reduceLT,clsA,reduceLeDiff,reduceMul,reduceSub,reduceIte,hlen]
  refine he _ _ _ ?_
  simp(disch:=first|assumption|omega|(simp only[LN]<;>omega)|(simp(disch:=first|assumption|omega|(simp only[LN]<;>omega))only[row_alloc,row_set];assumption))only[W_block,P3,↓reduceIte,reduceAdd,reduceEqDiff,reduceCtorEq,initFr,reduceLT,clsA,reduceLeDiff,reduceMul,reduceSub,reduceIte]
  rw[List.take_of_length_le (by omega)]at hR
  exact hq2 _ _ ⟨_,rfl,by rw[hR];rfl,ka⟩
theorem t125{H:AHeap}{x:Value}{l:List UInt8}(hx:BS H x l)(hl:l.length≤1000000000):∃v H',ARun Go.Proofs.Tryz.prog 0 125 [x] H v H'∧v=.int .u32 (crc l)∧Keeps H H':=by
 refine walk2 f125_ok f125_n ?_
 intro Q hq1 hq2
 simp(disch:=first|assumption|omega|(simp only[LN]<;>omega)|(simp(disch:=first|assumption|omega|(simp only[LN]<;>omega))only[row_alloc,row_set];assumption))only[f125,W_block,P3,↓reduceIte,reduceAdd,reduceEqDiff,reduceCtorEq,initFr,reduceLT,clsA,reduceLeDiff,reduceMul,reduceSub,reduceIte]
 refine callK (t157 hx 4294967295 (by decide) hl) ?_
 rintro _ K ⟨rfl,k⟩
 have hw2:=w_xor32 (a:=4294967295) (b:=l.foldl crcS 4294967295) (by decide) (fold_lt l (by decide))
 simp(disch:=first|assumption|omega|(simp only[LN]<;>omega)|(simp(disch:=first|assumption|omega|(simp only[LN]<;>omega))only[row_alloc,row_set];assumption))only[W_block,P3,↓reduceIte,reduceAdd,reduceEqDiff,reduceCtorEq,initFr,reduceLT,clsA,reduceLeDiff,reduceMul,reduceSub,reduceIte,a_uxor]
 exact hq2 _ _ ⟨_,rfl,by unfold crc crcL;rw[←hw2];rfl,k⟩
end Go.AM.Fd

set_option linter.unusedSimpArgs false
set_option linter.unusedVariables false
namespace Go.AM
def via(ρ:Nat→Option Nat)(σ:Sg):Sg:=fun b=>(ρ b).bind σ
theorem via_of{ρ:Nat→Option Nat}{σ:Sg}{b c:Nat}{i:BI}(h:ρ b=some c)(k:σ c=some i):via ρ σ b=some i:=by
 unfold via;rw[h];exact k
theorem via_inv{ρ:Nat→Option Nat}{σ:Sg}{b:Nat}{i:BI}(h:via ρ σ b=some i):∃c,ρ b=some c∧σ c=some i:=by
 unfold via at h
 cases hb:ρ b with
 |none=>rw[hb]at h;cases h
 |some c=>rw[hb]at h;exact⟨c,rfl,h⟩
inductive NV (ρ:Nat→Option Nat):Value→Value→Prop
 |bool (b:Bool):NV ρ (.bool b) (.bool b)
 |int (k:IntKind) (n:Int):NV ρ (.int k n) (.int k n)
 |string (s:ByteArray):NV ρ (.string s) (.string s)
 |nilPtr:NV ρ (.pointer none) (.pointer none)
 |ptr {b c o:Nat} (h:ρ b=some c):NV ρ (.pointer (some ⟨b,o,none⟩)) (.pointer (some ⟨c,o,none⟩))
 |nilSl:NV ρ (.slice none 0 0) (.slice none 0 0)
 |sl {b c o n k:Nat} (h:ρ b=some c):NV ρ (.slice (some ⟨b,o,none⟩) n k) (.slice (some ⟨c,o,none⟩) n k)
 |slz {x:Addr} (hx:x.spot.isSome=true):NV ρ (.slice (some x) 0 0) (.slice (some x) 0 0)
 |nilMap:NV ρ (.map none) (.map none)
 |map {b c:Nat} (h:ρ b=some c):NV ρ (.map (some b)) (.map (some c))
 |func (fn:Fn) (xs xs' ys ys':Array Value) (h1:xs.size=xs'.size) (h2:∀i (a:i<xs.size) (b:i<xs'.size),NV ρ xs[i] xs'[i])
  (h3:ys.size=ys'.size) (h4:∀i (a:i<ys.size) (b:i<ys'.size),NV ρ ys[i] ys'[i]):NV ρ (.func fn xs ys) (.func fn xs' ys')
 |nilFunc:NV ρ .nilFunc .nilFunc
 |iface (t:TypeId) {v v':Value} (h:NV ρ v v'):NV ρ (.iface t v) (.iface t v')
 |nilIface:NV ρ .nilIface .nilIface
 |agg (xs xs':Array Value) (h1:xs.size=xs'.size) (h2:∀i (a:i<xs.size) (b:i<xs'.size),NV ρ xs[i] xs'[i]):NV ρ (.agg xs) (.agg xs')
 |tuple (xs xs':Array Value) (h1:xs.size=xs'.size) (h2:∀i (a:i<xs.size) (b:i<xs'.size),NV ρ xs[i] xs'[i]):NV ρ (.tuple xs) (.tuple xs')
inductive NL (ρ:Nat→Option Nat):List Value→List Value→Prop
 |nil:NL ρ [] []
 |cons {v v':Value} {l l':List Value} (h:NV ρ v v') (t:NL ρ l l'):NL ρ (v::l) (v'::l')
theorem NV.via{ρ:Nat→Option Nat}{σ:Sg}{a b:Value}(h:NV ρ a b):∀{c:Value},VR σ b c→VR (AM.via ρ σ) a c:=by
 induction h with
 |bool b=>intro c k;cases k;exact .bool _
 |int k n=>intro c k;cases k;exact .int _ _
 |string s=>intro c k;cases k;exact .string _
 |nilPtr=>intro c k;cases k;exact .nilPtr
 |ptr e=>intro c k;cases k with|ptr e2=>exact .ptr (via_of e e2)
 |nilSl=>intro c k;cases k;exact .nilSl
 |sl e=>
  intro c k
  cases k with
  |sl e2 hn2 hk2=>exact .sl (via_of e e2) hn2 hk2
  |sl0 e2=>exact .sl0 (via_of e e2)
  |slz hx=>simp at hx
 |slz hx=>
  intro c k
  cases k with
  |sl e2 hn2 hk2=>simp at hx
  |sl0 e2=>exact .slz hx
  |slz _=>exact .slz hx
 |nilMap=>intro c k;cases k;exact .nilMap
 |map e=>intro c k;cases k with|map e2=>exact .map (via_of e e2)
 |func fn xs xs' ys ys' h1 _ h3 _ i2 i4=>
  intro c k
  cases k with
  |func _ _ zs _ us g1 g2 g3 g4=>exact .func fn xs zs ys us (by omega) (fun i a b=>i2 i a (by omega) (g2 i (by omega) b)) (by omega) (fun i a b=>i4 i a (by omega) (g4 i (by omega) b))
 |nilFunc=>intro c k;cases k;exact .nilFunc
 |iface t _ ih=>intro c k;cases k with|iface _ k=>exact .iface t (ih k)
 |nilIface=>intro c k;cases k;exact .nilIface
 |agg xs xs' h1 _ ih=>
  intro c k
  cases k with
  |agg _ zs g1 g2=>exact .agg xs zs (by omega) (fun i a b=>ih i a (by omega) (g2 i (by omega) b))
 |tuple xs xs' h1 _ ih=>
  intro c k
  cases k with
  |tuple _ zs g1 g2=>exact .tuple xs zs (by omega) (fun i a b=>ih i a (by omega) (g2 i (by omega) b))
theorem NL.via{ρ:Nat→Option Nat}{σ:Sg}{a b:List Value}(h:NL ρ a b):∀{c:List Value},VL σ b c→VL (AM.via ρ σ) a c:=by
 induction h with
 |nil=>intro c k;cases k;exact .nil
 |cons h _ ih=>intro c k;cases k with|cons k1 k2=>exact .cons (h.via k1) (ih k2)
theorem NL.length{ρ:Nat→Option Nat}{a b:List Value}(h:NL ρ a b):a.length=b.length:=by
 induction h with
 |nil=>rfl
 |cons _ _ ih=>simp[ih]
theorem NL.one{ρ:Nat→Option Nat}{a b:List Value}(h:NL ρ a b)(hb:∀v∈b,v.oneCell'=true):∀v∈a,v.oneCell'=true:=by
 induction h with
 |nil=>simp
 |cons h _ ih=>
  intro v hv
  rcases List.mem_cons.1 hv with rfl|hv
  ·have:=hb _ (List.mem_cons_self ..)
   cases h<;>first|exact this|rfl
  ·exact ih (fun v hv=>hb v (List.mem_cons_of_mem _ hv)) v hv
inductive NE (ρ:Nat→Option Nat):List MapEntry→List MapEntry→Prop
 |nil:NE ρ [] []
 |cons {e e':MapEntry} {l l':List MapEntry} (hk:e'.key=e.key) (hb:e'.born=e.born) (h:NV ρ e.val e'.val) (t:NE ρ l l'):NE ρ (e::l) (e'::l')
theorem NE.via{ρ:Nat→Option Nat}{σ:Sg}{a b:List MapEntry}(h:NE ρ a b):∀{c:List MapEntry},ML σ b c→ML (AM.via ρ σ) a c:=by
 induction h with
 |nil=>intro c k;cases k;exact .nil
 |cons hk hb h _ ih=>intro c k;cases k with|cons k1 k2 k3 k4=>exact .cons (k1.trans hk) (k2.trans hb) (h.via k3) (ih k4)
def NO(ρ:Nat→Option Nat)(o o2:Obj):Prop:=match o with
 | .map es k=>∃es2,o2=.map es2 k∧NE ρ es.toList es2.toList
 |o=>o2=o
theorem NO.via{ρ:Nat→Option Nat}{σ:Sg}{o o2 o':Obj}(h:NO ρ o o2)(k:JR σ o2 o'):JR (AM.via ρ σ) o o':=by
 cases o with
 |map es c=>
  obtain⟨es2,rfl,h2⟩:=h
  obtain⟨es',rfl,k2⟩:=k
  exact⟨es',rfl,h2.via k2⟩
 |_=>cases h;exact k
def AOr(ρ:Nat→Option Nat)(a b:AO):Prop:=match a with
 | .dead=>True
 | .cells own room esz c e=>∃own' c',b=.cells own' room esz c' e∧(own=true→own'=true)∧NL ρ c c'
 | .obj own o=>∃own' o2,b=.obj own' o2∧(own=true→own'=true)∧NO ρ o o2
 | .loop .. =>False
theorem AOr.own{ρ:Nat→Option Nat}{a b:AO}(h:AOr ρ a b)(ha:a.own=true):b.own=true:=by
 cases a with
 |dead=>cases ha
 |cells own room esz c e=>obtain⟨own',c',rfl,h1,_⟩:=h;exact h1 ha
 |obj own o=>obtain⟨own',o2,rfl,h1,_⟩:=h;exact h1 ha
 |loop own st pe L=>exact h.elim
theorem AOr.live{ρ:Nat→Option Nat}{a b:AO}(h:AOr ρ a b)(ha:a.live=true):b.live=true:=by
 cases a with
 |dead=>cases ha
 |cells own room esz c e=>obtain⟨own',c',rfl,h1,_⟩:=h;rfl
 |obj own o=>obtain⟨own',o2,rfl,h1,_⟩:=h;rfl
 |loop own st pe L=>exact h.elim
theorem AOr.or{ρ:Nat→Option Nat}{a b:AO}(h:AOr ρ a b){σ:Sg}{w:World}{i:BI}(k:OR σ w i b):OR (AM.via ρ σ) w i a:=by
 cases a with
 |dead=>trivial
 |cells own room esz c e=>
  obtain⟨own',c',rfl,h1,h2⟩:=h
  obtain⟨a1,a2,a3,a4,a9,d,fr,a5,a6,a7,a8⟩:=k
  have hl:=h2.length
  exact⟨by rw[hl];exact a1,a2,a3,by rw[hl];exact a4,h2.one a9,d,fr,a5,a6,by rw[hl];exact h2.via a7,fun ho=>by rw[hl];exact a8 (h1 ho)⟩
 |obj own o=>
  obtain⟨own',o2,rfl,h1,h2⟩:=h
  obtain⟨o',k1,k2,k3⟩:=k
  exact⟨o',k1,h2.via k2,k3⟩
 |loop own st pe L=>exact h.elim
variable {P:Program} {ng:Nat} {f:FuncId} {args:List Value} {H H' H'':AHeap} {v v'':Value}
def Stood(ng:Nat)(args:List Value)(H:AHeap)(v:Value):Prop:=∀(σ:Sg) (w:World) (args':List Value),HR ng σ H.get w→VL σ args args'→∃x,VR σ v x
theorem ARun.gc(h:ARun P ng f args H v H')(ρ:Nat→Option Nat)(hn:H.n≤H''.n)
 (r0:∀b,b<H.n→ρ b=some b) (r1:∀b c,ρ b=some c→b<H''.n∧(H.n≤b→H.n≤c)) (ri:∀b1 b2 c,ρ b1=some c→ρ b2=some c→b1=b2)
 (ro:∀b c o',ρ b=some c→H'.get c=some o'→(b=c∧b<H.n∧H.get b=some o'∧H''.get b=some o')∨∃o'',H''.get b=some o''∧AOr ρ o'' o')
 (rv:(v''=v∧Stood ng args H v)∨NV ρ v'' v):ARun P ng f args H v'' H'':=by
 obtain⟨h0,h1,h2⟩:=h
 refine⟨h0,hn,fun σ w args' hr ha=>?_⟩
 refine(h2 σ w args' hr ha).mono ?_
 rintro e w' ⟨v',σ',rfl,k1,k2,k3⟩
 have old:∀b i,σ b=some i→b<H.n:=fun b i hb=>by
  obtain⟨o,g,_⟩:=hr.obj b i hb
  exact AHeap.get_lt g
 have sub:σ.le (AM.via ρ σ'):=fun b i hb=>via_of (r0 b (old b i hb)) (k2.sub b i hb)
 have back:∀b i,b<H.n→σ' b=some i→σ b=some i:=fun b i hb hs=>by
  cases hsb:σ b with
  |none=>have:=(k2.new b i hsb hs).1.1;omega
  |some j=>have:=k2.sub b j hsb;rw[hs]at this;exact this.symm
 have meet_le:(meet σ' σ).le (AM.via ρ σ'):=fun b i hb=>by
  unfold meet at hb
  split at hb
  ·rename_i hs
   obtain⟨j,hj⟩:=Option.isSome_iff_exists.1 hs
   exact via_of (r0 b (old b j hj)) hb
  ·cases hb
 have obj:∀b i,AM.via ρ σ' b=some i→∃c o'' o',ρ b=some c∧σ' c=some i∧H''.get b=some o''∧H'.get c=some o'∧OR (AM.via ρ σ') w' i o''∧(o''.own=true→o'.own=true)∧(o''.live=true→o'.live=true):=by
  intro b i hb
  obtain⟨c,hc,hs⟩:=via_inv hb
  obtain⟨o',g1,g2⟩:=k1.obj c i hs
  rcases ro b c o' hc g1 with⟨rfl,hlt,e1,e2⟩|⟨o'',e1,e2⟩
  ·refine⟨b,o',o',hc,hs,e2,g1,?_,fun x=>x,fun x=>x⟩
   have hsb:=back b i hlt hs
   obtain⟨o2,f1,f2⟩:=hr.obj b i hsb
   rw[e1]at f1;cases f1
   exact(g2.meet f2).mono meet_le
  ·exact⟨c,o'',o',hc,hs,e1,g1,e2.or g2,e2.own,e2.live⟩
 refine⟨v',AM.via ρ σ',rfl,⟨?_,?_,?_,?_⟩,⟨sub,?_,?_,?_,k2.keep,k2.size,hn,k2.os,k2.tape,k2.output⟩,?_⟩
 ·intro b i hb
  obtain⟨c,o'',o',_,_,e1,_,e2,_⟩:=obj b i hb
  exact⟨o'',e1,e2⟩
 ·intro b1 b2 i1 i2 o1 o2 hne hb1 hb2 ho1 ho2 hw hl
  obtain⟨c1,p1,q1,a1,a2,a3,a4,_,a5,_⟩:=obj b1 i1 hb1
  obtain⟨c2,p2,q2,d1,d2,d3,d4,_,_,d6⟩:=obj b2 i2 hb2
  rw[ho1]at a3;cases a3
  rw[ho2]at d3;cases d3
  exact k1.inj c1 c2 i1 i2 q1 q2 (fun hc=>by subst hc;exact hne (ri b1 b2 c1 a1 d1)) a2 d2 a4 d4 (a5 hw) (d6 hl)
 ·intro b i hb
  obtain⟨c,_,hs⟩:=via_inv hb
  exact k1.lt c i hs
 ·intro g hg
  obtain⟨i,g1,g2,g3⟩:=hr.glob g hg
  exact⟨i,sub g i g1,g2,g3⟩
 ·intro b i hb hs
  obtain⟨c,hc,hs'⟩:=via_inv hs
  by_cases hlt:b<H.n
  ·have:=r0 b hlt
   rw[hc]at this;cases this
   rw[back b i hlt hs']at hb;cases hb
  ·have hcn:=(r1 b c hc).2 (by omega)
   have hsc:σ c=none:=by
    cases hsc:σ c with
    |none=>rfl
    |some j=>have:=old c j hsc;omega
   exact⟨⟨by omega,(r1 b c hc).1⟩,(k2.new c i hsc hs').2⟩
 ·intro b i o'' hb ho hw
  obtain⟨c,p1,q1,a1,a2,a3,a4,_,a5,_⟩:=obj b i (sub b i hb)
  rw[r0 b (old b i hb)]at a1;cases a1
  rw[ho]at a3;cases a3
  exact k2.own b i q1 hb a4 (a5 hw)
 ·intro b i o'' hb ho hw
  obtain⟨c,p1,q1,a1,a2,a3,a4,_,_,a6⟩:=obj b i (sub b i hb)
  rw[r0 b (old b i hb)]at a1;cases a1
  rw[ho]at a3;cases a3
  exact k2.live b i q1 hb a4 (a6 hw)
 ·rcases rv with⟨rfl,hst⟩|hrv
  ·obtain⟨x,hx⟩:=hst σ w args' hr ha
   exact(k3.meet hx).mono meet_le
  ·exact hrv.via k3
theorem NV.plain{ρ:Nat→Option Nat}{v:Value}(h:plain1 v=true):NV ρ v v:=by
 unfold plain1 at h
 split at h<;>first|constructor|cases h
theorem NL.plain{ρ:Nat→Option Nat}:∀{l:List Value},l.all plain1=true→NL ρ l l
 |[],_=>.nil
 |v::l,h=>by
  simp only[List.all_cons,Bool.and_eq_true]at h
  exact .cons (NV.plain h.1) (NL.plain h.2)
theorem NL.get{ρ:Nat→Option Nat}{l l':List Value}(h:NL ρ l l'):∀(i:Nat) (a:i<l.length) (b:i<l'.length),NV ρ l[i] l'[i]:=by
 induction h with
 |nil=>intro i a;simp at a
 |cons h _ ih=>
  intro i a b
  cases i with
  |zero=>exact h
  |succ i=>exact ih i (by simpa using a) (by simpa using b)
theorem NV.agg_of{ρ:Nat→Option Nat}{l l':List Value}(h:NL ρ l l'):NV ρ (.agg l.toArray) (.agg l'.toArray):=
 .agg _ _ (by simpa using h.length) (fun i a b=>by simpa using h.get i (by simpa using a) (by simpa using b))
theorem NV.tuple_of{ρ:Nat→Option Nat}{l l':List Value}(h:NL ρ l l'):NV ρ (.tuple l.toArray) (.tuple l'.toArray):=
 .tuple _ _ (by simpa using h.length) (fun i a b=>by simpa using h.get i (by simpa using a) (by simpa using b))
def rho(n:Nat)(bs:List Nat):Nat→Option Nat:=fun b=>if b<n then some b else bs[b-n]?
theorem rho_old{n:Nat}{bs:List Nat}{b:Nat}(h:b<n):rho n bs b=some b:=by unfold rho;rw[if_pos h]
theorem ARun.gc0(h:ARun P ng f args H v H')(k:Keeps H H')(hv:Stood ng args H v∨NV (rho H.n []) v v):ARun P ng f args H v H:=by
 refine h.gc (rho H.n []) (Nat.le_refl _) (fun b hb=>rho_old hb) ?_ ?_ ?_ ?_
 ·intro b c hb
  unfold rho at hb
  split at hb
  ·cases hb;exact⟨by assumption,by omega⟩
  ·simp at hb
 ·intro b1 b2 c h1 h2
  unfold rho at h1 h2
  split at h1<;>split at h2<;>simp_all
 ·intro b c o' hb ho
  unfold rho at hb
  split at hb
  ·rename_i hlt
   cases hb
   have:=k.get b hlt
   rw[ho]at this
   exact .inl ⟨rfl,hlt,this.symm,this.symm⟩
  ·simp at hb
 ·rcases hv with hv|hv
  ·exact .inl ⟨rfl,hv⟩
  ·exact .inr hv
structure OB (e:Nat) (H K:AHeap) (v:Value) (l:List UInt8):Prop where
 ap:AP K e 1 v l.length (cellsOf l)
 k:Keeps H K
 f:Fresh H.n v
theorem OB.bs{e:Nat}{H K:AHeap}{v:Value}{l:List UInt8}(h:OB e H K v l):BS K v l:=h.ap.bs
theorem OB.keeps{e:Nat}{H K K':AHeap}{v:Value}{l:List UInt8}(h:OB e H K v l)(k:Keeps K K'):OB e H K' v l:=⟨h.ap.keeps k,h.k.trans k,h.f⟩
theorem OB.base{e:Nat}{H0 H K:AHeap}{v:Value}{l:List UInt8}(h:OB e H K v l)(k:Keeps H0 H):OB e H0 K v l:=⟨h.ap,k.trans h.k,fun b hb=>Nat.le_trans k.n (h.f b hb)⟩
theorem OB.nil(e:Nat)(H:AHeap):OB e H H (.slice none 0 0) []:=⟨.inl ⟨rfl,rfl,rfl⟩,Keeps.refl _,fun b hb=>by cases hb⟩
theorem OB.lit{e:Nat}{H K:AHeap}(k:Keeps H K){l:List UInt8}{c:List Value}{n b:Nat}(hc:c=cellsOf l)(hn:n=l.length)(hb:b=K.n)(room:Bool):OB e H (K.alloc (.cells true room 1 c e)) (slc b 0 n n) l:=by
 subst hc;subst hn;subst hb
 exact⟨.inr ⟨K.n,room,rfl,by rw[cellsOf_length,Nat.mul_one],AHeap.get_alloc_new K _⟩,k.trans ((Keeps.refl K).alloc _),fun b hb=>by cases hb;exact k.n⟩
theorem OB.is{e:Nat}{H K:AHeap}{v:Value}{l:List UInt8}(h:OB e H K v l):isS v=true:=by obtain⟨a,rfl⟩:=h.ap.shape;rfl
theorem OB.len{e:Nat}{H K:AHeap}{v:Value}{l:List UInt8}(h:OB e H K v l):lenS v=l.length:=by obtain⟨a,rfl⟩:=h.ap.shape;rfl
theorem OB.grow{e:Nat}{H K K':AHeap}{v v':Value}{l m:List UInt8}(h:OB e H K v l)(a:AP K' e 1 v' (l.length+m.length) (cellsOf l++cellsOf m))(c:Chg (blkL v) K K')(hb:blk v'=blk v∨blk v'=some K.n):OB e H K' v' (l++m):=by
 refine⟨by rw[List.length_append,cellsOf_append];exact a,h.k.chg_trans c (fun x hx=>h.f x (mem_blkL.1 hx)),fun b hb'=>?_⟩
 rcases hb with e1|e1
 ·exact h.f b (by rw[←e1];exact hb')
 ·rw[e1]at hb';cases hb';exact h.k.n
section
variable {KF:List Value→AHeap→Prop} {fr tm:List Value} {tr:List TE} {K:AHeap}
theorem OB.appR{d:D}{r:List AOper}{e:Nat}{s x:Value}{l m:List UInt8}(h:OB e H K s l)(hx:BS K x m)(hs:l.length+m.length≤1000000000)
 (hk:∀v' K',OB e H K' v' (l++m)→RW P ng r (d.frame v' fr) (d.temps v' tm) K' KF):goR P ng (asem (.app e 1 1 s x) K) d r fr tm KF:=
 appG h.ap hx.sh hx.el (by rw[cellsOf_length,Nat.mul_one]) (by omega) (fun v' K' a c hb=>hk v' K' (h.grow a c hb))
theorem OB.appsR{d:D}{r:List AOper}{e:Nat}{s:Value}{l m:List UInt8}(h:OB e H K s l)(hs:l.length+m.length≤1000000000)
 (hk:∀v' K',OB e H K' v' (l++m)→RW P ng r (d.frame v' fr) (d.temps v' tm) K' KF):goR P ng (asem (.apps e 1 s (.string ⟨m.toArray⟩)) K) d r fr tm KF:=by
 obtain⟨v',K',e1,e2,e3,e4⟩:=h.ap.app (m:=m.length) (news:=cellsOf m) (bytes:=1) (by rw[cellsOf_length,Nat.mul_one]) (by omega)
 exact⟨v',K',e1,hk v' K' (h.grow e2 e3 e4)⟩
end
theorem cells1{a:Nat}(ha:a<256):[Value.int .u8 (a:Nat)]=cellsOf [UInt8.ofNat a]:=by
 simp only[cellsOf,List.map_cons,List.map_nil,UInt8.toNat_ofNat']
 rw[Nat.mod_eq_of_lt (by omega)]
end Go.AM
