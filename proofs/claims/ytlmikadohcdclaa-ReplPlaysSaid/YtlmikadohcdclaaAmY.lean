/- The abstract machine, part Y: walks that stop where something is not known: each step has a head of its own, so that what comes behind is left alone till then. -/
import Derived.Test.YtlmikadohcdclaaAmX
set_option linter.unusedSimpArgs false
set_option linter.unusedVariables false
namespace Go.AM

section
variable {P : Program} {ng : Nat} {H : AHeap} {KF : List Value → AHeap → Prop} {fr tm : List Value} {tr : List TE} {Q : AQ}

def boolIs (v : Value) (b : Bool) : Bool := wantA (some (.c v, b)) [] []
def stR (P : Program) (ng : Nat) (op : AOp Value) (d : D) (r : List AOper) (fr tm : List Value) (H : AHeap) (KF : List Value → AHeap → Prop) : Prop :=
  stepA P ng op H fun v H' => RW P ng r (d.frame v fr) (d.temps v tm) H' KF
def goR (P : Program) (ng : Nat) (o : Option (Value × AHeap)) (d : D) (r : List AOper) (fr tm : List Value) (KF : List Value → AHeap → Prop) : Prop :=
  ∃ v H', o = some (v, H') ∧ RW P ng r (d.frame v fr) (d.temps v tm) H' KF
def gdR (P : Program) (ng : Nat) (c : Bool) (op : AOp AX) (d : D) (r : List AOper) (fr tm : List Value) (H : AHeap) (KF : List Value → AHeap → Prop) : Prop :=
  if c then RW P ng (⟨op, d, none⟩ :: r) fr tm H KF else RW P ng r (d.frame undef fr) (d.temps undef tm) H KF
abbrev callR (P : Program) (ng : Nat) (f : FuncId) (xs : List Value) (d : D) (r : List AOper) (fr tm : List Value) (H : AHeap) (KF : List Value → AHeap → Prop) : Prop :=
  ∃ v H', ARun P ng f xs H v H' ∧ RW P ng r (d.frame v fr) (d.temps v tm) H' KF

theorem r_nil : RW P ng [] fr tm H KF = KF fr H := _root_.id rfl
theorem r_cons (op : AOp AX) (d : D) (r : List AOper) : RW P ng (⟨op, d, none⟩ :: r) fr tm H KF = stR P ng (op.map (AX.ev fr tm)) d r fr tm H KF := RW_cons op d r
theorem r_consg (op : AOp AX) (d : D) (x : AX) (b : Bool) (r : List AOper) : RW P ng (⟨op, d, some (x, b)⟩ :: r) fr tm H KF = gdR P ng (wantA (some (x, b)) fr tm) op d r fr tm H KF := by
  rw [RW_consg]; unfold gdR; rw [RW_cons]
theorem gd_true (op : AOp AX) (d : D) (r : List AOper) : gdR P ng true op d r fr tm H KF = stR P ng (op.map (AX.ev fr tm)) d r fr tm H KF := by unfold gdR; rw [if_pos rfl]; exact RW_cons op d r
theorem gd_false (op : AOp AX) (d : D) (r : List AOper) : gdR P ng false op d r fr tm H KF = RW P ng r (d.frame undef fr) (d.temps undef tm) H KF := by unfold gdR; rw [if_neg (by simp)]
theorem go_some (v : Value) (d : D) (r : List AOper) : goR P ng (some (v, H)) d r fr tm KF = RW P ng r (d.frame v fr) (d.temps v tm) H KF :=
  propext ⟨fun ⟨v, H', e, k⟩ => by cases e; exact k, fun k => ⟨_, _, rfl, k⟩⟩
theorem st_call (f : FuncId) (xs : List Value) (d : D) (r : List AOper) : stR P ng (.callf f xs) d r fr tm H KF = callR P ng f xs d r fr tm H KF := _root_.id rfl
theorem st_callv (g : FuncId) (first cap : Array Value) (xs : List Value) (d : D) (r : List AOper) : stR P ng (.callv (.func (.func g) first cap) xs) d r fr tm H KF = callR P ng g (first.toList ++ xs ++ cap.toList) d r fr tm H KF := _root_.id rfl

theorem at_n (K : List Value → AHeap → Prop) : Q.andThen K .normal fr H = K fr H := _root_.id rfl
theorem at_e (K : List Value → AHeap → Prop) (i : Nat) : Q.andThen K (.exit i) fr H = Q (.exit i) fr H := _root_.id rfl
theorem at_r (K : List Value → AHeap → Prop) : Q.andThen K .ret fr H = Q .ret fr H := _root_.id rfl
theorem ib_n (i : Nat) : Q.inBlock i .normal fr H = Q .normal fr H := _root_.id rfl
theorem ib_r (i : Nat) : Q.inBlock i .ret fr H = Q .ret fr H := _root_.id rfl
theorem ib_e (i : Nat) : Q.inBlock i (.exit i) fr H = Q .normal fr H := by simp [AQ.inBlock]
theorem ib_x {i j : Nat} (h : ¬ j = i) : Q.inBlock i (.exit j) fr H = Q (.exit j) fr H := by simp [AQ.inBlock, h]
theorem want_x (x : AX) (b : Bool) : wantA (some (x, b)) fr tm = boolIs (x.ev fr tm) b := by
  simp only [boolIs, wantA, AX.ev]
theorem bi_tt : boolIs (.bool true) true = true := by simp [boolIs, wantA, AX.ev]
theorem bi_tf : boolIs (.bool true) false = false := by simp [boolIs, wantA, AX.ev]
theorem bi_ft : boolIs (.bool false) true = false := by simp [boolIs, wantA, AX.ev]
theorem bi_ff : boolIs (.bool false) false = true := by simp [boolIs, wantA, AX.ev]
theorem pk_t (a b : Value) : asem (.pick (.bool true) a b) H = some (a, H) := _root_.id rfl
theorem pk_f (a b : Value) : asem (.pick (.bool false) a b) H = some (b, H) := _root_.id rfl
theorem eq_t (k : Nat) {x y : Value} {b : Bool} (h : eqA k x y = some b) : asem (.eqv k false x y) H = some (.bool b, H) := by simp [asem, h]
theorem eq_f (k : Nat) {x y : Value} {b : Bool} (h : eqA k x y = some b) : asem (.eqv k true x y) H = some (.bool (!b), H) := by simp [asem, h]

/-- As 'walk', what comes behind the body left closed. -/
theorem walk2 {f : Nat} {sl : List Nat} {af : AFunc} (hc : compF P ng sl f = some af) {args : List Value} {R : Value → AHeap → Prop} (hargs : argsOK P f args.length = true)
    (h : ∀ Q : AQ, (∀ fr H2, (∃ v, resO af.res fr H2 = some v ∧ R v H2) → Q .normal fr H2) → (∀ fr H2, (∃ v, resO af.res fr H2 = some v ∧ R v H2) → Q .ret fr H2) → W P ng af.body Q (initFr af.sl args) H) : ∃ v H', ARun P ng f args H v H' ∧ R v H' :=
  walk hc hargs (h _ (fun _ _ h => h) (fun _ _ h => h))

/-! drawn regions -/
def stD (P : Program) (ng : Nat) (op : AOp Value) (d : D) (un : List Nat) (r : List (AOper × List Nat)) (fr tm : List Value) (H : AHeap) (tr : List TE) (KF : List Value → AHeap → Prop) : Prop :=
  stepA P ng op H fun v H' => oblA (clsA op) (touchA op H) H H' tr un ∧ RD P ng r (d.frame v fr) (d.temps v tm) H' (tr ++ [⟨clsA op, touchA op H, H, H'⟩]) KF
def goD (P : Program) (ng : Nat) (op : AOp Value) (o : Option (Value × AHeap)) (d : D) (un : List Nat) (r : List (AOper × List Nat)) (fr tm : List Value) (H : AHeap) (tr : List TE) (KF : List Value → AHeap → Prop) : Prop :=
  ∃ v H', o = some (v, H') ∧ oblA (clsA op) (touchA op H) H H' tr un ∧ RD P ng r (d.frame v fr) (d.temps v tm) H' (tr ++ [⟨clsA op, touchA op H, H, H'⟩]) KF
def gdD (P : Program) (ng : Nat) (c : Bool) (op : AOp AX) (d : D) (un : List Nat) (r : List (AOper × List Nat)) (fr tm : List Value) (H : AHeap) (tr : List TE) (KF : List Value → AHeap → Prop) : Prop :=
  if c then stD P ng (op.map (AX.ev fr tm)) d un r fr tm H tr KF else RD P ng r (d.frame undef fr) (d.temps undef tm) H (tr ++ [⟨9, [], H, H⟩]) KF
abbrev callD (P : Program) (ng : Nat) (f : FuncId) (xs : List Value) (d : D) (un : List Nat) (r : List (AOper × List Nat)) (fr tm : List Value) (H : AHeap) (tr : List TE) (KF : List Value → AHeap → Prop) : Prop :=
  ∃ v H', ARun P ng f xs H v H' ∧ oblA 3 [] H H' tr un ∧ RD P ng r (d.frame v fr) (d.temps v tm) H' (tr ++ [⟨3, [], H, H'⟩]) KF

theorem d_nil : RD P ng [] fr tm H tr KF = KF fr H := _root_.id rfl
theorem cls_ev (op : AOp AX) : clsA (op.map (AX.ev fr tm)) = clsA op := cls_map _ _
theorem d_cons (op : AOp AX) (d : D) (un : List Nat) (r : List (AOper × List Nat)) : RD P ng ((⟨op, d, none⟩, un) :: r) fr tm H tr KF = stD P ng (op.map (AX.ev fr tm)) d un r fr tm H tr KF := by
  rw [RD_cons]; unfold stD; rw [cls_ev]
theorem d_consg (op : AOp AX) (d : D) (x : AX) (b : Bool) (un : List Nat) (r : List (AOper × List Nat)) : RD P ng ((⟨op, d, some (x, b)⟩, un) :: r) fr tm H tr KF = gdD P ng (wantA (some (x, b)) fr tm) op d un r fr tm H tr KF := by
  rw [RD_consg]; unfold gdD stD; rw [cls_ev]
theorem gdD_true (op : AOp AX) (d : D) (un : List Nat) (r : List (AOper × List Nat)) : gdD P ng true op d un r fr tm H tr KF = stD P ng (op.map (AX.ev fr tm)) d un r fr tm H tr KF := by unfold gdD; rw [if_pos rfl]
theorem gdD_false (op : AOp AX) (d : D) (un : List Nat) (r : List (AOper × List Nat)) : gdD P ng false op d un r fr tm H tr KF = RD P ng r (d.frame undef fr) (d.temps undef tm) H (tr ++ [⟨9, [], H, H⟩]) KF := by unfold gdD; rw [if_neg (by simp)]
theorem goD_some {H' : AHeap} (op : AOp Value) (v : Value) (d : D) (r : List (AOper × List Nat)) : goD P ng op (some (v, H')) d [] r fr tm H tr KF = RD P ng r (d.frame v fr) (d.temps v tm) H' (tr ++ [⟨clsA op, touchA op H, H, H'⟩]) KF := by
  exact propext ⟨fun ⟨v, H', e, _, k⟩ => by cases e; exact k, fun k => ⟨_, _, rfl, trivial, k⟩⟩
theorem goD_some' {H' : AHeap} (op : AOp Value) (v : Value) (d : D) (u : Nat) (un : List Nat) (r : List (AOper × List Nat)) : goD P ng op (some (v, H')) d (u :: un) r fr tm H tr KF =
    (oblA (clsA op) (touchA op H) H H' tr (u :: un) ∧ RD P ng r (d.frame v fr) (d.temps v tm) H' (tr ++ [⟨clsA op, touchA op H, H, H'⟩]) KF) := by
  exact propext ⟨fun ⟨v, H', e, k⟩ => by cases e; exact k, fun k => ⟨_, _, rfl, k⟩⟩
theorem stD_call (f : FuncId) (xs : List Value) (d : D) (un : List Nat) (r : List (AOper × List Nat)) : stD P ng (.callf f xs) d un r fr tm H tr KF = callD P ng f xs d un r fr tm H tr KF := _root_.id rfl

/-! conditions -/
def condW (P : Program) (ng : Nat) (v : Value) (t e : ACode) (Q : AQ) (fr : List Value) (H : AHeap) : Prop := match v with
  | .bool b => if b then W P ng t Q fr H else W P ng e Q fr H
  | _ => False
theorem w_cond (c : AX) (t e : ACode) : W P ng (.cond c t e) Q fr H = condW P ng (c.ev fr []) t e Q fr H := _root_.id rfl
theorem cond_true (t e : ACode) : condW P ng (.bool true) t e Q fr H = W P ng t Q fr H := by simp [condW]
theorem cond_false (t e : ACode) : condW P ng (.bool false) t e Q fr H = W P ng e Q fr H := by simp [condW]

/-! each operation -/
section
variable (d : D) (r : List AOper) (un : List Nat) (rd : List (AOper × List Nat))
theorem st_of {op : AOp Value} (h1 : ∀ f xs, op ≠ .callf f xs) (h2 : ∀ f xs, op ≠ .callv f xs) : stR P ng op d r fr tm H KF = goR P ng (asem op H) d r fr tm KF := by
  unfold stR goR
  cases op <;> first | rfl | exact absurd rfl (h1 _ _) | exact absurd rfl (h2 _ _)
theorem stD_of {op : AOp Value} (h1 : ∀ f xs, op ≠ .callf f xs) (h2 : ∀ f xs, op ≠ .callv f xs) : stD P ng op d un rd fr tm H tr KF = goD P ng op (asem op H) d un rd fr tm H tr KF := by
  unfold stD goD
  cases op <;> first | rfl | exact absurd rfl (h1 _ _) | exact absurd rfl (h2 _ _)
theorem st_mov (x : Value) : stR P ng (.mov x) d r fr tm H KF = RW P ng r (d.frame x fr) (d.temps x tm) H KF := by rw [st_of d r (by simp) (by simp)]; exact go_some x d r
theorem st_pick (c a b : Value) : stR P ng (.pick c a b) d r fr tm H KF = goR P ng (asem (.pick c a b) H) d r fr tm KF := st_of d r (by simp) (by simp)
theorem sd_pick (c a b : Value) : stD P ng (.pick c a b) d un rd fr tm H tr KF = goD P ng (.pick c a b) (asem (.pick c a b) H) d un rd fr tm H tr KF := stD_of d un rd (by simp) (by simp)
theorem st_new (e s : Nat) (z : List Value) : stR P ng (.new e s z) d r fr tm H KF = goR P ng (asem (.new e s z) H) d r fr tm KF := st_of d r (by simp) (by simp)
theorem sd_new (e s : Nat) (z : List Value) : stD P ng (.new e s z) d un rd fr tm H tr KF = goD P ng (.new e s z) (asem (.new e s z) H) d un rd fr tm H tr KF := stD_of d un rd (by simp) (by simp)
theorem st_box (e s : Nat) (x : Value) : stR P ng (.box e s x) d r fr tm H KF = goR P ng (asem (.box e s x) H) d r fr tm KF := st_of d r (by simp) (by simp)
theorem sd_box (e s : Nat) (x : Value) : stD P ng (.box e s x) d un rd fr tm H tr KF = goD P ng (.box e s x) (asem (.box e s x) H) d un rd fr tm H tr KF := stD_of d un rd (by simp) (by simp)
theorem st_build (z : List Value) (ps : List (Nat × Nat × Value)) : stR P ng (.build z ps) d r fr tm H KF = goR P ng (asem (.build z ps) H) d r fr tm KF := st_of d r (by simp) (by simp)
theorem sd_build (z : List Value) (ps : List (Nat × Nat × Value)) : stD P ng (.build z ps) d un rd fr tm H tr KF = goD P ng (.build z ps) (asem (.build z ps) H) d un rd fr tm H tr KF := stD_of d un rd (by simp) (by simp)
theorem st_bslice (e s n : Nat) (z : List Value) (ps : List (Nat × Nat × Value)) : stR P ng (.bslice e s n z ps) d r fr tm H KF = goR P ng (asem (.bslice e s n z ps) H) d r fr tm KF := st_of d r (by simp) (by simp)
theorem sd_bslice (e s n : Nat) (z : List Value) (ps : List (Nat × Nat × Value)) : stD P ng (.bslice e s n z ps) d un rd fr tm H tr KF = goD P ng (.bslice e s n z ps) (asem (.bslice e s n z ps) H) d un rd fr tm H tr KF := stD_of d un rd (by simp) (by simp)
theorem st_load1 (x : Value) : stR P ng (.load1 x) d r fr tm H KF = goR P ng (asem (.load1 x) H) d r fr tm KF := st_of d r (by simp) (by simp)
theorem sd_load1 (x : Value) : stD P ng (.load1 x) d un rd fr tm H tr KF = goD P ng (.load1 x) (asem (.load1 x) H) d un rd fr tm H tr KF := stD_of d un rd (by simp) (by simp)
theorem st_loadn (n : Nat) (x : Value) : stR P ng (.loadn n x) d r fr tm H KF = goR P ng (asem (.loadn n x) H) d r fr tm KF := st_of d r (by simp) (by simp)
theorem sd_loadn (n : Nat) (x : Value) : stD P ng (.loadn n x) d un rd fr tm H tr KF = goD P ng (.loadn n x) (asem (.loadn n x) H) d un rd fr tm H tr KF := stD_of d un rd (by simp) (by simp)
theorem st_store1 (a x : Value) : stR P ng (.store1 a x) d r fr tm H KF = goR P ng (asem (.store1 a x) H) d r fr tm KF := st_of d r (by simp) (by simp)
theorem sd_store1 (a x : Value) : stD P ng (.store1 a x) d un rd fr tm H tr KF = goD P ng (.store1 a x) (asem (.store1 a x) H) d un rd fr tm H tr KF := stD_of d un rd (by simp) (by simp)
theorem st_storen (n : Nat) (a x : Value) : stR P ng (.storen n a x) d r fr tm H KF = goR P ng (asem (.storen n a x) H) d r fr tm KF := st_of d r (by simp) (by simp)
theorem sd_storen (n : Nat) (a x : Value) : stD P ng (.storen n a x) d un rd fr tm H tr KF = goD P ng (.storen n a x) (asem (.storen n a x) H) d un rd fr tm H tr KF := stD_of d un rd (by simp) (by simp)
theorem st_nilck (x : Value) : stR P ng (.nilck x) d r fr tm H KF = goR P ng (asem (.nilck x) H) d r fr tm KF := st_of d r (by simp) (by simp)
theorem sd_nilck (x : Value) : stD P ng (.nilck x) d un rd fr tm H tr KF = goD P ng (.nilck x) (asem (.nilck x) H) d un rd fr tm H tr KF := stD_of d un rd (by simp) (by simp)
theorem st_bin (o : BinOp) (x y : Value) : stR P ng (.bin o x y) d r fr tm H KF = goR P ng (asem (.bin o x y) H) d r fr tm KF := st_of d r (by simp) (by simp)
theorem sd_bin (o : BinOp) (x y : Value) : stD P ng (.bin o x y) d un rd fr tm H tr KF = goD P ng (.bin o x y) (asem (.bin o x y) H) d un rd fr tm H tr KF := stD_of d un rd (by simp) (by simp)
theorem st_eqv (k : Nat) (n : Bool) (x y : Value) : stR P ng (.eqv k n x y) d r fr tm H KF = goR P ng (asem (.eqv k n x y) H) d r fr tm KF := st_of d r (by simp) (by simp)
theorem sd_eqv (k : Nat) (n : Bool) (x y : Value) : stD P ng (.eqv k n x y) d un rd fr tm H tr KF = goD P ng (.eqv k n x y) (asem (.eqv k n x y) H) d un rd fr tm H tr KF := stD_of d un rd (by simp) (by simp)
theorem st_un (o : UnOp) (x : Value) : stR P ng (.un o x) d r fr tm H KF = goR P ng (asem (.un o x) H) d r fr tm KF := st_of d r (by simp) (by simp)
theorem sd_un (o : UnOp) (x : Value) : stD P ng (.un o x) d un rd fr tm H tr KF = goD P ng (.un o x) (asem (.un o x) H) d un rd fr tm H tr KF := stD_of d un rd (by simp) (by simp)
theorem st_i2i (k : IntKind) (x : Value) : stR P ng (.i2i k x) d r fr tm H KF = goR P ng (asem (.i2i k x) H) d r fr tm KF := st_of d r (by simp) (by simp)
theorem sd_i2i (k : IntKind) (x : Value) : stD P ng (.i2i k x) d un rd fr tm H tr KF = goD P ng (.i2i k x) (asem (.i2i k x) H) d un rd fr tm H tr KF := stD_of d un rd (by simp) (by simp)
theorem st_s2s (x : Value) : stR P ng (.s2s x) d r fr tm H KF = goR P ng (asem (.s2s x) H) d r fr tm KF := st_of d r (by simp) (by simp)
theorem sd_s2s (x : Value) : stD P ng (.s2s x) d un rd fr tm H tr KF = goD P ng (.s2s x) (asem (.s2s x) H) d un rd fr tm H tr KF := stD_of d un rd (by simp) (by simp)
theorem st_s2b (e : Nat) (x : Value) : stR P ng (.s2b e x) d r fr tm H KF = goR P ng (asem (.s2b e x) H) d r fr tm KF := st_of d r (by simp) (by simp)
theorem sd_s2b (e : Nat) (x : Value) : stD P ng (.s2b e x) d un rd fr tm H tr KF = goD P ng (.s2b e x) (asem (.s2b e x) H) d un rd fr tm H tr KF := stD_of d un rd (by simp) (by simp)
theorem st_b2s (x : Value) : stR P ng (.b2s x) d r fr tm H KF = goR P ng (asem (.b2s x) H) d r fr tm KF := st_of d r (by simp) (by simp)
theorem sd_b2s (x : Value) : stD P ng (.b2s x) d un rd fr tm H tr KF = goD P ng (.b2s x) (asem (.b2s x) H) d un rd fr tm H tr KF := stD_of d un rd (by simp) (by simp)
theorem st_iface (t : TypeId) (x : Value) : stR P ng (.iface t x) d r fr tm H KF = goR P ng (asem (.iface t x) H) d r fr tm KF := st_of d r (by simp) (by simp)
theorem sd_iface (t : TypeId) (x : Value) : stD P ng (.iface t x) d un rd fr tm H tr KF = goD P ng (.iface t x) (asem (.iface t x) H) d un rd fr tm H tr KF := stD_of d un rd (by simp) (by simp)
theorem st_mkfn (f : Fn) (xs ys : List Value) : stR P ng (.mkfn f xs ys) d r fr tm H KF = goR P ng (asem (.mkfn f xs ys) H) d r fr tm KF := st_of d r (by simp) (by simp)
theorem sd_mkfn (f : Fn) (xs ys : List Value) : stD P ng (.mkfn f xs ys) d un rd fr tm H tr KF = goD P ng (.mkfn f xs ys) (asem (.mkfn f xs ys) H) d un rd fr tm H tr KF := stD_of d un rd (by simp) (by simp)
theorem st_mksl (e s b : Nat) (z : List Value) (l c : Value) : stR P ng (.mksl e s b z l c) d r fr tm H KF = goR P ng (asem (.mksl e s b z l c) H) d r fr tm KF := st_of d r (by simp) (by simp)
theorem sd_mksl (e s b : Nat) (z : List Value) (l c : Value) : stD P ng (.mksl e s b z l c) d un rd fr tm H tr KF = goD P ng (.mksl e s b z l c) (asem (.mksl e s b z l c) H) d un rd fr tm H tr KF := stD_of d un rd (by simp) (by simp)
theorem st_slstr (x : Value) (lo hi : Option Value) : stR P ng (.slstr x lo hi) d r fr tm H KF = goR P ng (asem (.slstr x lo hi) H) d r fr tm KF := st_of d r (by simp) (by simp)
theorem sd_slstr (x : Value) (lo hi : Option Value) : stD P ng (.slstr x lo hi) d un rd fr tm H tr KF = goD P ng (.slstr x lo hi) (asem (.slstr x lo hi) H) d un rd fr tm H tr KF := stD_of d un rd (by simp) (by simp)
theorem st_slsl (s : Nat) (x : Value) (lo hi mx : Option Value) : stR P ng (.slsl s x lo hi mx) d r fr tm H KF = goR P ng (asem (.slsl s x lo hi mx) H) d r fr tm KF := st_of d r (by simp) (by simp)
theorem sd_slsl (s : Nat) (x : Value) (lo hi mx : Option Value) : stD P ng (.slsl s x lo hi mx) d un rd fr tm H tr KF = goD P ng (.slsl s x lo hi mx) (asem (.slsl s x lo hi mx) H) d un rd fr tm H tr KF := stD_of d un rd (by simp) (by simp)
theorem st_faddr (o : Nat) (x : Value) : stR P ng (.faddr o x) d r fr tm H KF = goR P ng (asem (.faddr o x) H) d r fr tm KF := st_of d r (by simp) (by simp)
theorem sd_faddr (o : Nat) (x : Value) : stD P ng (.faddr o x) d un rd fr tm H tr KF = goD P ng (.faddr o x) (asem (.faddr o x) H) d un rd fr tm H tr KF := stD_of d un rd (by simp) (by simp)
theorem st_fld1 (o : Nat) (x : Value) : stR P ng (.fld1 o x) d r fr tm H KF = goR P ng (asem (.fld1 o x) H) d r fr tm KF := st_of d r (by simp) (by simp)
theorem sd_fld1 (o : Nat) (x : Value) : stD P ng (.fld1 o x) d un rd fr tm H tr KF = goD P ng (.fld1 o x) (asem (.fld1 o x) H) d un rd fr tm H tr KF := stD_of d un rd (by simp) (by simp)
theorem st_fldn (o n : Nat) (x : Value) : stR P ng (.fldn o n x) d r fr tm H KF = goR P ng (asem (.fldn o n x) H) d r fr tm KF := st_of d r (by simp) (by simp)
theorem sd_fldn (o n : Nat) (x : Value) : stD P ng (.fldn o n x) d un rd fr tm H tr KF = goD P ng (.fldn o n x) (asem (.fldn o n x) H) d un rd fr tm H tr KF := stD_of d un rd (by simp) (by simp)
theorem st_iaddr (s : Nat) (x i : Value) : stR P ng (.iaddr s x i) d r fr tm H KF = goR P ng (asem (.iaddr s x i) H) d r fr tm KF := st_of d r (by simp) (by simp)
theorem sd_iaddr (s : Nat) (x i : Value) : stD P ng (.iaddr s x i) d un rd fr tm H tr KF = goD P ng (.iaddr s x i) (asem (.iaddr s x i) H) d un rd fr tm H tr KF := stD_of d un rd (by simp) (by simp)
theorem st_idxs (x i : Value) : stR P ng (.idxs x i) d r fr tm H KF = goR P ng (asem (.idxs x i) H) d r fr tm KF := st_of d r (by simp) (by simp)
theorem sd_idxs (x i : Value) : stD P ng (.idxs x i) d un rd fr tm H tr KF = goD P ng (.idxs x i) (asem (.idxs x i) H) d un rd fr tm H tr KF := stD_of d un rd (by simp) (by simp)
theorem st_assert (t : TypeId) (z : Value) (ok : Bool) (x : Value) : stR P ng (.assert t z ok x) d r fr tm H KF = goR P ng (asem (.assert t z ok x) H) d r fr tm KF := st_of d r (by simp) (by simp)
theorem sd_assert (t : TypeId) (z : Value) (ok : Bool) (x : Value) : stD P ng (.assert t z ok x) d un rd fr tm H tr KF = goD P ng (.assert t z ok x) (asem (.assert t z ok x) H) d un rd fr tm H tr KF := stD_of d un rd (by simp) (by simp)
theorem st_extract (x : Value) (i : Nat) : stR P ng (.extract x i) d r fr tm H KF = goR P ng (asem (.extract x i) H) d r fr tm KF := st_of d r (by simp) (by simp)
theorem sd_extract (x : Value) (i : Nat) : stD P ng (.extract x i) d un rd fr tm H tr KF = goD P ng (.extract x i) (asem (.extract x i) H) d un rd fr tm H tr KF := stD_of d un rd (by simp) (by simp)
theorem st_len (s : Bool) (x : Value) : stR P ng (.len s x) d r fr tm H KF = goR P ng (asem (.len s x) H) d r fr tm KF := st_of d r (by simp) (by simp)
theorem sd_len (s : Bool) (x : Value) : stD P ng (.len s x) d un rd fr tm H tr KF = goD P ng (.len s x) (asem (.len s x) H) d un rd fr tm H tr KF := stD_of d un rd (by simp) (by simp)
theorem st_mark (x : Value) : stR P ng (.mark x) d r fr tm H KF = goR P ng (asem (.mark x) H) d r fr tm KF := st_of d r (by simp) (by simp)
theorem sd_mark (x : Value) : stD P ng (.mark x) d un rd fr tm H tr KF = goD P ng (.mark x) (asem (.mark x) H) d un rd fr tm H tr KF := stD_of d un rd (by simp) (by simp)
theorem sd_mov (x : Value) : stD P ng (.mov x) d un rd fr tm H tr KF = goD P ng (.mov x) (asem (.mov x) H) d un rd fr tm H tr KF := stD_of d un rd (by simp) (by simp)
theorem sd_app (e s b : Nat) (x y : Value) : stD P ng (.app e s b x y) d un rd fr tm H tr KF = goD P ng (.app e s b x y) (asem (.app e s b x y) H) d un rd fr tm H tr KF := stD_of d un rd (by simp) (by simp)
end

/-! what the operations yield -/
theorem a_mov (x : Value) : asem (.mov x) H = some (x, H) := _root_.id rfl
theorem a_pick (t : Bool) (a b : Value) : asem (.pick (.bool t) a b) H = some (if t then a else b, H) := _root_.id rfl
theorem a_new (e esz : Nat) (z : List Value) : asem (.new e esz z) H = if z.all Value.oneCell' then some (ptr H.n 0, H.alloc (.cells true false esz z e)) else none := _root_.id rfl
theorem a_box (e esz : Nat) (x : Value) : asem (.box e esz x) H = if x.cells.toList.all Value.oneCell' then some (ptr H.n 0, H.alloc (.cells true false esz x.cells.toList e)) else none := _root_.id rfl
theorem a_build (z : List Value) (ps : List (Nat × Nat × Value)) : asem (.build z ps) H = (fillA z ps).map fun c => (.agg c.toArray, H) := _root_.id rfl
theorem a_bslice {e esz n : Nat} {z c : List Value} {ps : List (Nat × Nat × Value)} (h : fillA z ps = some c) : asem (.bslice e esz n z ps) H = if c.all Value.oneCell' = true ∧ c.length = n * esz then some (slc H.n 0 n n, H.alloc (.cells true false esz c e)) else none := by
  simp only [asem, h]
theorem a_load1 (b o : Nat) : asem (.load1 (ptr b o)) H = (cellA H b o).map fun v => (v, H) := _root_.id rfl
theorem a_loadn (n b o : Nat) : asem (.loadn n (ptr b o)) H = (rangeA H b o n).map fun c => (.agg c.toArray, H) := _root_.id rfl
theorem a_store1 {b o : Nat} {x : Value} {room : Bool} {esz e : Nat} {c : List Value} (h : H.get b = some (.cells true room esz c e)) : asem (.store1 (ptr b o) x) H = if o < c.length ∧ x.oneCell' = true then some (undef, H.set b (.cells true room esz (c.set o x) e)) else none := by
  simp only [asem, ptr, h]
theorem a_storen {b o n : Nat} {x : Value} {room : Bool} {esz e : Nat} {c : List Value} (h : H.get b = some (.cells true room esz c e)) :
    asem (.storen n (ptr b o) x) H = if o + n ≤ c.length ∧ x.cells.toList.length = n ∧ x.cells.toList.all Value.oneCell' = true then some (undef, H.set b (.cells true room esz (c.take o ++ x.cells.toList ++ c.drop (o + n)) e)) else none := by
  simp only [asem, ptr, h]
theorem a_nilck (b o : Nat) : asem (.nilck (ptr b o)) H = some (ptr b o, H) := _root_.id rfl
theorem a_bin (op : BinOp) (x y : Value) : asem (.bin op x y) H = (binA op x y).map fun v => (v, H) := _root_.id rfl
theorem a_eqv (k : Nat) (neg : Bool) (x y : Value) : asem (.eqv k neg x y) H = (eqA k x y).map fun b => (.bool (if neg then !b else b), H) := _root_.id rfl
theorem a_not (b : Bool) : asem (.un .not (.bool b)) H = some (.bool (!b), H) := _root_.id rfl
theorem a_neg (k : IntKind) (n : Int) : asem (.un .neg (.int k n)) H = some (.int k (k.wrap (0 - n)), H) := _root_.id rfl
theorem a_i2i (k k' : IntKind) (n : Int) : asem (.i2i k (.int k' n)) H = some (.int k (k.wrap n), H) := _root_.id rfl
theorem a_s2s (s : ByteArray) : asem (.s2s (.string s)) H = some (.string s, H) := _root_.id rfl
theorem a_s2b (e : Nat) (l : List UInt8) : asem (.s2b e (.string ⟨l.toArray⟩)) H = some (slc H.n 0 l.length l.length, H.alloc (.cells true true 1 (cellsOf l) e)) := by
  simp only [asem, cellsOf]
  simp [ByteArray.size]
theorem a_b2s {x : Value} {l : List UInt8} (h : BS H x l) : asem (.b2s x) H = some (.string ⟨l.toArray⟩, H) := by
  simp only [asem, h.el, bytesOf_cellsOf]
theorem a_iface (t : TypeId) (x : Value) : asem (.iface t x) H = some (.iface t x, H) := _root_.id rfl
theorem a_mkfn (fn : Fn) (xs ys : List Value) : asem (.mkfn fn xs ys) H = some (.func fn xs.toArray ys.toArray, H) := _root_.id rfl
theorem a_faddr (off b o : Nat) : asem (.faddr off (ptr b o)) H = some (ptr b (o + off), H) := _root_.id rfl
theorem a_fld1 (off : Nat) (cs : Array Value) : asem (.fld1 off (.agg cs)) H = cs.toList[off]?.map fun v => (v, H) := _root_.id rfl
theorem a_iaddr (esz b o n k : Nat) (kd : IntKind) (i : Int) : asem (.iaddr esz (slc b o n k) (.int kd i)) H = if 0 ≤ i ∧ i < (n : Int) then some (ptr b (o + i.toNat * esz), H) else none := _root_.id rfl
theorem a_assert (t u : TypeId) (z v : Value) (ok : Bool) : asem (.assert t z ok (.iface u v)) H = if u = t then some (if ok then .tuple #[v, .bool true] else v, H) else if ok then some (.tuple #[z, .bool false], H) else none := _root_.id rfl
theorem a_extract (vs : Array Value) (i : Nat) : asem (.extract (.tuple vs) i) H = vs.toList[i]?.map fun v => (v, H) := _root_.id rfl
theorem a_len (a : Option Addr) (n k : Nat) : asem (.len false (.slice a n k)) H = some (.int .i64 n, H) := _root_.id rfl
theorem a_lenc (b o n k : Nat) : asem (.len false (slc b o n k)) H = some (.int .i64 n, H) := _root_.id rfl
theorem a_lens (l : List UInt8) : asem (.len true (.string ⟨l.toArray⟩)) H = some (.int .i64 l.length, H) := by
  simp [asem, lenA, ByteArray.size]
theorem a_slsl_nil {esz : Nat} {lo hi mx : Option Value} (h : ∃ m hh l, bndA mx 0 0 = some m ∧ bndA hi 0 m = some hh ∧ bndA lo 0 hh = some l) : asem (.slsl esz (.slice none 0 0) lo hi mx) H = some (.slice none 0 0, H) := by
  obtain ⟨m, hh, l, h1, h2, h3⟩ := h
  simp only [asem, h1, h2, h3]
theorem a_slsl {esz b o n k m hh l e : Nat} {own room : Bool} {c : List Value} {lo hi mx : Option Value} (hb : H.get b = some (.cells own room esz c e)) (h1 : bndA mx k k = some m) (h2 : bndA hi n m = some hh) (h3 : bndA lo 0 hh = some l) :
    asem (.slsl esz (slc b o n k) lo hi mx) H = some (slc b (o + l * esz) (hh - l) (m - l), H) := by
  simp only [asem, slc, h1, h2, h3, hb, true_or, if_true]
theorem BS.len {v : Value} {l : List UInt8} (h : BS H v l) : asem (.len false v) H = some (.int .i64 l.length, H) := by
  obtain ⟨a, k, rfl⟩ := h.sh
  rfl

theorem one_int (k : IntKind) (n : Int) : (Value.int k n).oneCell' = true := _root_.id rfl
theorem one_bool (b : Bool) : (Value.bool b).oneCell' = true := _root_.id rfl
theorem one_str (b : ByteArray) : (Value.string b).oneCell' = true := _root_.id rfl
theorem one_sl (a : Option Addr) (n k : Nat) : (Value.slice a n k).oneCell' = true := _root_.id rfl
theorem one_slc (b o n k : Nat) : (slc b o n k).oneCell' = true := _root_.id rfl
theorem one_ptr (b o : Nat) : (ptr b o).oneCell' = true := _root_.id rfl
theorem one_pn (a : Option Addr) : (Value.pointer a).oneCell' = true := _root_.id rfl
theorem one_if (t : TypeId) (v : Value) : (Value.iface t v).oneCell' = true := _root_.id rfl
theorem one_map (t : Option Nat) : (Value.map t).oneCell' = true := _root_.id rfl
def one1 (x : Value) : Prop := x.oneCell' = true
theorem a_st {b o : Nat} {x : Value} {room : Bool} {esz e : Nat} {c : List Value} (h : H.get b = some (.cells true room esz c e)) (ho : o < c.length) (hx : one1 x) : asem (.store1 (ptr b o) x) H = some (undef, H.set b (.cells true room esz (c.set o x) e)) := by
  rw [a_store1 h, if_pos ⟨ho, hx⟩]
theorem o_int (k : IntKind) (n : Int) : one1 (Value.int k n) = True := by simp [one1, one_int]
theorem o_bool (b : Bool) : one1 (Value.bool b) = True := by simp [one1, one_bool]
theorem o_str (b : ByteArray) : one1 (Value.string b) = True := by simp [one1, one_str]
theorem o_sl (a : Option Addr) (n k : Nat) : one1 (Value.slice a n k) = True := by simp [one1, one_sl]
theorem o_slc (b o n k : Nat) : one1 (slc b o n k) = True := by simp [one1, one_slc]
theorem o_ptr (b o : Nat) : one1 (ptr b o) = True := by simp [one1, one_ptr]
theorem o_pn (a : Option Addr) : one1 (Value.pointer a) = True := by simp [one1, one_pn]
theorem o_if (t : TypeId) (v : Value) : one1 (Value.iface t v) = True := by simp [one1, one_if]
theorem o_map (t : Option Nat) : one1 (Value.map t) = True := by simp [one1, one_map]

/-- An append, on a slice of one's own. -/
theorem appR {d : D} {r : List AOper} {e esz bytes : Nat} {s x : Value} {n m : Nat} {c news : List Value} (h : AP H e esz s n c) (hx : ∃ a k, x = .slice a m k) (h1 : elemsA H esz x = some news) (hm : news.length = m * esz)
    (hs : (n + m) * bytes ≤ 140737488355328 ∧ n + m ≤ 140737488355328)
    (hk : ∀ v' H', AP H' e esz v' (n + m) (c ++ news) → Chg (blkL s) H H' → (blk v' = blk s ∨ blk v' = some H.n) → RW P ng r (d.frame v' fr) (d.temps v' tm) H' KF) : stR P ng (.app e esz bytes s x) d r fr tm H KF :=
  s_appAP h hx h1 hm hs hk

end
end Go.AM
