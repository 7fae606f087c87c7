/- Part of the proof. -/
import Derived.Test.YtobhoblgkpphgaaGreatGPK02
import Derived.OpenShut
import Derived.Carry
import Derived.ChangeSame
import Derived.WalkKit
import Derived.ProofKit
set_option linter.unusedSimpArgs false
set_option linter.unusedVariables false
set_option linter.unusedSimpArgs false
set_option linter.unusedVariables false
namespace Go.AM
structure EF where
  na : Nat
  sl : List Nat
  res : List RX
  body : ACode
inductive FT
  | leaf
  | node (k : Nat) (f : EF) (l r : FT)
noncomputable def FT.find (T : FT) (k : Nat) (K : EF → Bool) : Bool :=
  FT.rec (motive := fun _ => Bool) false (fun k' f _ _ l r => Bool.rec (motive := fun _ => Bool) (Bool.rec (motive := fun _ => Bool) r l (Nat.ble k k')) (K f) (Nat.beq k k')) T
def simpC : ACode → ACode
  | .dreg ops => if ops.all (fun p => p.2.isEmpty) then .reg (ops.map (·.1)) else .dreg ops
  | .seq a b => .seq (simpC a) (simpC b)
  | .cond c t e => .cond c (simpC t) (simpC e)
  | .block id c => .block id (simpC c)
  | .loop c => .loop (simpC c)
  | c => c
theorem RD_RW {P : Program} {ng : Nat} : ∀ {l : List (AOper × List Nat)} {fr tm : List Value} {H : AHeap} {tr : List TE} {K : List Value → AHeap → Prop}, l.all (fun p => p.2.isEmpty) = true → RW P ng (l.map (·.1)) fr tm H K → RD P ng l fr tm H tr K
  | [], fr, tm, H, tr, K, _, h => h
  | (o, un) :: l, fr, tm, H, tr, K, hl, h => by
    simp only [List.all_cons, Bool.and_eq_true, List.isEmpty_iff] at hl
    obtain ⟨h1, h2⟩ := hl
    subst h1
    simp only [RD, List.map_cons, RW] at h ⊢
    split at h
    · rename_i hw
      rw [if_pos hw]
      refine stepA_mono ?_ h
      intro v H' hh
      exact ⟨trivial, RD_RW h2 hh⟩
    · rename_i hw
      rw [if_neg hw]
      exact RD_RW h2 h
theorem W_simp {P : Program} {ng : Nat} : ∀ (c : ACode) {Q : AQ} {fr : List Value} {H : AHeap}, W P ng (simpC c) Q fr H → W P ng c Q fr H := by
  intro c
  induction c with
  | dreg ops =>
    intro Q fr H h
    simp only [simpC] at h
    split at h
    · rename_i hh
      exact RD_RW hh h
    · exact h
  | seq a b iha ihb =>
    intro Q fr H h
    have h1 := iha h
    show W P ng a (Q.andThen (W P ng b Q)) fr H
    refine W_mono ?_ h1
    intro e fr H hh
    cases e <;> first | exact ihb hh | exact hh
  | cond c t e iht ihe =>
    intro Q fr H h
    simp only [simpC, W] at h ⊢
    split at h
    · rename_i b hb
      cases b
      · simpa using ihe (by simpa using h)
      · simpa using iht (by simpa using h)
    · exact h
  | block id c ih => intro Q fr H h; exact ih h
  | loop c ih =>
    intro Q fr H h
    simp only [simpC, W] at h ⊢
    obtain ⟨I, n, h0, hs⟩ := h
    exact ⟨I, n, h0, fun k fr H hI => ih (hs k fr H hI)⟩
  | skip => intro Q fr H h; exact h
  | reg ops => intro Q fr H h; exact h
  | exit id => intro Q fr H h; exact h
  | ret => intro Q fr H h; exact h
  | rangeF g N sl ps a b => intro Q fr H h; exact h
def EF.ok (P : Program) (ng k : Nat) (f : EF) : Prop := ∃ af, compF P ng f.sl k = some af ∧ af.sl = f.sl ∧ af.res = f.res ∧ simpC af.body = f.body ∧ argsOK P k f.na = true
def FT.ok (P : Program) (ng : Nat) : FT → Prop
  | .leaf => True
  | .node k f l r => f.ok P ng k ∧ l.ok P ng ∧ r.ok P ng
theorem FT.find_true {P : Program} {ng : Nat} {k : Nat} {K : EF → Bool} : ∀ {T : FT}, T.ok P ng → T.find k K = true → ∃ f, f.ok P ng k ∧ K f = true
  | .leaf, _, h => by cases h
  | .node k' f l r, hT, h => by
    have e : (FT.node k' f l r).find k K = Bool.rec (motive := fun _ => Bool) (Bool.rec (motive := fun _ => Bool) (r.find k K) (l.find k K) (Nat.ble k k')) (K f) (Nat.beq k k') := rfl
    rw [e] at h
    cases e1 : Nat.beq k k'
    · rw [e1] at h
      cases e2 : Nat.ble k k'
      · rw [e2] at h; exact FT.find_true hT.2.2 h
      · rw [e2] at h; exact FT.find_true hT.2.1 h
    · rw [e1] at h
      have := Nat.eq_of_beq_eq_true e1
      subst this
      exact ⟨f, hT.1, h⟩
abbrev CK := Value → Nat → HT → Bool
abbrev Caller := FuncId → List Value → Nat → HT → CK → Bool
noncomputable def stepX (call : Caller) (op : AOp AX) (fr tm : List Value) (n : Nat) (t : HT) (K : CK) : Bool := match op with
  | .mov x => evX x fr tm fun v => K v n t
  | .pick c a b => evX c fr tm fun c => evX a fr tm fun a => evX b fr tm fun b => stepT (.pick c a b) n t K
  | .new e s z => stepT (.new e s z) n t K
  | .box e s x => evX x fr tm fun x => stepT (.box e s x) n t K
  | .build z ps => evPs ps fr tm fun ps => stepT (.build z ps) n t K
  | .bslice e s m z ps => evPs ps fr tm fun ps => stepT (.bslice e s m z ps) n t K
  | .load1 x => evX x fr tm fun x => stepT (.load1 x) n t K
  | .loadn m x => evX x fr tm fun x => stepT (.loadn m x) n t K
  | .store1 a x => evX a fr tm fun a => evX x fr tm fun x => stepT (.store1 a x) n t K
  | .storen m a x => evX a fr tm fun a => evX x fr tm fun x => stepT (.storen m a x) n t K
  | .nilck x => evX x fr tm fun x => stepT (.nilck x) n t K
  | .bin op x y => evX x fr tm fun x => evX y fr tm fun y => binT op x y fun v => K v n t
  | .eqv k m x y => evX x fr tm fun x => evX y fr tm fun y => stepT (.eqv k m x y) n t K
  | .un op x => evX x fr tm fun x => stepT (.un op x) n t K
  | .i2i k x => evX x fr tm fun x => stepT (.i2i k x) n t K
  | .s2s x => evX x fr tm fun x => stepT (.s2s x) n t K
  | .s2b e x => evX x fr tm fun x => stepT (.s2b e x) n t K
  | .b2s x => evX x fr tm fun x => stepT (.b2s x) n t K
  | .iface u x => evX x fr tm fun x => K (.iface u x) n t
  | .mkfn fn xs ys => evXs xs fr tm fun xs => evXs ys fr tm fun ys => stepT (.mkfn fn xs ys) n t K
  | .mksl e s b z l c => evX l fr tm fun l => evX c fr tm fun c => stepT (.mksl e s b z l c) n t K
  | .slstr x lo hi => evX x fr tm fun x => evO lo fr tm fun lo => evO hi fr tm fun hi => stepT (.slstr x lo hi) n t K
  | .slsl s x lo hi mx => evX x fr tm fun x => evO lo fr tm fun lo => evO hi fr tm fun hi => evO mx fr tm fun mx => stepT (.slsl s x lo hi mx) n t K
  | .faddr o x => evX x fr tm fun x => stepT (.faddr o x) n t K
  | .fld1 o x => evX x fr tm fun x => stepT (.fld1 o x) n t K
  | .fldn o m x => evX x fr tm fun x => stepT (.fldn o m x) n t K
  | .iaddr s x i => evX x fr tm fun x => evX i fr tm fun i => stepT (.iaddr s x i) n t K
  | .idxs x i => evX x fr tm fun x => evX i fr tm fun i => stepT (.idxs x i) n t K
  | .assert u z ok x => evX x fr tm fun x => stepT (.assert u z ok x) n t K
  | .extract x i => evX x fr tm fun x => stepT (.extract x i) n t K
  | .len s x => evX x fr tm fun x => stepT (.len s x) n t K
  | .app e s b x y => evX x fr tm fun x => evX y fr tm fun y => stepT (.app e s b x y) n t K
  | .mark x => evX x fr tm fun x => stepT (.mark x) n t K
  | .iaddrp s m x i => evX x fr tm fun x => evX i fr tm fun i => stepT (.iaddrp s m x i) n t K
  | .idxa a s m x i => evX x fr tm fun x => evX i fr tm fun i => stepT (.idxa a s m x i) n t K
  | .slarr s m x lo hi mx => evX x fr tm fun x => evO lo fr tm fun lo => evO hi fr tm fun hi => evO mx fr tm fun mx => stepT (.slarr s m x lo hi mx) n t K
  | .eqs cs m x y => evX x fr tm fun x => evX y fr tm fun y => stepT (.eqs cs m x y) n t K
  | .mm m x y => evX x fr tm fun x => evX y fr tm fun y => stepT (.mm m x y) n t K
  | .i2str x => evX x fr tm fun x => stepT (.i2str x) n t K
  | .rng x => evX x fr tm fun x => stepT (.rng x) n t K
  | .next x => evX x fr tm fun x => stepT (.next x) n t K
  | .copy s d x => evX d fr tm fun d => evX x fr tm fun x => stepT (.copy s d x) n t K
  | .clr s z x => evX x fr tm fun x => stepT (.clr s z x) n t K
  | .apps e b x y => evX x fr tm fun x => evX y fr tm fun y => stepT (.apps e b x y) n t K
  | .callf f xs => evXs xs fr tm fun xs => call f xs n t K
  | .callv f xs => evX f fr tm fun f => evXs xs fr tm fun xs => match f with
    | .func (.func g) first cap => call g (first.toList ++ xs ++ cap.toList) n t K
    | _ => false
  | .mm4 .. => false
  | .mkmap => false
  | .mget .. => false
  | .mset .. => false
  | .cap _ => false
  | .inv .. => false
  | .appz .. => false
  | .bad => false
def CallOK (P : Program) (ng : Nat) (call : Caller) : Prop := ∀ f xs n t K, call f xs n t K = true → ∀ H, Rp n t H → ∃ v H', ARun P ng f xs H v H' ∧ KP K v H'
theorem stepX_sound {P : Program} {ng : Nat} {call : Caller} (hc : CallOK P ng call) {op : AOp AX} {fr tm : List Value} {n : Nat} {t : HT} {K : CK} (h : stepX call op fr tm n t K = true) {H : AHeap} (r : Rp n t H) :
    stepA P ng (op.map (AX.ev fr tm)) H (KP K) := by
  have fin : ∀ {o : AOp Value}, stepT o n t K = true → stepA P ng o H (KP K) := by
    intro o ho
    obtain ⟨v, H', h1, h2⟩ := stepT_sound r ho
    exact stepA_of h1 h2
  cases op <;> simp only [stepX, evX_eq, evXs_eq, evO_eq, evPs_eq] at h <;> simp only [AOp.map] <;> try exact fin h
  case callf f xs => exact hc _ _ _ _ _ h H r
  case callv f xs =>
    simp only [stepA]
    split at h
    · rename_i g first cap hf
      rw [hf]
      exact hc _ _ _ _ _ h H r
    · cases h
noncomputable def wantK (g : Option (AX × Bool)) (fr tm : List Value) (K : Bool → Bool) : Bool := match g with
  | none => K true
  | some (x, b) => evX x fr tm fun v => match v with
    | .bool t => match t, b with
      | true, true => K true
      | false, false => K true
      | _, _ => K false
    | _ => K false
theorem wantK_eq (g : Option (AX × Bool)) (fr tm : List Value) (K : Bool → Bool) : wantK g fr tm K = K (wantA g fr tm) := by
  cases g with
  | none => rfl
  | some p =>
    obtain ⟨x, b⟩ := p
    simp only [wantK, evX_eq, wantA]
    cases x.ev fr tm <;> try rfl
    rename_i t
    cases t <;> cases b <;> rfl
noncomputable def dstK (d : D) (v : Value) (fr tm : List Value) (K : List Value → List Value → Bool) : Bool := match d with
  | .no => K fr tm
  | .fr i => updK v fr i fun fr => K fr tm
  | .tm => K fr (v :: tm)
theorem dstK_eq (d : D) (v : Value) (fr tm : List Value) (K : List Value → List Value → Bool) : dstK d v fr tm K = K (d.frame v fr) (d.temps v tm) := by
  cases d <;> simp only [dstK, updK_eq, D.frame, D.temps]
abbrev FK := List Value → Nat → HT → Bool
noncomputable def runOps (call : Caller) (ops : List AOper) : List Value → List Value → Nat → HT → FK → Bool :=
  List.rec (motive := fun _ => List Value → List Value → Nat → HT → FK → Bool) (fun fr _ n t K => K fr n t)
    (fun o _ ih fr tm n t K => wantK o.g fr tm fun b => Bool.rec (motive := fun _ => Bool)
      (dstK o.dst undef fr tm fun fr tm => ih fr tm n t K)
      (stepX call o.op fr tm n t fun v n t => dstK o.dst v fr tm fun fr tm => ih fr tm n t K) b) ops
theorem runOps_cons (call : Caller) (o : AOper) (l : List AOper) (fr tm : List Value) (n : Nat) (t : HT) (K : FK) : runOps call (o :: l) fr tm n t K = wantK o.g fr tm fun b => Bool.rec (motive := fun _ => Bool)
      (dstK o.dst undef fr tm fun fr tm => runOps call l fr tm n t K)
      (stepX call o.op fr tm n t fun v n t => dstK o.dst v fr tm fun fr tm => runOps call l fr tm n t K) b := rfl
def FP (K : FK) : List Value → AHeap → Prop := fun fr H => ∃ n t, Rp n t H ∧ K fr n t = true
theorem runOps_sound {P : Program} {ng : Nat} {call : Caller} (hc : CallOK P ng call) : ∀ {l : List AOper} {fr tm : List Value} {n : Nat} {t : HT} {K : FK}, runOps call l fr tm n t K = true → ∀ {H : AHeap}, Rp n t H → RW P ng l fr tm H (FP K)
  | [], fr, tm, n, t, K, h, H, r => ⟨n, t, r, h⟩
  | o :: l, fr, tm, n, t, K, h, H, r => by
    rw [runOps_cons, wantK_eq] at h
    simp only [RW]
    cases hw : wantA o.g fr tm
    · rw [hw] at h
      rw [dstK_eq] at h
      simp only [Bool.false_eq_true, if_false]
      exact runOps_sound hc h r
    · rw [hw] at h
      simp only [if_true]
      refine stepA_mono ?_ (stepX_sound hc h r)
      rintro v H' ⟨n', t', r', h'⟩
      simp only [dstK_eq] at h'
      exact runOps_sound hc h' r'
structure TT where
  k : Nat
  bs : List Nat
  n : Nat
  t : HT
  t' : HT
noncomputable def keepsT : List Nat → HT → HT → Bool
  | [], _, _ => true
  | b :: l, t, t' => asT (t.getK b fun o => t'.getK b fun o' => aoEq o' o) (keepsT l t t')
def olderT : List Nat → Nat → Bool
  | [], _ => true
  | b :: l, n => match Nat.ble (b + 1) n with
    | true => olderT l n
    | false => false
theorem keepsT_true {n n' : Nat} {t t' : HT} {H H' : AHeap} (r : Rp n t H) (r' : Rp n' t' H') : ∀ {l : List Nat}, keepsT l t t' = true → keepsB l H H'
  | [], _ => trivial
  | b :: l, h => by
    obtain ⟨h1, h2⟩ := asT_true h
    obtain ⟨o, h3, h4⟩ := r.getK h1
    obtain ⟨o', h5, h6⟩ := r'.getK h4
    exact ⟨by rw [h3, h5, aoEq_true h6], keepsT_true r r' h2⟩
theorem olderT_true {n : Nat} {H : AHeap} (hn : H.n = n) : ∀ {l : List Nat}, olderT l n = true → olderB l H
  | [], _ => trivial
  | b :: l, h => by
    simp only [olderT] at h
    split at h
    · rename_i e
      exact ⟨by rw [hn]; exact Nat.le_of_ble_eq_true e, olderT_true hn h⟩
    · cases h
noncomputable def oblT (k : Nat) (bs : List Nat) (t t' : HT) (tr : List TT) : List Nat → Bool
  | [] => true
  | i :: un => match tr[i]? with
    | some e => match Nat.beq k 1 && Nat.beq e.k 3, Nat.beq k 3 && (Nat.beq e.k 1 || Nat.beq e.k 2) with
      | true, _ => asT (olderT bs e.n) (asT (keepsT bs e.t e.t') (oblT k bs t t' tr un))
      | false, true => asT (keepsT e.bs t t') (oblT k bs t t' tr un)
      | false, false => oblT k bs t t' tr un
    | none => false
inductive TrR : List TT → List TE → Prop
  | nil : TrR [] []
  | cons {e : TT} {x : TE} {l : List TT} {m : List TE} (hk : x.k = e.k) (hb : x.bs = e.bs) (h1 : Rp e.n e.t x.H) (h2 : ∃ n', Rp n' e.t' x.H') (h : TrR l m) : TrR (e :: l) (x :: m)
theorem TrR.snoc {l : List TT} {m : List TE} (h : TrR l m) {e : TT} {x : TE} (hk : x.k = e.k) (hb : x.bs = e.bs) (h1 : Rp e.n e.t x.H) (h2 : ∃ n', Rp n' e.t' x.H') : TrR (l ++ [e]) (m ++ [x]) := by
  induction h with
  | nil => exact .cons hk hb h1 h2 .nil
  | cons a b c d _ ih => exact .cons a b c d ih
theorem TrR.get {l : List TT} {m : List TE} (h : TrR l m) : ∀ {i : Nat} {e : TT}, l[i]? = some e → ∃ x, m[i]? = some x ∧ x.k = e.k ∧ x.bs = e.bs ∧ Rp e.n e.t x.H ∧ ∃ n', Rp n' e.t' x.H' := by
  induction h with
  | nil => intro i e h; simp at h
  | cons a b c d _ ih =>
    intro i e h
    cases i with
    | zero => simp at h; subst h; exact ⟨_, rfl, a, b, c, d⟩
    | succ i => simp at h; simpa using ih h
theorem oblT_true {k : Nat} {bs : List Nat} {n n' : Nat} {t t' : HT} {H H' : AHeap} (r : Rp n t H) (r' : Rp n' t' H') {tr : List TT} {tr' : List TE} (ht : TrR tr tr') : ∀ {un : List Nat}, oblT k bs t t' tr un = true → oblA k bs H H' tr' un
  | [], _ => trivial
  | i :: un, h => by
    simp only [oblT] at h
    split at h
    · rename_i e he
      obtain ⟨x, h1, h2, h3, h4, n2, h5⟩ := ht.get he
      simp only [oblA, h1]
      split at h
      · rename_i e1
        obtain ⟨a1, a2⟩ := asT_true h
        obtain ⟨a3, a4⟩ := asT_true a2
        rw [Bool.and_eq_true] at e1
        have q1 := Nat.eq_of_beq_eq_true e1.1
        have q2 := Nat.eq_of_beq_eq_true e1.2
        refine ⟨?_, oblT_true r r' ht a4⟩
        rw [if_pos ⟨q1, by rw [h2]; exact q2⟩]
        exact ⟨olderT_true h4.n a1, keepsT_true h4 h5 a3⟩
      · rename_i e1 e2
        obtain ⟨a1, a2⟩ := asT_true h
        rw [Bool.and_eq_true, Bool.or_eq_true] at e2
        have q1 := Nat.eq_of_beq_eq_true e2.1
        refine ⟨?_, oblT_true r r' ht a2⟩
        rw [if_neg (by rw [q1]; simp), if_pos ⟨q1, by rw [h2]; rcases e2.2 with q | q; exact .inl (Nat.eq_of_beq_eq_true q); exact .inr (Nat.eq_of_beq_eq_true q)⟩]
        rw [h3]
        exact keepsT_true r r' a1
      · rename_i e1 e2
        refine ⟨?_, oblT_true r r' ht h⟩
        split
        · rename_i hh
          rw [h2] at hh
          rw [hh.1, hh.2] at e1
          cases e1
        · split
          · rename_i hh
            rw [h2] at hh
            rw [hh.1] at e2
            rcases hh.2 with q | q <;> rw [q] at e2 <;> cases e2
          · trivial
    · cases h
noncomputable def runD (call : Caller) (ops : List (AOper × List Nat)) : List Value → List Value → Nat → HT → List TT → FK → Bool :=
  List.rec (motive := fun _ => List Value → List Value → Nat → HT → List TT → FK → Bool) (fun fr _ n t _ K => K fr n t)
    (fun o _ ih fr tm n t tr K => wantK o.1.g fr tm fun b => Bool.rec (motive := fun _ => Bool)
      (dstK o.1.dst undef fr tm fun fr' tm' => ih fr' tm' n t (tr ++ [⟨9, [], n, t, t⟩]) K)
      (stepX call o.1.op fr tm n t fun v n' t' => asT (oblT (clsA o.1.op) (if clsA o.1.op = 1 then readsA (o.1.op.map (AX.ev fr tm)) else if clsA o.1.op = 2 then [n] else []) t t' tr o.2)
        (dstK o.1.dst v fr tm fun fr' tm' => ih fr' tm' n' t' (tr ++ [⟨clsA o.1.op, (if clsA o.1.op = 1 then readsA (o.1.op.map (AX.ev fr tm)) else if clsA o.1.op = 2 then [n] else []), n, t, t'⟩]) K)) b) ops
theorem runD_cons (call : Caller) (o : AOper × List Nat) (l : List (AOper × List Nat)) (fr tm : List Value) (n : Nat) (t : HT) (tr : List TT) (K : FK) : runD call (o :: l) fr tm n t tr K = wantK o.1.g fr tm fun b => Bool.rec (motive := fun _ => Bool)
      (dstK o.1.dst undef fr tm fun fr' tm' => runD call l fr' tm' n t (tr ++ [⟨9, [], n, t, t⟩]) K)
      (stepX call o.1.op fr tm n t fun v n' t' => asT (oblT (clsA o.1.op) (if clsA o.1.op = 1 then readsA (o.1.op.map (AX.ev fr tm)) else if clsA o.1.op = 2 then [n] else []) t t' tr o.2)
        (dstK o.1.dst v fr tm fun fr' tm' => runD call l fr' tm' n' t' (tr ++ [⟨clsA o.1.op, (if clsA o.1.op = 1 then readsA (o.1.op.map (AX.ev fr tm)) else if clsA o.1.op = 2 then [n] else []), n, t, t'⟩]) K)) b := rfl
theorem runD_sound {P : Program} {ng : Nat} {call : Caller} (hc : CallOK P ng call) : ∀ {l : List (AOper × List Nat)} {fr tm : List Value} {n : Nat} {t : HT} {tr : List TT} {tr' : List TE} {K : FK}, runD call l fr tm n t tr K = true → TrR tr tr' → ∀ {H : AHeap}, Rp n t H → RD P ng l fr tm H tr' (FP K)
  | [], fr, tm, n, t, tr, tr', K, h, _, H, r => ⟨n, t, r, h⟩
  | (o, un) :: l, fr, tm, n, t, tr, tr', K, h, ht, H, r => by
    rw [runD_cons, wantK_eq] at h
    simp only [RD]
    cases hw : wantA o.g fr tm
    · simp only [hw] at h
      rw [dstK_eq] at h
      simp only [Bool.false_eq_true, if_false]
      exact runD_sound hc h (ht.snoc rfl rfl r ⟨n, r⟩) r
    · simp only [hw] at h
      simp only [if_true]
      refine stepA_mono ?_ (stepX_sound hc h r)
      rintro v H' ⟨n', t', r', h'⟩
      obtain ⟨h1, h2⟩ := asT_true h'
      rw [dstK_eq] at h2
      have e : touchA (o.op.map (AX.ev fr tm)) H = (if clsA o.op = 1 then readsA (o.op.map (AX.ev fr tm)) else if clsA o.op = 2 then [n] else []) := by
        unfold touchA
        rw [cls_map, r.n]
      rw [e]
      exact ⟨oblT_true r r' ht h1, runD_sound hc h2 (ht.snoc rfl rfl r ⟨n', r'⟩) r'⟩
noncomputable def initK (sl : List Nat) (args : List Value) : (List Value → Bool) → Bool :=
  List.rec (motive := fun _ => (List Value → Bool) → Bool) (fun K => K []) (fun s _ ih K => nthK args s fun v => ih fun vs => K (v :: vs)) sl
theorem initK_eq : ∀ (sl : List Nat) (args : List Value) (K : List Value → Bool), initK sl args K = K (initFr sl args)
  | [], args, K => rfl
  | s :: sl, args, K => by
    have : initK (s :: sl) args K = nthK args s fun v => initK sl args fun vs => K (v :: vs) := rfl
    rw [this, nthK_eq, initK_eq sl]; rfl
noncomputable def cell1K (v : Value) (t : HT) (K : Value → Bool) : Bool := match v with
  | .pointer (some ⟨b, o, none⟩) => t.getK b fun ao => match ao with
    | .cells _ _ _ c _ => nthO c o K
    | _ => false
  | _ => false
theorem cell1K_true {n : Nat} {t : HT} {H : AHeap} (r : Rp n t H) {v : Value} {K : Value → Bool} (h : cell1K v t K = true) : ∃ u, cell1 v H = some u ∧ K u = true := by
  unfold cell1K at h
  split at h
  · obtain ⟨o, h1, h2⟩ := r.getK h
    split at h2
    · rw [nthO_eq] at h2
      split at h2
      · rename_i u hu
        exact ⟨u, by simp only [cell1, cellA, h1]; exact hu, h2⟩
      · cases h2
    · cases h2
  · cases h
noncomputable def cellnK (m : Nat) (v : Value) (t : HT) (K : Value → Bool) : Bool := match v with
  | .pointer (some ⟨b, o, none⟩) => t.getK b fun ao => match ao with
    | .cells _ _ _ c _ => asT (Nat.ble (o + m) c.length) (K (.agg ((c.drop o).take m).toArray))
    | _ => false
  | _ => false
theorem cellnK_true {n m : Nat} {t : HT} {H : AHeap} (r : Rp n t H) {v : Value} {K : Value → Bool} (h : cellnK m v t K = true) : ∃ u, celln m v H = some u ∧ K u = true := by
  unfold cellnK at h
  split at h
  · obtain ⟨o, h1, h2⟩ := r.getK h
    split at h2
    · obtain ⟨h3, h4⟩ := asT_true h2
      exact ⟨_, by simp only [celln, rangeA, h1]; rw [if_pos (Nat.le_of_ble_eq_true h3)]; rfl, h4⟩
    · cases h2
  · cases h
noncomputable def rxK (x : RX) (fr : List Value) (t : HT) (K : Value → Bool) : Bool := match x with
  | .t i => nthK fr i K
  | .c1 i => nthK fr i fun v => cell1K v t K
  | .cn m i => nthK fr i fun v => cellnK m v t K
noncomputable def rxsK (l : List RX) (fr : List Value) (t : HT) : (List Value → Bool) → Bool :=
  List.rec (motive := fun _ => (List Value → Bool) → Bool) (fun K => K []) (fun x _ ih K => rxK x fr t fun v => ih fun vs => K (v :: vs)) l
theorem rxsK_true {n : Nat} {t : HT} {H : AHeap} (r : Rp n t H) {fr : List Value} : ∀ {l : List RX} {K : List Value → Bool}, rxsK l fr t K = true → ∃ us, resVs fr H l = some us ∧ K us = true
  | [], K, h => ⟨[], rfl, h⟩
  | x :: l, K, h => by
    have h' : rxK x fr t (fun v => rxsK l fr t fun vs => K (v :: vs)) = true := h
    have : ∃ v, x.get fr H = some v ∧ rxsK l fr t (fun vs => K (v :: vs)) = true := by
      cases x with
      | t i => simp only [rxK, nthK_eq] at h'; exact ⟨_, rfl, h'⟩
      | c1 i => simp only [rxK, nthK_eq] at h'; exact cell1K_true r h'
      | cn m i => simp only [rxK, nthK_eq] at h'; exact cellnK_true r h'
    obtain ⟨v, h1, h2⟩ := this
    obtain ⟨us, h3, h4⟩ := rxsK_true r h2
    exact ⟨_, by simp only [resVs, h1, h3], h4⟩
noncomputable def resK (res : List RX) (fr : List Value) (t : HT) (K : Value → Bool) : Bool := rxsK res fr t fun vs => K (tupV vs)
theorem resK_true {n : Nat} {t : HT} {H : AHeap} (r : Rp n t H) {res : List RX} {fr : List Value} {K : Value → Bool} (h : resK res fr t K = true) : ∃ v, resO res fr H = some v ∧ K v = true := by
  obtain ⟨us, h1, h2⟩ := rxsK_true r h
  exact ⟨_, by simp only [resO, h1, Option.map_some], h2⟩
abbrev EK := Exit → List Value → Nat → HT → Bool
noncomputable def callE (T : FT) (rec : ACode → List Value → Nat → HT → EK → Bool) : Caller := fun f xs n t K => T.find f fun ef => asT (Nat.beq xs.length ef.na) (initK ef.sl xs fun fr => rec ef.body fr n t fun e fr n t => match e with
  | .normal => resK ef.res fr t fun v => K v n t
  | .ret => resK ef.res fr t fun v => K v n t
  | _ => false)
noncomputable def seqK (ihb : List Value → Nat → HT → EK → Bool) (K : EK) : EK := fun e fr n t => match e with
  | .normal => ihb fr n t K
  | e => K e fr n t
noncomputable def blockK (id : Nat) (K : EK) : EK := fun e fr n t => match e with
  | .exit id' => Bool.rec (motive := fun _ => Bool) (K (.exit id') fr n t) (K .normal fr n t) (Nat.beq id' id)
  | e => K e fr n t
noncomputable def condK (v : Value) (a b : Bool) : Bool := match v with
  | .bool t => Bool.rec (motive := fun _ => Bool) b a t
  | _ => false
noncomputable def runS (T : FT) (rec : ACode → List Value → Nat → HT → EK → Bool) (c : ACode) : List Value → Nat → HT → EK → Bool :=
  ACode.rec (motive := fun _ => List Value → Nat → HT → EK → Bool)
    (fun fr n t K => K .normal fr n t)
    (fun ops fr n t K => runOps (callE T rec) ops fr [] n t fun fr n t => K .normal fr n t)
    (fun ops fr n t K => runD (callE T rec) ops fr [] n t [] fun fr n t => K .normal fr n t)
    (fun _ _ iha ihb fr n t K => iha fr n t (seqK ihb K))
    (fun c _ _ iht ihe fr n t K => evX c fr [] fun v => condK v (iht fr n t K) (ihe fr n t K))
    (fun id _ ih fr n t K => ih fr n t (blockK id K))
    (fun c ih fr n t K => ih fr n t (seqK (rec (.loop c)) K))
    (fun id fr n t K => K (.exit id) fr n t)
    (fun fr n t K => K .ret fr n t)
    (fun _ _ _ _ _ _ _ _ _ _ => false) c
noncomputable def run (T : FT) (fuel : Nat) : ACode → List Value → Nat → HT → EK → Bool :=
  Nat.rec (motive := fun _ => ACode → List Value → Nat → HT → EK → Bool) (fun _ _ _ _ _ => false) (fun _ ih => runS T ih) fuel
def QP (K : EK) : AQ := fun e fr H => ∃ n t, Rp n t H ∧ K e fr n t = true
theorem QP_seq {P : Program} {ng : Nat} {c : ACode} {K : EK} {ihb : List Value → Nat → HT → EK → Bool} (hb : ∀ fr n t, ihb fr n t K = true → ∀ H, Rp n t H → W P ng c (QP K) fr H) (e : Exit) (fr : List Value) (H : AHeap) (h : QP (seqK ihb K) e fr H) : AQ.andThen (QP K) (W P ng c (QP K)) e fr H := by
  obtain ⟨n, t, r, h⟩ := h
  cases e with
  | normal => exact hb fr n t h H r
  | exit id => exact ⟨n, t, r, h⟩
  | ret => exact ⟨n, t, r, h⟩
  | goto l => exact ⟨n, t, r, h⟩
  | panic ch => exact ⟨n, t, r, h⟩
  | outgrown => exact ⟨n, t, r, h⟩
theorem callE_ok {P : Program} {ng : Nat} {T : FT} (hT : T.ok P ng) {rec : ACode → List Value → Nat → HT → EK → Bool} (hr : ∀ c fr n t K, rec c fr n t K = true → ∀ H, Rp n t H → W P ng c (QP K) fr H) : CallOK P ng (callE T rec) := by
  intro f xs n t K h H r
  obtain ⟨ef, ⟨af, h1, h2, h3, h4, h5⟩, h6⟩ := FT.find_true hT h
  obtain ⟨h7, h8⟩ := asT_true h6
  have hlen := Nat.eq_of_beq_eq_true h7
  rw [initK_eq] at h8
  have hw := hr _ _ _ _ _ h8 H r
  rw [← h4] at hw
  have hw2 := W_simp af.body hw
  refine walk h1 (by rw [hlen]; exact h5) ?_
  rw [h2]
  refine W_mono ?_ hw2
  rintro e fr H' ⟨n', t', r', h'⟩
  cases e with
  | normal => obtain ⟨v, h9, h10⟩ := resK_true r' h'; rw [h3]; exact ⟨v, h9, n', t', r', h10⟩
  | ret => obtain ⟨v, h9, h10⟩ := resK_true r' h'; rw [h3]; exact ⟨v, h9, n', t', r', h10⟩
  | exit id => cases h'
  | goto l => cases h'
  | panic ch => cases h'
  | outgrown => cases h'
theorem W_again {P : Program} {ng : Nat} {c : ACode} {Q : AQ} {fr : List Value} {H : AHeap} (h : W P ng c (Q.andThen (W P ng (.loop c) Q)) fr H) : W P ng (.loop c) Q fr H := by
  obtain ⟨e, fr1, H1, h1, h2⟩ := W_out c h
  by_cases he : e = .normal
  · subst he
    obtain ⟨I1, n1, g0, gs⟩ : ∃ (I : Nat → List Value → AHeap → Prop) (n : Nat), I n fr1 H1 ∧ ∀ k fr H, I k fr H → W P ng c (Q.andThen fun fr H => ∃ k', k' < k ∧ I k' fr H) fr H := h1
    refine ⟨fun k f h => (k = n1 + 1 ∧ f = fr ∧ h = H) ∨ (k ≤ n1 ∧ I1 k f h), n1 + 1, .inl ⟨rfl, rfl, rfl⟩, ?_⟩
    rintro k f h (⟨rfl, rfl, rfl⟩ | ⟨hk1, hI1⟩)
    · refine W_mono ?_ h2
      rintro e' fr' H' ⟨rfl, rfl, rfl⟩
      exact ⟨n1, by omega, .inr ⟨Nat.le_refl _, g0⟩⟩
    · refine W_mono ?_ (gs k f h hI1)
      intro e' fr' H' hh
      cases e' with
      | normal => obtain ⟨k2, a, b⟩ := hh; exact ⟨k2, a, .inr ⟨by omega, b⟩⟩
      | exit id => exact hh
      | ret => exact hh
      | goto l => exact hh
      | panic ch => exact hh
      | outgrown => exact hh
  · refine ⟨fun k f h => f = fr ∧ h = H, 0, ⟨rfl, rfl⟩, ?_⟩
    rintro k f h ⟨rfl, rfl⟩
    refine W_mono ?_ h2
    rintro e' fr' H' ⟨rfl, rfl, rfl⟩
    cases e' <;> first | exact absurd rfl he | exact h1
theorem runS_sound {P : Program} {ng : Nat} {T : FT} (hT : T.ok P ng) {rec : ACode → List Value → Nat → HT → EK → Bool} (hr : ∀ c fr n t K, rec c fr n t K = true → ∀ H, Rp n t H → W P ng c (QP K) fr H) :
    ∀ c fr n t K, runS T rec c fr n t K = true → ∀ H, Rp n t H → W P ng c (QP K) fr H := by
  have hcall := callE_ok hT hr
  intro c
  induction c with
  | skip => intro fr n t K h H r; exact ⟨n, t, r, h⟩
  | reg ops => intro fr n t K h H r; exact runOps_sound hcall (K := fun fr n t => K .normal fr n t) h r
  | dreg ops => intro fr n t K h H r; exact runD_sound hcall (K := fun fr n t => K .normal fr n t) h .nil r
  | seq a b iha ihb =>
    intro fr n t K h H r
    show W P ng a (AQ.andThen (QP K) (W P ng b (QP K))) fr H
    exact W_mono (QP_seq (fun fr n t h H r => ihb fr n t K h H r)) (iha fr n t _ h H r)
  | cond c a b iha ihb =>
    intro fr n t K h H r
    have e : runS T rec (.cond c a b) fr n t K = evX c fr [] fun v => condK v (runS T rec a fr n t K) (runS T rec b fr n t K) := rfl
    rw [e, evX_eq] at h
    simp only [W]
    unfold condK at h
    split at h
    · rename_i tt ht
      rw [ht]
      cases tt
      · exact ihb fr n t K h H r
      · exact iha fr n t K h H r
    · cases h
  | block id c ih =>
    intro fr n t K h H r
    show W P ng c (AQ.inBlock (QP K) id) fr H
    refine W_mono ?_ (ih fr n t _ h H r)
    rintro e fr' H' ⟨n', t', r', h'⟩
    cases e with
    | exit id' =>
      simp only [blockK] at h'
      simp only [AQ.inBlock]
      cases e : Nat.beq id' id
      · rw [e] at h'
        rw [if_neg (fun hh => by subst hh; rw [Nat.beq_refl] at e; cases e)]
        exact ⟨n', t', r', h'⟩
      · rw [e] at h'
        rw [if_pos (Nat.eq_of_beq_eq_true e)]
        exact ⟨n', t', r', h'⟩
    | normal => exact ⟨n', t', r', h'⟩
    | ret => exact ⟨n', t', r', h'⟩
    | goto l => exact ⟨n', t', r', h'⟩
    | panic ch => exact ⟨n', t', r', h'⟩
    | outgrown => exact ⟨n', t', r', h'⟩
  | loop c ih =>
    intro fr n t K h H r
    exact W_again (W_mono (QP_seq (c := .loop c) (fun fr n t h H r => hr (.loop c) fr n t K h H r)) (ih fr n t _ h H r))
  | exit id => intro fr n t K h H r; exact ⟨n, t, r, h⟩
  | ret => intro fr n t K h H r; exact ⟨n, t, r, h⟩
  | rangeF g N sl ps a b => intro fr n t K h H r; cases h
theorem run_sound {P : Program} {ng : Nat} {T : FT} (hT : T.ok P ng) : ∀ (fuel : Nat) (c : ACode) (fr : List Value) (n : Nat) (t : HT) (K : EK), run T fuel c fr n t K = true → ∀ H, Rp n t H → W P ng c (QP K) fr H
  | 0, c, fr, n, t, K, h => by cases h
  | m + 1, c, fr, n, t, K, h => runS_sound hT (rec := run T m) (run_sound hT m) c fr n t K h
noncomputable def runF (T : FT) (fuel : Nat) (f : FuncId) (xs : List Value) (n : Nat) (t : HT) (K : CK) : Bool := callE T (run T fuel) f xs n t K
theorem runF_sound {P : Program} {ng : Nat} {T : FT} (hT : T.ok P ng) {fuel : Nat} {f : FuncId} {xs : List Value} {n : Nat} {t : HT} {K : CK} (h : runF T fuel f xs n t K = true) {H : AHeap} (r : Rp n t H) : ∃ v H', ARun P ng f xs H v H' ∧ KP K v H' :=
  callE_ok hT (run_sound hT fuel) f xs n t K h H r
noncomputable def isTrue : CK := fun v _ _ => match v with
  | .bool b => b
  | _ => false
theorem isTrue_spec {v : Value} {H : AHeap} (h : KP isTrue v H) : v = .bool true := by
  obtain ⟨n, t, _, h⟩ := h
  cases v <;> first | (cases h; done) | skip
  rename_i b
  cases b
  · cases h
  · rfl
theorem Rp.empty : Rp 0 .leaf ⟨0, []⟩ := ⟨rfl, fun b => by simp [AHeap.get, HT.look]⟩
theorem HR.empty (w : World) : HR 0 (fun _ => none) (AHeap.get ⟨0, []⟩) w := ⟨fun b i h => (by cases h), fun _ _ _ _ _ _ _ h => (by cases h), fun _ _ h => (by cases h), fun g h => absurd h (Nat.not_lt_zero g)⟩
end Go.AM

set_option linter.unusedSimpArgs false
set_option linter.unusedVariables false
namespace Go.AM
theorem closed_any {P : Program} {T : FT} (hT : T.ok P 0) {fuel : Nat} {f : FuncId} (h : runF T fuel f [] 0 .leaf isTrue = true) (H : AHeap) : ARun P 0 f [] H (.bool true) H := by
  obtain ⟨v, H', ⟨h0, _, h1⟩, h2⟩ := runF_sound hT h Rp.empty
  have hv := isTrue_spec h2
  subst hv
  refine ⟨h0, Nat.le_refl _, fun σ w args' hr ha => ?_⟩
  cases ha
  refine (h1 (fun _ => none) w [] (HR.empty w) .nil).mono ?_
  rintro e w' ⟨v', σ', rfl, k1, k2, k3⟩
  have hk : ∀ k, k < w.heap.size → w'.heap[k]? = w.heap[k]? := fun k hk => k2.keep k hk (fun b i o hb => by cases hb)
  have hsz := k2.size
  refine ⟨v', σ, rfl, ⟨fun b i hb => ?_, hr.inj, fun b i hb => Nat.lt_of_lt_of_le (hr.lt b i hb) hsz, hr.glob⟩, ⟨Sg.le.refl σ, (fun b i h1 h2 => by rw [h1] at h2; cases h2), fun _ _ o' _ a b => ⟨o', a, b⟩, fun _ _ o' _ a b => ⟨o', a, b⟩, fun k a _ => hk k a, hsz, Nat.le_refl _, k2.os, k2.tape, k2.output⟩, ?_⟩
  · obtain ⟨o, a1, a2⟩ := hr.obj b i hb
    exact ⟨o, a1, a2.congr (fun _ => hk _ (hr.lt b i hb))⟩
  · rw [k3.bool_inv]; exact .bool _
def okFs (P : Program) (f : TypeId → Bool) : List Field → Nat → Nat → Bool
  | [], off, tot => off == tot
  | fd :: r, off, tot => fd.offset == off && f fd.type && okFs P f r (off + P.cellsOf fd.type) tot
def okT (P : Program) : Nat → TypeId → Bool
  | 0, _ => false
  | d + 1, t => match P.underlying t with
    | some .bool => P.cellsOf t == 1
    | some (.int _) => P.cellsOf t == 1
    | some .string => P.cellsOf t == 1
    | some (.slice e) => P.cellsOf t == 1 && decide (0 < P.cellsOf e) && okT P d e
    | some (.struct fs) => okFs P (okT P d) fs.toList 0 (P.cellsOf t)
    | some (.array n e) => n * P.cellsOf e == P.cellsOf t && okT P d e
    | _ => false
inductive AR (P : Program) (G : Gf) : TypeId → List Value → Prop
  | bool {t : TypeId} {b : Bool} (h : P.underlying t = some .bool) : AR P G t [.bool b]
  | int {t : TypeId} {k : IntKind} {n : Int} (h : P.underlying t = some (.int k)) (hw : (Lit.int k n).wf = true) : AR P G t [.int k n]
  | str {t : TypeId} {s : ByteArray} (h : P.underlying t = some .string) (hs : s.size ≤ maxLen ∧ s.size ≤ reachBytes) : AR P G t [.string s]
  | nil {t e : TypeId} (h : P.underlying t = some (.slice e)) : AR P G t [.slice none 0 0]
  | zero {t e : TypeId} {x : Addr} (h : P.underlying t = some (.slice e)) (hx : x.spot.isSome = true) : AR P G t [.slice (some x) 0 0]
  | sl {t e : TypeId} {b n k : Nat} {c : List Value} {u : TypeId} (h : P.underlying t = some (.slice e)) (hk : 0 < k) (hn : n ≤ k) (hm : k ≤ maxLen ∧ k * P.bytesOf e ≤ reachBytes) (hb : G b = some (.cells false false (P.cellsOf e) c u)) (hc : c.length = k * P.cellsOf e)
      (hi : ∀ i, i < k → AR P G e ((c.drop (i * P.cellsOf e)).take (P.cellsOf e))) : AR P G t [slc b 0 n k]
  | struct {t : TypeId} {fs : Array Field} {cs : List Value} (h : P.underlying t = some (.struct fs)) (hl : cs.length = P.cellsOf t)
      (hf : ∀ (i : Nat) (f : Field), fs[i]? = some f → AR P G f.type ((cs.drop f.offset).take (P.cellsOf f.type))) : AR P G t cs
  | array {t e : TypeId} {n : Nat} {cs : List Value} (h : P.underlying t = some (.array n e)) (hl : cs.length = P.cellsOf t)
      (hi : ∀ i, i < n → AR P G e ((cs.drop (i * P.cellsOf e)).take (P.cellsOf e))) : AR P G t cs
theorem AR.mono {P : Program} {G G' : Gf} (hg : ∀ b o, G b = some o → G' b = some o) {t : TypeId} {cs : List Value} (h : AR P G t cs) : AR P G' t cs := by
  induction h with
  | bool h => exact .bool h
  | int h hw => exact .int h hw
  | str h hs => exact .str h hs
  | nil h => exact .nil h
  | zero h hx => exact .zero h hx
  | sl h hk hn hm hb hc _ ih => exact .sl h hk hn hm (hg _ _ hb) hc ih
  | struct h hl _ ih => exact .struct h hl ih
  | array h hl _ ih => exact .array h hl ih
def NoOwn (H : AHeap) : Prop := ∀ b o, H.get b = some o → o.own = false
section
variable {H0 : Type} {enc : TypeId × Value → H0} {P : Program} {w : World} {ng : Nat}
structure Opened (P : Program) (ng : Nat) (w : World) (σ : Sg) (H : AHeap) (σ' : Sg) (H' : AHeap) : Prop where
  le : σ.le σ'
  keep : Keeps H H'
  hr : HR ng σ' H'.get w
  no : NoOwn H'
theorem Opened.refl {σ : Sg} {H : AHeap} (hr : HR ng σ H.get w) (no : NoOwn H) : Opened P ng w σ H σ H := ⟨Sg.le.refl σ, Keeps.refl H, hr, no⟩
theorem Opened.trans {σ σ1 σ2 : Sg} {H H1 H2 : AHeap} (h : Opened P ng w σ H σ1 H1) (k : Opened P ng w σ1 H1 σ2 H2) : Opened P ng w σ H σ2 H2 := ⟨h.le.trans k.le, h.keep.trans k.keep, k.hr, k.no⟩
theorem Keeps.ar {H H' : AHeap} (k : Keeps H H') {t : TypeId} {cs : List Value} (h : AR P H.get t cs) : AR P H'.get t cs := h.mono (fun b o hb => k.at_ hb)
def OpenP (P : Program) (ng : Nat) (w : World) (t : TypeId) (cs : List Value) : Prop := ∀ σ H, HR ng σ H.get w → NoOwn H → ∃ σ' H' cs', Opened P ng w σ H σ' H' ∧ VL σ' cs' cs ∧ AR P H'.get t cs' ∧ ∀ v ∈ cs', v.oneCell' = true
theorem open_row {e : TypeId} {z : Nat} : ∀ (k : Nat) (css : Nat → List Value), (∀ i, i < k → (css i).length = z ∧ OpenP P ng w e (css i)) → ∀ σ H, HR ng σ H.get w → NoOwn H →
    ∃ σ' H' c, Opened P ng w σ H σ' H' ∧ VL σ' c ((List.range k).flatMap css) ∧ c.length = k * z ∧ (∀ v ∈ c, v.oneCell' = true) ∧ ∀ i, i < k → AR P H'.get e ((c.drop (i * z)).take z)
  | 0, css, _, σ, H, hr, no => ⟨σ, H, [], Opened.refl hr no, .nil, by simp, by simp, fun i hi => by omega⟩
  | k + 1, css, h, σ, H, hr, no => by
    obtain ⟨σ1, H1, c, h1, h2, h3, h4, h5⟩ := open_row k css (fun i hi => h i (by omega)) σ H hr no
    obtain ⟨hz, hop⟩ := h k (by omega)
    obtain ⟨σ2, H2, cs', g1, g2, g3, g4⟩ := hop σ1 H1 h1.hr h1.no
    have hl : cs'.length = z := by rw [g2.length, hz]
    refine ⟨σ2, H2, c ++ cs', h1.trans g1, ?_, by rw [List.length_append, h3, hl, Nat.add_mul]; omega, ?_, ?_⟩
    · rw [List.range_succ, List.flatMap_append]
      simpa using (h2.mono g1.le).append g2
    · intro v hv
      rcases List.mem_append.1 hv with hv | hv
      · exact h4 v hv
      · exact g4 v hv
    · intro i hi
      by_cases hik : i < k
      · have hle : i * z + z ≤ c.length := by
          rw [h3]
          have : (i + 1) * z ≤ k * z := Nat.mul_le_mul_right _ hik
          rw [Nat.add_mul] at this
          omega
        rw [List.drop_append_of_le_length (by omega), List.take_append_of_le_length (by rw [List.length_drop]; omega)]
        exact g1.keep.ar (h5 i hik)
      · have : i = k := by omega
        subst this
        rw [← h3, List.drop_left, ← hl, List.take_length]
        exact g3
theorem open_fields {cs : List Value} {tot : Nat} {f : TypeId → Bool} : ∀ (fs : List Field) (off : Nat), okFs P f fs off tot = true → off ≤ cs.length → cs.length = tot →
    (∀ fd ∈ fs, f fd.type = true → OpenP P ng w fd.type ((cs.drop fd.offset).take (P.cellsOf fd.type))) → (∀ fd ∈ fs, f fd.type = true → ((cs.drop fd.offset).take (P.cellsOf fd.type)).length = P.cellsOf fd.type) → ∀ σ H, HR ng σ H.get w → NoOwn H →
    ∃ σ' H' c, Opened P ng w σ H σ' H' ∧ VL σ' c (cs.drop off) ∧ (∀ v ∈ c, v.oneCell' = true) ∧ ∀ fd ∈ fs, off ≤ fd.offset ∧ AR P H'.get fd.type ((c.drop (fd.offset - off)).take (P.cellsOf fd.type))
  | [], off, hk, hle, ht, _, _, σ, H, hr, no => by
    simp only [okFs, beq_iff_eq] at hk
    refine ⟨σ, H, [], Opened.refl hr no, ?_, by simp, by simp⟩
    rw [List.drop_eq_nil_of_le (by omega)]; exact .nil
  | fd :: fs, off, hk, hle, ht, hop, hfit, σ, H, hr, no => by
    simp only [okFs, Bool.and_eq_true, beq_iff_eq] at hk
    obtain ⟨⟨h1, h2⟩, h3⟩ := hk
    have hft0 := hfit fd (by simp) h2
    have hft : fd.offset + P.cellsOf fd.type ≤ cs.length := by rw [List.length_take, List.length_drop] at hft0; omega
    obtain ⟨σ1, H1, c1, g1, g2, g3, g4⟩ := hop fd (by simp) h2 σ H hr no
    obtain ⟨σ2, H2, c2, k1, k2, k3, k4⟩ := open_fields fs (off + P.cellsOf fd.type) h3 (by omega) ht (fun x hx => hop x (by simp [hx])) (fun x hx => hfit x (by simp [hx])) σ1 H1 g1.hr g1.no
    have hl : c1.length = P.cellsOf fd.type := by rw [g2.length, List.length_take, List.length_drop]; omega
    refine ⟨σ2, H2, c1 ++ c2, g1.trans k1, ?_, ?_, ?_⟩
    · have e : cs.drop off = (cs.drop fd.offset).take (P.cellsOf fd.type) ++ cs.drop (off + P.cellsOf fd.type) := by
        rw [h1, ← List.drop_drop, List.take_append_drop]
      rw [e]
      exact (g2.mono k1.le).append k2
    · intro v hv
      rcases List.mem_append.1 hv with hv | hv
      · exact g4 v hv
      · exact k3 v hv
    · intro x hx
      rcases List.mem_cons.1 hx with rfl | hx
      · refine ⟨by omega, ?_⟩
        rw [h1, Nat.sub_self, List.drop_zero, ← hl, List.take_left]
        exact k1.keep.ar g3
      · obtain ⟨a1, a2⟩ := k4 x hx
        refine ⟨by omega, ?_⟩
        rw [show x.offset - off = c1.length + (x.offset - (off + P.cellsOf fd.type)) by omega, List.drop_length_add_append]
        exact a2
theorem row_flat (l : List Value) (o z : Nat) : ∀ k, (List.range k).flatMap (fun i => (l.drop (o + i * z)).take z) = (l.drop o).take (k * z)
  | 0 => by simp
  | k + 1 => by
    rw [List.range_succ, List.flatMap_append, row_flat l o z k, Nat.add_mul, Nat.one_mul, List.take_add, List.drop_drop]
    simp
theorem cells_of {b : Nat} {a : Addr} {n : Nat} {l : List Value} (h : w.cells? b a n = some l) : l.length = n ∧ ∀ i, i < n → w.cell? (a.add i) = l[i]? := by
  unfold World.cells? at h
  split at h
  · exact ⟨by simpa using mapM_some_length h, fun i hi => mapM_some_get h i i (by simp [hi])⟩
  · cases h
def Rch (P : Program) (t : TypeId) (d : DataW H0) : Prop := ∀ m ∈ d.weights P t, m ≤ reachBytes
theorem rch_all {e : TypeId} : ∀ {l : List (DataW H0)}, (∀ m ∈ DataW.weightsAll P e l, m ≤ reachBytes) → ∀ d ∈ l, Rch P e d
  | [], _, d, hd => by simp at hd
  | y :: l, h, d, hd => by
    simp only [DataW.weightsAll, List.mem_append] at h
    rcases List.mem_cons.1 hd with rfl | hd
    · exact fun m hm => h m (.inl hm)
    · exact rch_all (fun m hm => h m (.inr hm)) d hd
theorem mem_weightsAll {e : TypeId} {m : Nat} : ∀ {l : List (DataW H0 × List MemPlace)} {y : DataW H0 × List MemPlace}, y ∈ l → m ∈ y.1.weights P e → m ∈ DataW.weightsAll P e (l.map (·.1))
  | [], _, hy, _ => by simp at hy
  | z :: zs, y, hy, hm => by
    simp only [List.map_cons, DataW.weightsAll, List.mem_append]
    rcases List.mem_cons.1 hy with rfl | hy
    · exact .inl hm
    · exact .inr (mem_weightsAll hy hm)
theorem rch_each : ∀ {ts : List TypeId} {l : List (DataW H0)}, (∀ m ∈ DataW.weightsEach P ts l, m ≤ reachBytes) → ∀ (i : Nat) t d, ts[i]? = some t → l[i]? = some d → Rch P t d
  | [], _, _, i, t, d, h1, _ => by simp at h1
  | _ :: _, [], _, i, t, d, _, h2 => by simp at h2
  | t0 :: ts, y :: l, h, i, t, d, h1, h2 => by
    simp only [DataW.weightsEach, List.mem_append] at h
    cases i with
    | zero => simp only [List.getElem?_cons_zero, Option.some.injEq] at h1 h2; subst h1 h2; exact fun m hm => h m (.inl hm)
    | succ i => exact rch_each (fun m hm => h m (.inr hm)) i t d (by simpa using h1) (by simpa using h2)
theorem open_cells : ∀ (fuel : Nat) (d : Nat) (t : TypeId) (cs : List Value) (x : DataW H0 × List MemPlace), okT P d t = true → Rch P t x.1 → DataW.trod enc P w 0 (fun _ => true) true fuel t cs = some x → cs.length = P.cellsOf t ∧ OpenP P ng w t cs := by
  intro fuel
  induction fuel with
  | zero => intro d t cs x _ _ h; simp [DataW.trod] at h
  | succ fuel ih =>
    intro d t cs x hok hx h
    cases d with
    | zero => simp [okT] at hok
    | succ d =>
      simp only [okT] at hok
      split at hok
      · rename_i hu
        obtain ⟨b, rfl, _⟩ := DataW.trod_bool hu h
        exact ⟨by simpa using (beq_iff_eq.1 hok).symm, fun σ H hr no => ⟨σ, H, [.bool b], Opened.refl hr no, .cons (.bool b) .nil, .bool hu, by simp [Value.oneCell']⟩⟩
      · rename_i k hu
        obtain ⟨n, rfl, _, hw⟩ := DataW.trod_int hu h
        exact ⟨by simpa using (beq_iff_eq.1 hok).symm, fun σ H hr no => ⟨σ, H, [.int k n], Opened.refl hr no, .cons (.int k n) .nil, .int hu hw, by simp [Value.oneCell']⟩⟩
      · rename_i hu
        obtain ⟨s, rfl, rfl, hs⟩ := DataW.trod_string hu h
        have hs2 : s.size ≤ reachBytes := hx _ (by simp only [DataW.weights, List.mem_singleton, Array.length_toList]; rfl)
        exact ⟨by simpa using (beq_iff_eq.1 hok).symm, fun σ H hr no => ⟨σ, H, [.string s], Opened.refl hr no, .cons (.string s) .nil, .str hu ⟨hs, hs2⟩, by simp [Value.oneCell']⟩⟩
      · rename_i e hu
        simp only [Bool.and_eq_true, beq_iff_eq, decide_eq_true_eq] at hok
        obtain ⟨⟨hc1, hz⟩, hoke⟩ := hok
        rcases DataW.trod_slice hu h with ⟨rfl, _⟩ | ⟨a, len, cap, elems, rest, m, hfu, rfl, rfl, _, hlc, hcm, hel, helems, hrest, _⟩
        · exact ⟨by simpa using hc1.symm, fun σ H hr no => ⟨σ, H, [.slice none 0 0], Opened.refl hr no, .cons .nilSl .nil, .nil hu, by simp [Value.oneCell']⟩⟩
        · cases hfu
          refine ⟨by simpa using hc1.symm, fun σ H hr no => ?_⟩
          by_cases hcap : cap = 0
          · subst hcap
            have : len = 0 := by omega
            subst this
            exact ⟨σ, H, [.slice (some ⟨0, 0, some 0⟩) 0 0], Opened.refl hr no, .cons (.slz rfl) .nil, .zero hu rfl, by simp [Value.oneCell']⟩
          · obtain ⟨hr1, hr2⟩ := hrest rfl
            have hx2 : cap * P.bytesOf e ≤ reachBytes := by
              refine hx _ ?_
              unfold DataW.weights
              rw [hu]
              simp only [List.length_map, hel, hr1, show len + (cap - len) = cap by omega]
              exact List.mem_cons_self
            have hx3 : ∀ y ∈ elems, Rch P e y.1 := fun y hy m hm => hx m (by
              unfold DataW.weights
              rw [hu]
              exact List.mem_cons_of_mem _ (List.mem_append.2 (.inl (mem_weightsAll hy hm))))
            have hx4 : ∀ y ∈ rest, Rch P e y.1 := fun y hy m hm => hx m (by
              unfold DataW.weights
              rw [hu]
              exact List.mem_cons_of_mem _ (List.mem_append.2 (.inr (mem_weightsAll hy hm))))
            have elem : ∀ i, i < cap → ∃ l, w.cells? 0 (a.add (i * P.cellsOf e)) (P.cellsOf e) = some l ∧ ∃ y, Rch P e y.1 ∧ DataW.trod enc P w 0 (fun _ => true) true fuel e l = some y := by
              intro i hi
              by_cases hil : i < len
              · have := helems i hil
                rw [List.getElem?_eq_getElem (by omega)] at this
                simp only [Option.bind_eq_some_iff] at this
                obtain ⟨l, h1, h2⟩ := this
                exact ⟨l, h1, _, hx3 _ (List.getElem_mem _), h2⟩
              · have := hr2 (i - len) (by omega)
                rw [List.getElem?_eq_getElem (by omega), show len + (i - len) = i by omega] at this
                simp only [Option.bind_eq_some_iff] at this
                obtain ⟨l, h1, h2⟩ := this
                exact ⟨l, h1, _, hx4 _ (List.getElem_mem _), h2⟩
            -- the block
            obtain ⟨l0, hl0, _⟩ := elem 0 (by omega)
            obtain ⟨hl0n, hl0c⟩ := cells_of hl0
            have hc0 := hl0c 0 hz
            rw [Nat.zero_mul, show a.add 0 = a by simp [Addr.add], show a.add 0 = a by simp [Addr.add], List.getElem?_eq_getElem (by omega)] at hc0
            obtain ⟨cc, ty, fr, hblk, hspot, hc0'⟩ : ∃ cc ty fr, w.heap[a.block]? = some (.cells cc ty fr) ∧ a.spot = none ∧ cc[a.off]? = some (l0[0]'(by omega)) := by
              unfold World.cell? at hc0
              split at hc0
              · rename_i cc ty fr hb
                split at hc0
                · cases hc0
                · rename_i hs
                  exact ⟨cc, ty, fr, hb, by simpa using hs, hc0⟩
              · cases hc0
            obtain ⟨ab, ao, asp⟩ := a
            simp only at hspot hblk hc0'
            subst hspot
            have cell : ∀ j, w.cell? ⟨ab, j, none⟩ = cc[j]? := fun j => by simp [World.cell?, hblk]
            have elem2 : ∀ i, i < cap → ((cc.toList.drop (ao + i * P.cellsOf e)).take (P.cellsOf e)).length = P.cellsOf e ∧ OpenP P ng w e ((cc.toList.drop (ao + i * P.cellsOf e)).take (P.cellsOf e)) := by
              intro i hi
              obtain ⟨l, h1, y, hyr, h2⟩ := elem i hi
              obtain ⟨hln, hlc⟩ := cells_of h1
              have hl : l = (cc.toList.drop (ao + i * P.cellsOf e)).take (P.cellsOf e) := by
                apply List.ext_getElem?
                intro j
                by_cases hj : j < P.cellsOf e
                · rw [← hlc j hj, List.getElem?_take_of_lt hj, List.getElem?_drop, add_plain, add_plain, cell]
                  simp
                · rw [List.getElem?_eq_none (by omega), List.getElem?_eq_none (by rw [List.length_take]; omega)]
              rw [← hl]
              have := ih d e l y hoke hyr h2
              exact ⟨hln, this.2⟩
            obtain ⟨σ1, H1, c, g1, g2, g3, g4, g5⟩ := open_row cap (fun i => (cc.toList.drop (ao + i * P.cellsOf e)).take (P.cellsOf e)) elem2 σ H hr no
            rw [row_flat] at g2
            have hsz : ao + cap * P.cellsOf e ≤ cc.size ∧ 0 < cap * P.cellsOf e := by
              have h1 := g2.length
              have h2 : 0 < cap * P.cellsOf e := Nat.mul_pos (by omega) hz
              rw [g3, List.length_take, List.length_drop, Array.length_toList] at h1
              omega
            have hnone := g1.hr.none_of_ge (Nat.le_refl H1.n)
            have hlt : ab < w.heap.size := by
              by_cases hh : ab < w.heap.size
              · exact hh
              · rw [Array.getElem?_eq_none (by omega)] at hblk; cases hblk
            let bi : BI := ⟨ab, ao, cap * P.cellsOf e, cc.size - ao, P.cellsOf e, false⟩
            let o2 : AO := .cells false false (P.cellsOf e) c ty
            have hor : OR σ1 w bi o2 := ⟨g3.symm, rfl, rfl, by show c.length ≤ cc.size - ao; omega, g4, cc, fr, hblk, by show cc.size = ao + (cc.size - ao); omega, by rw [g3]; exact g2, by simp⟩
            have hadd := HR.add (o2 := o2) (G' := (H1.alloc o2).get) g1.hr hnone (fun x hx => AHeap.get_alloc_ne H1 o2 hx) (AHeap.get_alloc_new H1 o2) hlt hor (fun x j ox _ hox hh => by
              have := g1.no x ox hox
              rcases hh with ⟨_, h2⟩ | ⟨h2, _⟩
              · cases h2
              · rw [this] at h2; cases h2)
            have hk : Keeps H1 (H1.alloc o2) := (Keeps.refl H1).alloc o2
            refine ⟨σ1.up H1.n bi, H1.alloc o2, [slc H1.n 0 len cap], g1.trans ⟨Sg.le_up _ hnone, hk, hadd, fun b o hb => ?_⟩, .cons ?_ .nil, ?_, by simp [slc, Value.oneCell']⟩
            · rw [alloc_get] at hb
              split at hb
              · cases hb; rfl
              · exact g1.no b o hb
            · exact VR.sl (i := bi) (o := 0) (Sg.up_same _ _ _) hlc (.inl rfl)
            · exact .sl hu (by omega) hlc ⟨hcm, hx2⟩ (AHeap.get_alloc_new H1 o2) g3 (fun i hi => hk.ar (g5 i hi))
      · rename_i fs hu
        obtain ⟨xs, m, hfu, rfl, hl, hxl, hxs⟩ := DataW.trod_struct hu h
        cases hfu
        have hx2 := rch_each (P := P) (ts := fs.toList.map (·.type)) (l := xs.map (·.1)) (fun m hm => hx m (by unfold DataW.weights; rw [hu]; exact hm))
        refine ⟨hl, fun σ H hr no => ?_⟩
        have each : ∀ fd ∈ fs.toList, okT P d fd.type = true → ((cs.drop fd.offset).take (P.cellsOf fd.type)).length = P.cellsOf fd.type ∧ OpenP P ng w fd.type ((cs.drop fd.offset).take (P.cellsOf fd.type)) := by
          intro fd hfd hokf
          obtain ⟨i, hi, hfi⟩ := List.mem_iff_getElem.1 hfd
          have hi' : i < fs.size := by simpa using hi
          have h1 : fs[i]? = some fd := by
            rw [Array.getElem?_eq_getElem hi']
            rw [← hfi]; simp
          have h2 := hxs i fd h1
          rw [List.getElem?_eq_getElem (by omega)] at h2
          exact ih d fd.type _ _ hokf (hx2 i fd.type _ (by simpa using ⟨fd, h1, rfl⟩) (by simp [List.getElem?_eq_getElem (show i < xs.length by omega)])) h2
        obtain ⟨σ', H', c, g1, g2, g3, g4⟩ := open_fields fs.toList 0 hok (Nat.zero_le _) hl (fun fd hfd hf => (each fd hfd hf).2) (fun fd hfd hf => (each fd hfd hf).1) σ H hr no
        rw [List.drop_zero] at g2
        refine ⟨σ', H', c, g1, g2, .struct hu (by rw [g2.length, hl]) (fun i f hf => ?_), g3⟩
        have := (g4 f (by
          have : fs.toList[i]? = some f := by simpa using hf
          exact List.mem_of_getElem? this)).2
        simpa using this
      · rename_i n e hu
        simp only [Bool.and_eq_true, beq_iff_eq] at hok
        obtain ⟨hn, hoke⟩ := hok
        obtain ⟨xs, m, hfu, rfl, hl, hxl, hxs⟩ := DataW.trod_array hu h
        cases hfu
        have hx2 := rch_all (P := P) (e := e) (l := xs.map (·.1)) (fun m hm => hx m (by unfold DataW.weights; rw [hu]; exact hm))
        refine ⟨hl, fun σ H hr no => ?_⟩
        obtain ⟨σ', H', c, g1, g2, g3, g4, g5⟩ := open_row (P := P) (ng := ng) (w := w) (e := e) (z := P.cellsOf e) n (fun i => (cs.drop (0 + i * P.cellsOf e)).take (P.cellsOf e)) (fun i hi => by
          have h2 := hxs i hi
          rw [List.getElem?_eq_getElem (by omega)] at h2
          rw [Nat.zero_add]
          exact ih d e _ _ hoke (hx2 _ (List.mem_map_of_mem (List.getElem_mem _))) h2) σ H hr no
        rw [row_flat, List.drop_zero, hn, ← hl, List.take_length] at g2
        exact ⟨σ', H', c, g1, g2, .array hu (by rw [g3, hn]) g5, g4⟩
      · cases hok
end
end Go.AM

set_option linter.unusedSimpArgs false
set_option linter.unusedVariables false
namespace Go.AM
open Go.RowKit Go.WideShapes Go.ChangeShapes
section
variable {H0 : Type} {enc : TypeId × Value → H0} {P : Program} {w : World} {ng : Nat}
def AV (P : Program) (G : Gf) (t : TypeId) (v : Value) : Prop := AR P G t v.cells.toList ∧ (isAggT P t = some true → ∃ cs, v = .agg cs) ∧ (isAggT P t = some false → v.oneCell' = true)
def AVs (P : Program) (G : Gf) : List TypeId → List Value → Prop
  | [], [] => True
  | t :: ts, v :: vs => AV P G t v ∧ AVs P G ts vs
  | _, _ => False
theorem AV.mono {G G' : Gf} (hg : ∀ b o, G b = some o → G' b = some o) {t : TypeId} {v : Value} (h : AV P G t v) : AV P G' t v := ⟨h.1.mono hg, h.2⟩
theorem AVs.mono {G G' : Gf} (hg : ∀ b o, G b = some o → G' b = some o) : ∀ {ts : List TypeId} {vs : List Value}, AVs P G ts vs → AVs P G' ts vs
  | [], [], _ => trivial
  | _ :: _, _ :: _, ⟨a, b⟩ => ⟨a.mono hg, AVs.mono hg b⟩
  | [], _ :: _, h => h.elim
  | _ :: _, [], h => h.elim
theorem okWide_shape {t : TypeId} {v : Value} {d : Nat} (hok : okT P d t = true) (hv : Value.okWide P w .any 0 t v) : (∃ cs, v = .agg cs ∧ isAggT P t = some true) ∨ (v.cells = #[v] ∧ isAggT P t = some false ∧ v.oneCell' = true) := by
  cases d with
  | zero => simp [okT] at hok
  | succ d =>
    simp only [okT] at hok
    split at hok
    · rename_i hu
      obtain ⟨b, rfl⟩ := okWide_bool hu hv
      exact .inr ⟨rfl, by unfold isAggT; rw [hu]; rfl, rfl⟩
    · rename_i hu
      obtain ⟨b, rfl⟩ := okWide_int hu hv
      exact .inr ⟨rfl, by unfold isAggT; rw [hu]; rfl, rfl⟩
    · rename_i hu
      obtain ⟨b, rfl⟩ := okWide_string hu hv
      exact .inr ⟨rfl, by unfold isAggT; rw [hu]; rfl, rfl⟩
    · rename_i hu
      obtain ⟨a, n, k, rfl⟩ := okWide_slice hu hv
      exact .inr ⟨rfl, by unfold isAggT; rw [hu]; rfl, rfl⟩
    · rename_i hu
      obtain ⟨cs, rfl, _⟩ := okWide_struct hu hv
      exact .inl ⟨cs, rfl, by unfold isAggT; rw [hu]; rfl⟩
    · rename_i n e hu
      unfold Value.okWide at hv
      rw [hu] at hv
      obtain ⟨cs, rfl, _⟩ := hv
      exact .inl ⟨cs, rfl, by unfold isAggT; rw [hu]; rfl⟩
    · cases hok
theorem open_arg {t : TypeId} {v : Value} {d : DataW H0} {ps : List MemPlace} (hok : okT P 20 t = true) (hv : Value.okWide P w .any 0 t v) (hx : Rch P t d) (h : DataW.Trod enc P w 0 (fun _ => true) true t v d ps) {σ : Sg} {H : AHeap} (hr : HR ng σ H.get w) (no : NoOwn H) :
    ∃ σ' H' v', Opened P ng w σ H σ' H' ∧ VR σ' v' v ∧ AV P H'.get t v' := by
  obtain ⟨fuel, hf⟩ := h
  obtain ⟨hl, hop⟩ := open_cells (ng := ng) fuel 20 t _ _ hok hx hf
  obtain ⟨σ', H', cs', g1, g2, g3, g4⟩ := hop σ H hr no
  rcases okWide_shape hok hv with ⟨cs, rfl, hag⟩ | ⟨hc, hag, hone⟩
  · refine ⟨σ', H', .agg cs'.toArray, g1, ?_, g3, fun _ => ⟨_, rfl⟩, (fun h => by rw [hag] at h; cases h)⟩
    have := VR.agg_of g2
    simpa [Value.cells] using this
  · rw [hc] at g2
    match cs', g2 with
    | [u], .cons hu .nil =>
      have h1 := g4 u (by simp)
      refine ⟨σ', H', u, g1, hu, ?_, (fun h => by rw [hag] at h; cases h), fun _ => h1⟩
      rw [cells_one h1]; exact g3
theorem open_args : ∀ {ts : List TypeId} {vs : List Value} {ds : List (DataW H0)} {ps : List MemPlace}, (∀ t ∈ ts, okT P 20 t = true) → (∀ (j : Nat) t v, ts[j]? = some t → vs[j]? = some v → Value.okWide P w .any 0 t v) → (∀ m ∈ DataW.weightsEach P ts ds, m ≤ reachBytes) → DataW.TrodAll enc P w 0 (fun _ => true) true ts vs ds ps →
    ∀ {σ : Sg} {H : AHeap}, HR ng σ H.get w → NoOwn H → ∃ σ' H' vs', Opened P ng w σ H σ' H' ∧ VL σ' vs' vs ∧ AVs P H'.get ts vs'
  | [], vs, ds, ps, _, _, _, h, σ, H, hr, no => by
    obtain ⟨rfl, _, _⟩ := trodAll_nil h
    exact ⟨σ, H, [], Opened.refl hr no, .nil, trivial⟩
  | t :: ts, vs, ds, ps, hok, hv, hx, h, σ, H, hr, no => by
    obtain ⟨v, vs', d, ds', p, q, rfl, rfl, rfl, h1, h2⟩ := trodAll_cons h
    obtain ⟨σ1, H1, u, g1, g2, g3⟩ := open_arg (ng := ng) (hok t (by simp)) (hv 0 t v rfl rfl) (fun m hm => hx m (List.mem_append.2 (.inl hm))) h1 hr no
    obtain ⟨σ2, H2, us, k1, k2, k3⟩ := open_args (fun t ht => hok t (by simp [ht])) (fun j t v a b => hv (j + 1) t v (by simpa using a) (by simpa using b)) (fun m hm => hx m (List.mem_append.2 (.inr hm))) h2 g1.hr g1.no
    exact ⟨σ2, H2, u :: us, g1.trans k1, .cons (g2.mono k1.le) k2, g3.mono (fun b o hb => k1.keep.at_ hb), k3⟩
def globsH (n : Nat) : AHeap := ⟨n, List.replicate n .dead⟩
theorem globsH_get {n b : Nat} (h : b < n) : (globsH n).get b = some .dead := by
  unfold globsH AHeap.get
  simp only [h, if_true]
  rw [List.getElem?_replicate, if_pos (by omega)]
theorem HR.globs (n : Nat) (w : World) (h : n ≤ w.heap.size) : HR n (fun b => if b < n then some ⟨b, 0, 0, 0, 0, false⟩ else none) (globsH n).get w := by
  refine ⟨fun b i hb => ?_, fun b1 b2 i1 i2 o1 o2 _ h1 _ g1 _ hw => ?_, fun b i hb => ?_, fun g hg => ⟨⟨g, 0, 0, 0, 0, false⟩, by simp [hg], rfl, rfl⟩⟩
  · by_cases hn : b < n
    · exact ⟨.dead, globsH_get hn, trivial⟩
    · simp [hn] at hb
  · by_cases hn : b1 < n
    · rw [globsH_get hn] at g1; cases g1; cases hw
    · simp [hn] at h1
  · by_cases hn : b < n
    · simp only [hn, if_true, Option.some.injEq] at hb; subst hb; exact Nat.lt_of_lt_of_le hn h
    · simp [hn] at hb
theorem globsH_no (n : Nat) : NoOwn (globsH n) := fun b o h => by
  have hb : b < n := AHeap.get_lt h
  rw [globsH_get hb] at h
  cases h; rfl
theorem law_calls {ng : Nat} {f : FuncId} {ts : List TypeId} (hts : ∀ t ∈ ts, okT P 20 t = true) (hlaw : ∀ H args, NoOwn H → AVs P H.get ts args → ∃ H', ARun P ng f args H (.bool true) H') {args : Array Value} {ds : List (DataW H0)} {ps : List MemPlace}
    (hA : DataW.TrodAll enc P w 0 (fun _ => true) true ts args.toList ds ps) (hws : (DataW.weightsEach P ts ds).all (· ≤ reachBytes) = true) (hval : ∀ (j : Nat) t v, ts[j]? = some t → args[j]? = some v → Value.okWide P w .any 0 t v)
    (hng : ng ≤ w.heap.size := by exact Nat.zero_le _) (hb : bodiedB P f = true := by kernel_rfl) :
    Calls P f args w fun e w' => e = .returned (.bool true) ∧ Below w.heap.size w w' := by
  obtain ⟨σ, H, args', g1, g2, g3⟩ := open_args (ng := ng) hts (fun j t v a b => hval j t v a (by simpa using b)) (fun m hm => by simpa using List.all_eq_true.1 hws m hm) hA (HR.globs ng w hng) (globsH_no ng)
  obtain ⟨H', _, _, hrun⟩ := hlaw H args' g1.no g3
  refine ((hrun σ w args.toList g1.hr g2).calls (bodied_of hb)).mono ?_
  rintro e w' ⟨v', σ', rfl, k1, k2, k3⟩
  rw [k3.bool_inv]
  refine ⟨rfl, k2.os, k2.tape, k2.output, k2.size, fun k hk => k2.keep k hk (fun b i o hb ho hown => ?_)⟩
  rw [g1.no b o ho] at hown; cases hown
theorem trodAll_stays (hl : laidOutB P = true) {W W' : World} (hb : Below W.heap.size W W') {sp : Nat → Bool} : ∀ {ts : List TypeId} {vs : List Value} {ds : List (DataW H0)} {ps : List MemPlace}, (∀ t ∈ ts, P.readableRec t = true ∧ t < P.types.size) →
    DataW.TrodAll enc P W 0 (fun _ => true) true ts vs ds ps → (∀ x ∈ ps, x.block < W.heap.size) → (∀ p ∈ ps, sp p.block = true) → DataW.TrodAll enc P W' 0 sp true ts vs ds ps
  | [], vs, ds, ps, _, h, _, _ => by obtain ⟨rfl, rfl, rfl⟩ := trodAll_nil h; rfl
  | t :: ts, vs, ds, ps, hr, h, hlt, hsp => by
    obtain ⟨v, vs', d, ds', p, q, rfl, rfl, rfl, h1, h2⟩ := trodAll_cons h
    obtain ⟨r1, r2⟩ := hr t (by simp)
    exact ⟨p, q, WideElems.Trod_stays hl r1 r2 h1 (fun x hx => hb.same (hlt x (by simp [hx]))) (fun x hx => hsp x (by simp [hx])),
      trodAll_stays hl hb (fun t ht => hr t (by simp [ht])) h2 (fun x hx => hlt x (by simp [hx])) (fun x hx => hsp x (by simp [hx])), rfl⟩
theorem post_of_below {H : Type} {enc : TypeId × Value → H} {f : Func} {s : ChangeSpec} {apart fresh handsOn again : Bool} {W W' : World} {args : Array Value} {v : Value} {ds gs : List (DataW H)} {before pa pv : List MemPlace}
    (hW : DataW.Whole enc P f.params.toList s.vars apart W args.toList ds gs before)
    (hres : ∀ (b : Nat) (sp : Nat → Bool) (hd : Bool), DataW.TrodAll enc P W' b sp hd f.resultTypes.toList (v.resultList f.resultTypes.size) (s.fn H (ds ++ gs)).results [])
    (hargs : ∀ sp : Nat → Bool, (∀ p ∈ before, sp p.block = true) → DataW.TrodAll enc P W' 0 sp true f.params.toList args.toList (s.fn H (ds ++ gs)).args pa)
    (hvars : ∀ sp : Nat → Bool, (∀ p ∈ before, sp p.block = true) → DataW.TrodVars enc P W' sp s.vars (s.fn H (ds ++ gs)).vars pv)
    (hps : before = pa ++ pv) (hb : Below W.heap.size W W')
    (hok : ∀ (j : Nat) (t : TypeId) (r : Value), f.resultTypes[j]? = some t → (v.resultList f.resultTypes.size)[j]? = some r → Value.okWide P W' .any 0 t r) :
    s.post enc P f apart fresh handsOn again W args v W' := by
  have hlt : ∀ p ∈ before, p.block < W.heap.size := fun p hp => hW.lt p hp
  have hold : ∀ p ∈ before, (fun b => decide (b < W.heap.size)) p.block = true := fun p hp => by simpa using hlt p hp
  refine ⟨ds, gs, before, [], pa, pv, hW, hres _ _ _, hargs _ hold, hvars _ hold, World.keptBut_mono (fun p hp => ⟨hp, ?_⟩) (hb.frame (· ∈ before)), fun _ => ?_⟩
  · rw [hps, List.mem_append] at hp
    exact Or.inr hp
  · obtain ⟨_, _, _, _, _, hz, hn⟩ := hW
    refine ⟨hok, _, _, ([] ++ pa) ++ pv, ⟨[] ++ pa, pv, trodAll_append (hargs _ (fun _ _ => rfl)) (hres _ _ _), hvars _ (fun _ _ => rfl), rfl, ?_, ?_⟩, ?_⟩
    · intro b off hp
      have hin : MemPlace.cell b off ∈ before := by rw [hps]; simpa using hp
      rw [hb.frozen (hlt _ hin)]
      exact hz b off hin
    · intro ha
      have := hn ha
      rw [hps] at this
      simpa using this
    · intro p hp _
      rw [hps]
      simpa using hp
end
end Go.AM

set_option linter.unusedSimpArgs false
set_option linter.unusedVariables false
namespace Go.AM
section
variable {P : Program} {G : Gf} {t e : TypeId} {v : Value} {cs : List Value}
theorem AR.int_inv {k : IntKind} (hu : P.underlying t = some (.int k)) (h : AR P G t cs) : ∃ n, cs = [.int k n] ∧ (Lit.int k n).wf = true := by
  cases h with
  | int h hw => rw [hu] at h; cases h; exact ⟨_, rfl, hw⟩
  | bool h => rw [hu] at h; cases h
  | str h _ => rw [hu] at h; cases h
  | nil h => rw [hu] at h; cases h
  | zero h _ => rw [hu] at h; cases h
  | sl h => rw [hu] at h; cases h
  | struct h _ => rw [hu] at h; cases h
  | array h _ => rw [hu] at h; cases h
theorem AR.bool_inv (hu : P.underlying t = some .bool) (h : AR P G t cs) : ∃ b, cs = [.bool b] := by
  cases h with
  | int h hw => rw [hu] at h; cases h
  | bool h => exact ⟨_, rfl⟩
  | str h _ => rw [hu] at h; cases h
  | nil h => rw [hu] at h; cases h
  | zero h _ => rw [hu] at h; cases h
  | sl h => rw [hu] at h; cases h
  | struct h _ => rw [hu] at h; cases h
  | array h _ => rw [hu] at h; cases h
theorem AR.str_inv (hu : P.underlying t = some .string) (h : AR P G t cs) : ∃ s : ByteArray, cs = [.string s] ∧ s.size ≤ maxLen ∧ s.size ≤ reachBytes := by
  cases h with
  | int h hw => rw [hu] at h; cases h
  | bool h => rw [hu] at h; cases h
  | str h hs => exact ⟨_, rfl, hs⟩
  | nil h => rw [hu] at h; cases h
  | zero h _ => rw [hu] at h; cases h
  | sl h => rw [hu] at h; cases h
  | struct h _ => rw [hu] at h; cases h
  | array h _ => rw [hu] at h; cases h
theorem AR.slice_inv (hu : P.underlying t = some (.slice e)) (h : AR P G t cs) : cs = [.slice none 0 0] ∨ (∃ x : Addr, x.spot.isSome = true ∧ cs = [.slice (some x) 0 0]) ∨
    ∃ b n k c u, cs = [slc b 0 n k] ∧ 0 < k ∧ n ≤ k ∧ (k ≤ maxLen ∧ k * P.bytesOf e ≤ reachBytes) ∧ G b = some (.cells false false (P.cellsOf e) c u) ∧ c.length = k * P.cellsOf e ∧ ∀ i, i < k → AR P G e ((c.drop (i * P.cellsOf e)).take (P.cellsOf e)) := by
  cases h with
  | int h hw => rw [hu] at h; cases h
  | bool h => rw [hu] at h; cases h
  | str h hs => rw [hu] at h; cases h
  | nil h => exact .inl rfl
  | zero h hx => exact .inr (.inl ⟨_, hx, rfl⟩)
  | sl h a b c d e f => rw [hu] at h; cases h; exact .inr (.inr ⟨_, _, _, _, _, rfl, a, b, c, d, e, f⟩)
  | struct h _ => rw [hu] at h; cases h
  | array h _ => rw [hu] at h; cases h
theorem AV.one (ha : isAggT P t = some false) (h : AV P G t v) : v.cells.toList = [v] := by
  rw [cells_one (h.2.2 ha)]
theorem AV.int_inv {k : IntKind} (hu : P.underlying t = some (.int k)) (h : AV P G t v) : ∃ n, v = .int k n ∧ (Lit.int k n).wf = true := by
  have h1 := h.one (by unfold isAggT; rw [hu]; rfl)
  obtain ⟨n, h2, h3⟩ := h.1.int_inv hu
  rw [h1] at h2
  exact ⟨n, by simpa using h2, h3⟩
theorem AV.bool_inv (hu : P.underlying t = some .bool) (h : AV P G t v) : ∃ b, v = .bool b := by
  have h1 := h.one (by unfold isAggT; rw [hu]; rfl)
  obtain ⟨n, h2⟩ := h.1.bool_inv hu
  rw [h1] at h2
  exact ⟨n, by simpa using h2⟩
theorem AV.str_inv (hu : P.underlying t = some .string) (h : AV P G t v) : ∃ s : ByteArray, v = .string s ∧ s.size ≤ maxLen ∧ s.size ≤ reachBytes := by
  have h1 := h.one (by unfold isAggT; rw [hu]; rfl)
  obtain ⟨n, h2, h3⟩ := h.1.str_inv hu
  rw [h1] at h2
  exact ⟨n, by simpa using h2, h3⟩
theorem AV.slice_inv (hu : P.underlying t = some (.slice e)) (h : AV P G t v) : v = .slice none 0 0 ∨ (∃ x : Addr, x.spot.isSome = true ∧ v = .slice (some x) 0 0) ∨
    ∃ b n k c u, v = slc b 0 n k ∧ 0 < k ∧ n ≤ k ∧ (k ≤ maxLen ∧ k * P.bytesOf e ≤ reachBytes) ∧ G b = some (.cells false false (P.cellsOf e) c u) ∧ c.length = k * P.cellsOf e ∧ ∀ i, i < k → AR P G e ((c.drop (i * P.cellsOf e)).take (P.cellsOf e)) := by
  have h1 := h.one (by unfold isAggT; rw [hu]; rfl)
  rcases h.1.slice_inv hu with h2 | ⟨x, hx, h2⟩ | ⟨b, n, k, c, u, h2, h3⟩
  · rw [h1] at h2; exact .inl (by simpa using h2)
  · rw [h1] at h2; exact .inr (.inl ⟨x, hx, by simpa using h2⟩)
  · rw [h1] at h2; exact .inr (.inr ⟨b, n, k, c, u, by simpa using h2, h3⟩)
theorem AR.bytes (hu : P.underlying e = some (.int .u8)) (hz : P.cellsOf e = 1) : ∀ (k : Nat) (c : List Value), c.length = k * P.cellsOf e → (∀ i, i < k → AR P G e ((c.drop (i * P.cellsOf e)).take (P.cellsOf e))) → ∃ l : List UInt8, c = cellsOf l
  | 0, c, hc, _ => ⟨[], List.eq_nil_of_length_eq_zero (by simpa using hc)⟩
  | k + 1, c, hc, h => by
    rw [hz] at hc h
    match c, hc with
    | x :: c, hc =>
      obtain ⟨n, h1, h2⟩ := (h 0 (by omega)).int_inv hu
      simp at h1
      obtain ⟨l, hl⟩ := AR.bytes hu hz k c (by rw [hz]; simpa using hc) (fun i hi => by
        have := h (i + 1) (by omega)
        rw [hz]
        simpa using this)
      simp only [Lit.wf, Bool.and_eq_true, decide_eq_true_eq, IntKind.min, IntKind.max, IntKind.signed, IntKind.bits] at h2
      obtain ⟨m, rfl⟩ : ∃ m : Nat, n = m := ⟨n.toNat, by simp at h2; omega⟩
      refine ⟨UInt8.ofNat m :: l, ?_⟩
      have hm : m % 256 = m := by simp at h2; omega
      simp [cellsOf, h1, hl, hm]
theorem AR.bs (hu : P.underlying t = some (.slice e)) (he : P.underlying e = some (.int .u8)) (hz : P.cellsOf e = 1) {H : AHeap} {v : Value} (h : AR P H.get t [v]) : ∃ l : List UInt8, BS H v l := by
  rcases h.slice_inv hu with h2 | ⟨x, hx, h2⟩ | ⟨b, n, k, c, u, h2, h3, h4, h5, h6, h7, h8⟩
  · cases h2; exact ⟨[], BS.nil H⟩
  · cases h2
    refine ⟨[], ⟨⟨_, _, rfl⟩, ?_⟩⟩
    obtain ⟨b, o, s⟩ := x
    cases s with
    | none => simp at hx
    | some s => simp [elemsA, cellsOf]
  · cases h2
    obtain ⟨l, rfl⟩ := AR.bytes he hz k c h7 h8
    rw [cellsOf_length, hz] at h7
    refine ⟨l.take n, ⟨⟨some ⟨b, 0, none⟩, k, ?_⟩, ?_⟩⟩
    · rw [List.length_take, Nat.min_eq_left (by omega)]; rfl
    · simp only [elemsA, slc, h6]
      rw [if_pos (by rw [cellsOf_length]; omega), List.drop_zero, Nat.mul_one]
      simp [cellsOf, List.map_take]
theorem AV.bs (hu : P.underlying t = some (.slice e)) (he : P.underlying e = some (.int .u8)) (hz : P.cellsOf e = 1) {H : AHeap} {v : Value} (h : AV P H.get t v) : ∃ l : List UInt8, BS H v l := by
  have h1 := h.one (by unfold isAggT; rw [hu]; rfl)
  have := h.1
  rw [h1] at this
  exact this.bs hu he hz
end
end Go.AM

set_option linter.unusedSimpArgs false
set_option linter.unusedVariables false
namespace Go.AM
section
variable {P : Program} {ng : Nat} {H : AHeap} {Q : AQ} {fr tm : List Value}
theorem W_loop2 {c : ACode} (I : Nat → List Value → AHeap → Prop) (n : Nat) (h0 : I n fr H)
    (hs : ∀ (Q' : AQ) (k : Nat) (fr : List Value) (H : AHeap), I k fr H → (∀ k' fr H, I k' fr H → k' < k → Q' .normal fr H) → (∀ i fr H, Q (.exit i) fr H → Q' (.exit i) fr H) → (∀ fr H, Q .ret fr H → Q' .ret fr H) → W P ng c Q' fr H) : W P ng (.loop c) Q fr H :=
  ⟨I, n, h0, fun k fr H hI => hs _ k fr H hI (fun k' fr H h1 h2 => ⟨k', h2, h1⟩) (fun _ _ _ h => h) (fun _ _ h => h)⟩
theorem alloc_set (H : AHeap) (o o' : AO) : (H.alloc o).set H.n o' = H.alloc o' := by
  simp [AHeap.alloc, AHeap.set]
theorem wrap_succ {n : Nat} (h : n + 1 < 9223372036854775808) : IntKind.i64.wrap ((n : Int) + 1) = ((n + 1 : Nat) : Int) := by rw [wrap_i64 (by omega) (by omega)]; push_cast; rfl
end
set_option linter.defProp false in
def ANs := (And.intro (And.intro (And.intro (And.intro (And.intro (And.intro (And.intro @W_skip @W_reg) (And.intro @W_seq (And.intro @w_cond @cond_true))) (And.intro (And.intro @cond_false (And.intro @W_exit @W_ret)) (And.intro @W_dreg (And.intro @r_nil @r_cons)))) (And.intro (And.intro (And.intro @r_consg (And.intro @gd_true @gd_false)) (And.intro @go_some (And.intro @st_call @st_callv))) (And.intro (And.intro @d_nil (And.intro @d_cons @d_consg)) (And.intro @gdD_true (And.intro @gdD_false @goD_some))))) (And.intro (And.intro (And.intro (And.intro @goD_some' @stD_call) (And.intro @st_mov (And.intro @st_pick @st_new))) (And.intro (And.intro @st_box (And.intro @st_build @st_bslice)) (And.intro @st_load1 (And.intro @st_loadn @st_store1)))) (And.intro (And.intro (And.intro @st_storen (And.intro @st_nilck @st_bin)) (And.intro @st_eqv (And.intro @st_un @st_i2i))) (And.intro (And.intro @st_s2s (And.intro @st_s2b @st_b2s)) (And.intro @st_iface (And.intro @st_mkfn @st_mksl)))))) (And.intro (And.intro (And.intro (And.intro (And.intro @st_slstr @st_slsl) (And.intro @st_faddr (And.intro @st_fld1 @st_fldn))) (And.intro (And.intro @st_iaddr (And.intro @st_idxs @st_assert)) (And.intro @st_extract (And.intro @st_len @st_mark)))) (And.intro (And.intro (And.intro @sd_pick (And.intro @sd_new @sd_box)) (And.intro @sd_build (And.intro @sd_bslice @sd_load1))) (And.intro (And.intro @sd_loadn (And.intro @sd_store1 @sd_storen)) (And.intro @sd_nilck (And.intro @sd_bin @sd_eqv))))) (And.intro (And.intro (And.intro (And.intro @sd_un @sd_i2i) (And.intro @sd_s2s (And.intro @sd_s2b @sd_b2s))) (And.intro (And.intro @sd_iface (And.intro @sd_mkfn @sd_mksl)) (And.intro @sd_slstr (And.intro @sd_slsl @sd_faddr)))) (And.intro (And.intro (And.intro @sd_fld1 (And.intro @sd_fldn @sd_iaddr)) (And.intro @sd_idxs (And.intro @sd_assert @sd_extract))) (And.intro (And.intro @sd_len (And.intro @sd_mark @sd_mov)) (And.intro @a_mov (And.intro @a_pick @a_new))))))) (And.intro (And.intro (And.intro (And.intro (And.intro (And.intro @a_box @a_build) (And.intro @a_load1 (And.intro @a_loadn @a_nilck))) (And.intro (And.intro @a_bin (And.intro @a_eqv @a_not)) (And.intro @a_neg (And.intro @a_i2i @a_s2s)))) (And.intro (And.intro (And.intro @a_s2b (And.intro @a_iface @a_mkfn)) (And.intro @a_faddr (And.intro @a_fld1 @a_iaddr))) (And.intro (And.intro @a_assert (And.intro @a_extract @a_len)) (And.intro @a_lenc (And.intro @a_lens @AX_fr))))) (And.intro (And.intro (And.intro (And.intro @AX_tm @AX_c) (And.intro @AX_fn (And.intro @AX_g @D_no))) (And.intro (And.intro @D_no' (And.intro @D_tm @D_tm')) (And.intro @D_fr (And.intro @D_fr' @getD_nil')))) (And.intro (And.intro (And.intro @want_x (And.intro @bi_tt @bi_tf)) (And.intro @bi_ft (And.intro @bi_ff @pk_t))) (And.intro (And.intro @pk_f (And.intro @resO0 @resO1)) (And.intro @resO2 (And.intro @resO3 @e_sn)))))) (And.intro (And.intro (And.intro (And.intro (And.intro @e_ss @e_pn) (And.intro @e_ps (And.intro @e_bb @fill0))) (And.intro (And.intro @fill1 (And.intro @b_add @b_sub)) (And.intro @b_mul (And.intro @b_eql @b_neq)))) (And.intro (And.intro (And.intro @b_lss (And.intro @b_leq @b_gtr)) (And.intro @b_geq (And.intro @b_and @b_or))) (And.intro (And.intro @b_xor (And.intro @b_seql @b_sneq)) (And.intro @b_slss (And.intro @at_n @at_e))))) (And.intro (And.intro (And.intro (And.intro @at_r (And.intro @ib_n @ib_r)) (And.intro @ib_e (And.intro @ib_x @one_int))) (And.intro (And.intro @one_bool (And.intro @one_str @one_sl)) (And.intro @one_slc (And.intro @one_ptr @one_pn)))) (And.intro (And.intro (And.intro @one_if (And.intro @one_map @bnd_none)) (And.intro @o_int (And.intro @o_bool @o_str))) (And.intro (And.intro @o_sl (And.intro @o_slc @o_ptr)) (And.intro @o_pn (And.intro @o_if @o_map))))))))
set_option linter.defProp false in
def ANc := (And.intro (And.intro (And.intro (And.intro (And.intro @List.getD_cons_zero.{0} @List.getD_cons_succ.{0}) (And.intro @List.set_cons_zero.{0} @List.set_cons_succ.{0})) (And.intro (And.intro @List.map_cons.{0,0} @List.map_nil.{0,0}) (And.intro @Option.map_some.{0,0} (And.intro @Option.map_none.{0,0} @beq_self_eq_true.{0})))) (And.intro (And.intro (And.intro @if_true.{1} @if_true.{0}) (And.intro @Bool.false_eq_true @if_false.{1})) (And.intro (And.intro @if_false.{0} @Bool.not_true) (And.intro @Bool.not_false (And.intro @Nat.add_zero @Nat.zero_add))))) (And.intro (And.intro (And.intro (And.intro @Nat.mul_one @Int.toNat_natCast) (And.intro @List.getElem?_cons_zero.{0} @List.getElem?_cons_succ.{0})) (And.intro (And.intro @true_and @and_true) (And.intro @false_and (And.intro @Exit.exit.injEq @Bool.true_beq)))) (And.intro (And.intro (And.intro @Bool.false_beq @beq_true) (And.intro @beq_false (And.intro @List.length_cons.{0} @List.length_nil.{0}))) (And.intro (And.intro @List.all_cons.{0} @List.all_nil.{0}) (And.intro @Bool.and_true (And.intro @Bool.true_and @and_self))))))
end Go.AM

set_option linter.unusedSimpArgs false
set_option linter.unusedVariables false
namespace Go.AM
section
variable {P : Program} {ng : Nat} {H H' : AHeap} {Q : AQ} {fr tm : List Value}
def cellO (g : Option AO) (o : Nat) : Option Value := match g with
  | some (.cells _ _ _ c _) => c[o]?
  | _ => none
def rangeO (g : Option AO) (o n : Nat) : Option (List Value) := match g with
  | some (.cells _ _ _ c _) => if o + n ≤ c.length then some ((c.drop o).take n) else none
  | _ => none
theorem cellA_e (H : AHeap) (b o : Nat) : cellA H b o = cellO (H.get b) o := by unfold cellA cellO; rfl
theorem rangeA_e (H : AHeap) (b o n : Nat) : rangeA H b o n = rangeO (H.get b) o n := by unfold rangeA rangeO; rfl
theorem cellO_c (own room : Bool) (esz e : Nat) (c : List Value) (o : Nat) : cellO (some (.cells own room esz c e)) o = c[o]? := _root_.id rfl
theorem rangeO_c (own room : Bool) (esz e : Nat) (c : List Value) (o n : Nat) : rangeO (some (.cells own room esz c e)) o n = if o + n ≤ c.length then some ((c.drop o).take n) else none := _root_.id rfl
def st1O (H : AHeap) (b o : Nat) (x : Value) (g : Option AO) : Option (Value × AHeap) := match g with
  | some (.cells true room esz c e) => if o < c.length ∧ x.oneCell' = true then some (undef, H.set b (.cells true room esz (c.set o x) e)) else none
  | _ => none
def stnO (H : AHeap) (b o n : Nat) (x : List Value) (g : Option AO) : Option (Value × AHeap) := match g with
  | some (.cells true room esz c e) => if o + n ≤ c.length ∧ x.length = n ∧ x.all Value.oneCell' = true then some (undef, H.set b (.cells true room esz (c.take o ++ x ++ c.drop (o + n)) e)) else none
  | _ => none
theorem a_store1e (H : AHeap) (b o : Nat) (x : Value) : asem (.store1 (ptr b o) x) H = st1O H b o x (H.get b) := by
  unfold st1O
  rfl
theorem a_storene (H : AHeap) (b o n : Nat) (x : Value) : asem (.storen n (ptr b o) x) H = stnO H b o n x.cells.toList (H.get b) := by
  unfold stnO
  rfl
theorem st1O_c (b o : Nat) (x : Value) (room : Bool) (esz e : Nat) (c : List Value) : st1O H b o x (some (.cells true room esz c e)) = if o < c.length ∧ x.oneCell' = true then some (undef, H.set b (.cells true room esz (c.set o x) e)) else none := by
  unfold st1O; rfl
theorem stnO_c (b o n : Nat) (x : List Value) (room : Bool) (esz e : Nat) (c : List Value) : stnO H b o n x (some (.cells true room esz c e)) = if o + n ≤ c.length ∧ x.length = n ∧ x.all Value.oneCell' = true then some (undef, H.set b (.cells true room esz (c.take o ++ x ++ c.drop (o + n)) e)) else none := by
  unfold stnO; rfl
theorem rng_full {own room : Bool} {esz e n : Nat} {c : List Value} (h : c.length = n) : rangeO (some (.cells own room esz c e)) 0 n = some c := by
  rw [rangeO_c, if_pos (by omega), List.drop_zero, List.take_of_length_le (by omega)]
theorem rng_part {own room : Bool} {esz e o n : Nat} {c : List Value} (h : c.length ≠ n) : rangeO (some (.cells own room esz c e)) o n = if o + n ≤ c.length then some ((c.drop o).take n) else none := rangeO_c ..
theorem stn_full {b n : Nat} {x : List Value} {room : Bool} {esz e : Nat} {c : List Value} (h : c.length = n) : stnO H b 0 n x (some (.cells true room esz c e)) = if x.length = n ∧ x.all Value.oneCell' = true then some (undef, H.set b (.cells true room esz x e)) else none := by
  rw [stnO_c]
  by_cases hx : x.length = n ∧ x.all Value.oneCell' = true
  · rw [if_pos ⟨by omega, hx⟩, if_pos hx, List.take_zero, List.nil_append, List.drop_of_length_le (by omega), List.append_nil]
  · rw [if_neg (fun h => hx h.2), if_neg hx]
theorem stn_part {b o n : Nat} {x : List Value} {room : Bool} {esz e : Nat} {c : List Value} (h : c.length ≠ n) : stnO H b o n x (some (.cells true room esz c e)) = if o + n ≤ c.length ∧ x.length = n ∧ x.all Value.oneCell' = true then some (undef, H.set b (.cells true room esz (c.take o ++ x ++ c.drop (o + n)) e)) else none := stnO_c ..
theorem cells_agg (l : List Value) : (Value.agg l.toArray).cells.toList = l := by simp [Value.cells]
theorem toList_arr (l : List Value) : l.toArray.toList = l := by simp
theorem size_arr (l : List Value) : l.toArray.size = l.length := by simp
theorem g_new {b : Nat} (o : AO) (h : b = H.n) : (H.alloc o).get b = some o := by subst h; exact AHeap.get_alloc_new H o
theorem g_old {b : Nat} (o : AO) (h : b < H.n) : (H.alloc o).get b = H.get b := AHeap.get_alloc_old H o h
theorem g_set (b : Nat) (o : AO) : (H.set b o).get b = (H.get b).map fun _ => o := by
  by_cases hb : b < H.n
  · by_cases h : H.n - 1 - b < H.l.length
    · simp [AHeap.get, AHeap.set, hb, h]
    · simp only [AHeap.get, AHeap.set, hb, if_true, List.getElem?_eq_none (Nat.le_of_not_lt h), Option.map_none]
      exact List.getElem?_eq_none (by simpa using Nat.le_of_not_lt h)
  · simp [AHeap.get, AHeap.set, hb]
theorem g_sets {b b' : Nat} (o : AO) (h : b' ≠ b) (h2 : b < H.n) : (H.set b o).get b' = H.get b' := AHeap.get_set_other H h h2 o
theorem set_new {b : Nat} (o o' : AO) (h : b = H.n) : (H.alloc o).set b o' = H.alloc o' := by subst h; exact alloc_set H o o'
theorem set_old {b : Nat} (o o' : AO) (h : b < H.n) : (H.alloc o).set b o' = (H.set b o').alloc o := by
  simp only [AHeap.alloc, AHeap.set, show H.n + 1 - 1 - b = (H.n - 1 - b) + 1 by omega, List.set_cons_succ]
theorem set_set (b : Nat) (o o' : AO) : (H.set b o).set b o' = H.set b o' := by simp [AHeap.set]
theorem lt_yes {a b : Nat} (h : a < b) : (a < b) = True := by simp [h]
theorem le_yes {a b : Nat} (h : a ≤ b) : (a ≤ b) = True := by simp [h]
theorem eqn_yes {a b : Nat} (h : a = b) : (a = b) = True := by simp [h]
theorem lti_yes {a b : Int} (h : a < b) : (a < b) = True := by simp [h]
theorem lei_yes {a b : Int} (h : a ≤ b) : (a ≤ b) = True := by simp [h]
theorem lti_no {a b : Int} (h : ¬ a < b) : (a < b) = False := by simp [h]
theorem lei_no {a b : Int} (h : ¬ a ≤ b) : (a ≤ b) = False := by simp [h]
theorem beqi_no {a b : Int} (h : ¬ a = b) : (a == b) = false := by simp [h]
theorem beqi_yes {a b : Int} (h : a = b) : (a == b) = true := by simp [h]
theorem bnei_no {a b : Int} (h : a = b) : (a != b) = false := by simp [h]
theorem bnei_yes {a b : Int} (h : ¬ a = b) : (a != b) = true := by simp [h]
theorem bi_u (b : Bool) : boolIs undef b = false := by cases b <;> rfl
theorem boolIs_t (b : Bool) : boolIs (.bool b) true = b := by cases b <;> rfl
theorem boolIs_f (b : Bool) : boolIs (.bool b) false = !b := by cases b <;> rfl
theorem callK {f : FuncId} {xs : List Value} {R K : Value → AHeap → Prop} (h : ∃ v H', ARun P ng f xs H v H' ∧ R v H') (k : ∀ v H', R v H' → K v H') : ∃ v H', ARun P ng f xs H v H' ∧ K v H' := by
  obtain ⟨v, H', h1, h2⟩ := h; exact ⟨v, H', h1, k v H' h2⟩
theorem Chg1.get {r : Nat} (c : Chg [r] H H') {b : Nat} (h1 : b < H.n) (h2 : b ≠ r) : H'.get b = H.get b := c.get b h1 (by simpa using h2)
theorem Chg2.get {r s : Nat} (c : Chg [r, s] H H') {b : Nat} (h1 : b < H.n) (h2 : b ≠ r) (h3 : b ≠ s) : H'.get b = H.get b := c.get b h1 (by simp [h2, h3])
def bn (v : Value) : Nat := match blk v with
  | some b => b + 1
  | none => 0
def elP (v : Value) (esz j off : Nat) : Value := match v with
  | .slice (some ⟨b, o, none⟩) _ _ => ptr b (o + j * esz + off)
  | _ => undef
def nnS (v : Value) : Bool := match v with
  | .slice (some ⟨_, _, none⟩) _ _ => true
  | _ => false
def lenS (v : Value) : Nat := match v with
  | .slice _ n _ => n
  | _ => 0
def isS (v : Value) : Bool := match v with
  | .slice _ _ _ => true
  | _ => false
def rowA (H : AHeap) (esz : Nat) (v : Value) (j : Nat) : Option (List Value) := match v with
  | .slice (some ⟨b, o, none⟩) _ _ => rangeA H b (o + j * esz) esz
  | _ => none
theorem nnS_inv {v : Value} (h : nnS v = true) : ∃ b o n k, v = slc b o n k := by
  unfold nnS at h
  split at h
  · exact ⟨_, _, _, _, rfl⟩
  · cases h
theorem isS_inv {v : Value} (h : isS v = true) : ∃ a n k, v = .slice a n k := by
  unfold isS at h
  split at h
  · exact ⟨_, _, _, rfl⟩
  · cases h
theorem a_lenv {v : Value} (h : isS v = true) : asem (.len false v) H = some (.int .i64 (lenS v), H) := by
  obtain ⟨a, n, k, rfl⟩ := isS_inv h; rfl
theorem a_iaddrv {v : Value} {esz : Nat} {kd : IntKind} {i : Int} (h : nnS v = true) (h1 : 0 ≤ i) (h2 : i < (lenS v : Int)) : asem (.iaddr esz v (.int kd i)) H = some (elP v esz i.toNat 0, H) := by
  obtain ⟨b, o, n, k, rfl⟩ := nnS_inv h
  rw [a_iaddr, if_pos ⟨h1, h2⟩]; rfl
theorem a_faddrv {v : Value} {esz j off d : Nat} (h : nnS v = true) : asem (.faddr d (elP v esz j off)) H = some (elP v esz j (off + d), H) := by
  obtain ⟨b, o, n, k, rfl⟩ := nnS_inv h
  show asem (.faddr d (ptr b (o + j * esz + off))) H = _
  rw [a_faddr, Nat.add_assoc]; rfl
theorem rowA_range {v : Value} {esz j : Nat} {r : List Value} (h : rowA H esz v j = some r) : ∃ b o n k, v = slc b o n k ∧ r.length = esz ∧ ∃ own room z c e, H.get b = some (.cells own room z c e) ∧ o + j * esz + esz ≤ c.length ∧ r = (c.drop (o + j * esz)).take esz := by
  unfold rowA at h
  split at h
  · rename_i b o n k
    refine ⟨b, o, n, k, rfl, ?_⟩
    unfold rangeA at h
    split at h
    · rename_i own room z c e hg
      split at h
      · rename_i hl
        simp only [Option.some.injEq] at h; subst h
        exact ⟨by rw [List.length_take, List.length_drop]; omega, own, room, z, c, e, hg, hl, rfl⟩
      · cases h
    · cases h
  · cases h
theorem a_load1v {v : Value} {esz j off : Nat} {r : List Value} (h : rowA H esz v j = some r) (ho : off < esz) : asem (.load1 (elP v esz j off)) H = r[off]?.map fun x => (x, H) := by
  obtain ⟨b, o, n, k, rfl, h1, own, room, z, c, e, h2, h3, h4⟩ := rowA_range h
  show asem (.load1 (ptr b (o + j * esz + off))) H = _
  rw [a_load1, cellA_of h2, h4, List.getElem?_take_of_lt ho, List.getElem?_drop]
theorem a_loadnv {v : Value} {esz j off n : Nat} {r : List Value} (h : rowA H esz v j = some r) (ho : off + n ≤ esz) : asem (.loadn n (elP v esz j off)) H = some (.agg ((r.drop off).take n).toArray, H) := by
  obtain ⟨b, o, n', k, rfl, h1, own, room, z, c, e, h2, h3, h4⟩ := rowA_range h
  show asem (.loadn n (ptr b (o + j * esz + off))) H = _
  rw [a_loadn, rangeA_of h2, if_pos (by omega), h4, List.drop_take, List.take_take, List.drop_drop, Nat.min_eq_left (by omega)]
  rfl
theorem a_loadnvf {v : Value} {n j : Nat} {r : List Value} (h : rowA H n v j = some r) : asem (.loadn n (elP v n j 0)) H = some (.agg r.toArray, H) := by
  obtain ⟨_, _, _, _, _, hl, _⟩ := rowA_range h
  rw [a_loadnv h (by omega), List.drop_zero, List.take_of_length_le (by omega)]
theorem a_loadnvp {v : Value} {esz j off n : Nat} {r : List Value} (hne : n ≠ esz) (h : rowA H esz v j = some r) (ho : off + n ≤ esz) : asem (.loadn n (elP v esz j off)) H = some (.agg ((r.drop off).take n).toArray, H) := a_loadnv h ho
theorem stD_callv {KF : List Value → AHeap → Prop} {tr : List TE} (g : FuncId) (first cap : Array Value) (xs : List Value) (d : D) (un : List Nat) (r : List (AOper × List Nat)) : stD P ng (.callv (.func (.func g) first cap) xs) d un r fr tm H tr KF = callD P ng g (first.toList ++ xs ++ cap.toList) d un r fr tm H tr KF := _root_.id rfl
theorem reads_el {v : Value} {esz j off : Nat} (h : nnS v = true) : readsA (.load1 (elP v esz j off)) = [bn v - 1] := by
  obtain ⟨b, o, n', k, rfl⟩ := nnS_inv h; rfl
theorem readsn_el {v : Value} {esz j off n : Nat} (h : nnS v = true) : readsA (.loadn n (elP v esz j off)) = [bn v - 1] := by
  obtain ⟨b, o, n', k, rfl⟩ := nnS_inv h; rfl
theorem rowA_get {esz : Nat} {v : Value} {j : Nat} (h : ∀ b, blk v = some b → H'.get b = H.get b) : rowA H' esz v j = rowA H esz v j := by
  unfold rowA
  split
  · rename_i b o n k
    rw [rangeA_e, rangeA_e, h b rfl]
  · rfl
theorem bn_lt {v : Value} {n b : Nat} (h : bn v ≤ n) (e : blk v = some b) : b < n := by
  unfold bn at h; rw [e] at h; exact h
theorem row_alloc {esz : Nat} {v : Value} {j : Nat} (o : AO) (h : bn v ≤ H.n) : rowA (H.alloc o) esz v j = rowA H esz v j := rowA_get fun b e => g_old o (bn_lt h e)
theorem row_set {esz : Nat} {v : Value} {j b : Nat} (o : AO) (h : bn v ≠ b + 1) (hb : b < H.n) : rowA (H.set b o) esz v j = rowA H esz v j := rowA_get fun x e => g_sets o (by intro hx; subst hx; apply h; unfold bn; rw [e]) hb
theorem Keeps.row (k : Keeps H H') {esz : Nat} {v : Value} {j : Nat} (h : bn v ≤ H.n) : rowA H' esz v j = rowA H esz v j := rowA_get fun b e => k.get b (bn_lt h e)
theorem Chg1.row {r : Nat} (k : Chg [r] H H') {esz : Nat} {v : Value} {j : Nat} (h : bn v ≤ H.n) (h2 : bn v ≠ r + 1) : rowA H' esz v j = rowA H esz v j := rowA_get fun b e => Chg1.get k (bn_lt h e) (by intro hx; subst hx; apply h2; unfold bn; rw [e])
structure Sl (H : AHeap) (esz : Nat) (v : Value) (rows : List (List Value)) : Prop where
  sh : ∃ a k, v = .slice a rows.length k
  row : ∀ r ∈ rows, r.length = esz
  el : elemsA H esz v = some rows.flatten
theorem Sl.len {esz : Nat} {v : Value} {rows : List (List Value)} (h : Sl H esz v rows) : lenS v = rows.length := by
  obtain ⟨a, k, rfl⟩ := h.sh; rfl
theorem Sl.is {esz : Nat} {v : Value} {rows : List (List Value)} (h : Sl H esz v rows) : isS v = true := by
  obtain ⟨a, k, rfl⟩ := h.sh; rfl
theorem Sl.one {esz : Nat} {v : Value} {rows : List (List Value)} (h : Sl H esz v rows) : v.oneCell' = true := by
  obtain ⟨a, k, rfl⟩ := h.sh; rfl
theorem Sl.nil (H : AHeap) (esz : Nat) : Sl H esz (.slice none 0 0) [] := ⟨⟨_, _, rfl⟩, by simp, rfl⟩
theorem flat_len {esz : Nat} : ∀ {rows : List (List Value)}, (∀ r ∈ rows, r.length = esz) → rows.flatten.length = rows.length * esz
  | [], _ => by simp
  | r :: rows, h => by
    have h1 := h r (by simp)
    have h2 := flat_len (rows := rows) (fun x hx => h x (by simp [hx]))
    rw [List.flatten_cons, List.length_append, h1, h2, List.length_cons, Nat.add_mul]; omega
theorem flat_at {esz : Nat} : ∀ {rows : List (List Value)}, (∀ r ∈ rows, r.length = esz) → ∀ (i : Nat) (hi : i < rows.length), (rows.flatten.drop (i * esz)).take esz = rows[i]
  | r :: rows, h, 0, _ => by
    have h1 := h r (by simp)
    rw [Nat.zero_mul, List.drop_zero, List.flatten_cons, List.take_append_of_le_length (by omega), List.take_of_length_le (by omega)]; rfl
  | r :: rows, h, i + 1, hi => by
    have h1 := h r (by simp)
    have h2 := flat_at (rows := rows) (fun x hx => h x (by simp [hx])) i (by simpa using hi)
    rw [Nat.add_mul, Nat.one_mul, Nat.add_comm, ← List.drop_drop, List.flatten_cons]
    rw [show (r ++ rows.flatten).drop esz = rows.flatten by rw [← h1, List.drop_left], h2]
    rfl
theorem Sl.at_ {esz : Nat} {v : Value} {rows : List (List Value)} (h : Sl H esz v rows) (hz : 0 < esz) {i : Nat} (hi : i < rows.length) : nnS v = true ∧ rowA H esz v i = some rows[i] := by
  have h2 := h.el
  have hfl := flat_len h.row
  have hpos : 0 < rows.flatten.length := by rw [hfl]; exact Nat.mul_pos (by omega) hz
  obtain ⟨a, k, rfl⟩ := h.sh
  match a, h2 with
  | none, h2 => simp only [elemsA, Option.some.injEq] at h2; rw [← h2] at hpos; simp at hpos
  | some ⟨b, o, some q⟩, h2 =>
    simp only [elemsA] at h2
    rw [if_neg (by omega)] at h2; cases h2
  | some ⟨b, o, none⟩, h2 =>
    refine ⟨rfl, ?_⟩
    simp only [elemsA] at h2
    simp only [rowA, rangeA]
    split at h2
    · rename_i own room z c e hg
      split at h2
      · rename_i hl
        have hm : (i + 1) * esz ≤ rows.length * esz := Nat.mul_le_mul_right esz hi
        rw [Nat.add_mul, Nat.one_mul] at hm
        rw [if_pos (by omega)]
        simp only [Option.some.injEq] at h2
        have := flat_at h.row i hi
        rw [← h2, List.drop_take, List.take_take, List.drop_drop, Nat.min_eq_left (by omega)] at this
        rw [this]
      · cases h2
    · cases h2
theorem Sl.get' {esz : Nat} {v : Value} {rows : List (List Value)} (h : Sl H esz v rows) (k : ∀ b, blk v = some b → b < H.n → H'.get b = H.get b) : Sl H' esz v rows := by
  refine ⟨h.sh, h.row, ?_⟩
  have h2 := h.el
  obtain ⟨a, c, rfl⟩ := h.sh
  match a, h2 with
  | none, h2 => exact h2
  | some ⟨b, o, none⟩, h2 =>
    simp only [elemsA] at h2 ⊢
    cases hg : H.get b with
    | none => rw [hg] at h2; cases h2
    | some ob => rw [k b rfl (AHeap.get_lt hg)]; exact h2
  | some ⟨b, o, some _⟩, h2 => simpa [elemsA] using h2
theorem Sl.keeps {esz : Nat} {v : Value} {rows : List (List Value)} (h : Sl H esz v rows) (k : Keeps H H') : Sl H' esz v rows := h.get' fun b _ hb => k.get b hb
theorem Sl.chg {esz : Nat} {v : Value} {rows : List (List Value)} {S : List Nat} (h : Sl H esz v rows) (k : Chg S H H') (hS : ∀ b, blk v = some b → b ∉ S) : Sl H' esz v rows := h.get' fun b e hb => k.get b hb (hS b e)
theorem BS.sl {v : Value} {l : List UInt8} (h : BS H v l) : Sl H 1 v (l.map fun b => [.int .u8 b.toNat]) := by
  obtain ⟨a, k, e⟩ := h.sh
  refine ⟨⟨a, k, by rw [List.length_map]; exact e⟩, ?_, ?_⟩
  · intro r hr; simp at hr; obtain ⟨b, _, rfl⟩ := hr; rfl
  · rw [h.el]
    congr 1
    clear h e
    induction l with
    | nil => rfl
    | cons b l ih => simp only [List.map_cons, List.flatten_cons, ← ih]; rfl
theorem AP.sl {e esz : Nat} {v : Value} {n : Nat} {rows : List (List Value)} (h : AP H e esz v n rows.flatten) (hr : ∀ r ∈ rows, r.length = esz) (hn : n = rows.length) : Sl H esz v rows := by
  obtain ⟨a, ha⟩ := h.shape
  exact ⟨⟨a, n, by rw [← hn]; exact ha⟩, hr, h.elems⟩
theorem AP.bn {e esz : Nat} {v : Value} {n : Nat} {c : List Value} (h : AP H e esz v n c) : bn v ≤ H.n := by
  unfold Go.AM.bn
  split
  · rename_i b hb; exact h.lt hb
  · omega
section
variable {KF : List Value → AHeap → Prop} {tr : List TE} (d : D) (r : List AOper) (un : List Nat) (rd : List (AOper × List Nat))
theorem st_app (e s b : Nat) (x y : Value) : stR P ng (.app e s b x y) d r fr tm H KF = goR P ng (asem (.app e s b x y) H) d r fr tm KF := st_of d r (by simp) (by simp) (by simp)
theorem st_apps (e b : Nat) (x y : Value) : stR P ng (.apps e b x y) d r fr tm H KF = goR P ng (asem (.apps e b x y) H) d r fr tm KF := st_of d r (by simp) (by simp) (by simp)
theorem sd_apps (e b : Nat) (x y : Value) : stD P ng (.apps e b x y) d un rd fr tm H tr KF = goD P ng (.apps e b x y) (asem (.apps e b x y) H) d un rd fr tm H tr KF := stD_of d un rd (by simp) (by simp) (by simp)
theorem st_iaddrp (s n : Nat) (x i : Value) : stR P ng (.iaddrp s n x i) d r fr tm H KF = goR P ng (asem (.iaddrp s n x i) H) d r fr tm KF := st_of d r (by simp) (by simp) (by simp)
theorem sd_iaddrp (s n : Nat) (x i : Value) : stD P ng (.iaddrp s n x i) d un rd fr tm H tr KF = goD P ng (.iaddrp s n x i) (asem (.iaddrp s n x i) H) d un rd fr tm H tr KF := stD_of d un rd (by simp) (by simp) (by simp)
theorem st_idxa (a : Bool) (s n : Nat) (x i : Value) : stR P ng (.idxa a s n x i) d r fr tm H KF = goR P ng (asem (.idxa a s n x i) H) d r fr tm KF := st_of d r (by simp) (by simp) (by simp)
theorem sd_idxa (a : Bool) (s n : Nat) (x i : Value) : stD P ng (.idxa a s n x i) d un rd fr tm H tr KF = goD P ng (.idxa a s n x i) (asem (.idxa a s n x i) H) d un rd fr tm H tr KF := stD_of d un rd (by simp) (by simp) (by simp)
theorem st_slarr (s n : Nat) (x : Value) (lo hi mx : Option Value) : stR P ng (.slarr s n x lo hi mx) d r fr tm H KF = goR P ng (asem (.slarr s n x lo hi mx) H) d r fr tm KF := st_of d r (by simp) (by simp) (by simp)
theorem sd_slarr (s n : Nat) (x : Value) (lo hi mx : Option Value) : stD P ng (.slarr s n x lo hi mx) d un rd fr tm H tr KF = goD P ng (.slarr s n x lo hi mx) (asem (.slarr s n x lo hi mx) H) d un rd fr tm H tr KF := stD_of d un rd (by simp) (by simp) (by simp)
theorem st_eqs (c : List Nat) (n : Bool) (x y : Value) : stR P ng (.eqs c n x y) d r fr tm H KF = goR P ng (asem (.eqs c n x y) H) d r fr tm KF := st_of d r (by simp) (by simp) (by simp)
theorem sd_eqs (c : List Nat) (n : Bool) (x y : Value) : stD P ng (.eqs c n x y) d un rd fr tm H tr KF = goD P ng (.eqs c n x y) (asem (.eqs c n x y) H) d un rd fr tm H tr KF := stD_of d un rd (by simp) (by simp) (by simp)
theorem st_mm (m : Bool) (x y : Value) : stR P ng (.mm m x y) d r fr tm H KF = goR P ng (asem (.mm m x y) H) d r fr tm KF := st_of d r (by simp) (by simp) (by simp)
theorem sd_mm (m : Bool) (x y : Value) : stD P ng (.mm m x y) d un rd fr tm H tr KF = goD P ng (.mm m x y) (asem (.mm m x y) H) d un rd fr tm H tr KF := stD_of d un rd (by simp) (by simp) (by simp)
theorem st_i2str (x : Value) : stR P ng (.i2str x) d r fr tm H KF = goR P ng (asem (.i2str x) H) d r fr tm KF := st_of d r (by simp) (by simp) (by simp)
theorem sd_i2str (x : Value) : stD P ng (.i2str x) d un rd fr tm H tr KF = goD P ng (.i2str x) (asem (.i2str x) H) d un rd fr tm H tr KF := stD_of d un rd (by simp) (by simp) (by simp)
theorem st_rng (x : Value) : stR P ng (.rng x) d r fr tm H KF = goR P ng (asem (.rng x) H) d r fr tm KF := st_of d r (by simp) (by simp) (by simp)
theorem st_next (x : Value) : stR P ng (.next x) d r fr tm H KF = goR P ng (asem (.next x) H) d r fr tm KF := st_of d r (by simp) (by simp) (by simp)
theorem st_copy (e : Nat) (x y : Value) : stR P ng (.copy e x y) d r fr tm H KF = goR P ng (asem (.copy e x y) H) d r fr tm KF := st_of d r (by simp) (by simp) (by simp)
theorem sd_copy (e : Nat) (x y : Value) : stD P ng (.copy e x y) d un rd fr tm H tr KF = goD P ng (.copy e x y) (asem (.copy e x y) H) d un rd fr tm H tr KF := stD_of d un rd (by simp) (by simp) (by simp)
theorem st_clr (e : Nat) (z : List Value) (x : Value) : stR P ng (.clr e z x) d r fr tm H KF = goR P ng (asem (.clr e z x) H) d r fr tm KF := st_of d r (by simp) (by simp) (by simp)
end
theorem a_mm (m : Bool) (k : IntKind) (a b : Int) : asem (.mm m (.int k a) (.int k b)) H = some (.int k (if m then (if b > a then b else a) else (if b < a then b else a)), H) := by
  simp [asem]
theorem a_mmx (k : IntKind) (a b : Int) : asem (.mm true (.int k a) (.int k b)) H = some (.int k (max a b), H) := by
  rw [a_mm]; simp only [if_true]; congr 3; split <;> omega
theorem a_mmn (k : IntKind) (a b : Int) : asem (.mm false (.int k a) (.int k b)) H = some (.int k (min a b), H) := by
  rw [a_mm]; simp only [Bool.false_eq_true, if_false]; congr 3; split <;> omega
theorem a_iaddrp (esz n b o : Nat) (kd : IntKind) (i : Int) : asem (.iaddrp esz n (ptr b o) (.int kd i)) H = if 0 ≤ i ∧ i < (n : Int) then some (ptr b (o + i.toNat * esz), H) else none := _root_.id rfl
theorem a_bslicee (e esz n : Nat) (z : List Value) (ps : List (Nat × Nat × Value)) : asem (.bslice e esz n z ps) H = (fillA z ps).bind fun c => if c.all Value.oneCell' = true ∧ c.length = n * esz then some (slc H.n 0 n n, H.alloc (.cells true false esz c e)) else none := by
  simp only [asem]; cases fillA z ps <;> rfl
theorem cells_int (k : IntKind) (n : Int) : (Value.int k n).cells.toList = [.int k n] := _root_.id rfl
theorem cells_bool (n : Bool) : (Value.bool n).cells.toList = [.bool n] := _root_.id rfl
theorem cells_str (n : ByteArray) : (Value.string n).cells.toList = [.string n] := _root_.id rfl
theorem cells_sl (a : Option Addr) (n k : Nat) : (Value.slice a n k).cells.toList = [.slice a n k] := _root_.id rfl
theorem cells_slc (b o n k : Nat) : (slc b o n k).cells.toList = [slc b o n k] := _root_.id rfl
theorem cells_ptr (b o : Nat) : (ptr b o).cells.toList = [ptr b o] := _root_.id rfl
theorem cells_pn (a : Option Addr) : (Value.pointer a).cells.toList = [.pointer a] := _root_.id rfl
theorem resC (i n : Nat) (fr : List Value) : resO [.cn n i] fr H = (celln n (fr.getD i undef) H) := by
  simp only [resO, resVs, RX.get]
  cases celln n (fr.getD i undef) H <;> rfl
theorem cellnp (n b o : Nat) : celln n (ptr b o) H = (rangeA H b o n).map fun c => .agg c.toArray := _root_.id rfl
theorem cell1p (b o : Nat) : cell1 (ptr b o) H = cellA H b o := _root_.id rfl
theorem touch_load1 (b o : Nat) (H : AHeap) : touchA (.load1 (ptr b o)) H = [b] := _root_.id rfl
theorem touch_loadn (n b o : Nat) (H : AHeap) : touchA (.loadn n (ptr b o)) H = [b] := _root_.id rfl
theorem touch_load1v {v : Value} {esz j off : Nat} (h : nnS v = true) (H : AHeap) : touchA (.load1 (elP v esz j off)) H = [bn v - 1] := by
  show readsA _ = _; exact reads_el h
theorem touch_loadnv {v : Value} {esz j off n : Nat} (h : nnS v = true) (H : AHeap) : touchA (.loadn n (elP v esz j off)) H = [bn v - 1] := by
  show readsA _ = _; exact readsn_el h
theorem keepsB_n (A B : AHeap) : keepsB [] A B = True := _root_.id rfl
theorem keepsB_c (b : Nat) (l : List Nat) (A B : AHeap) : keepsB (b :: l) A B = (B.get b = A.get b ∧ keepsB l A B) := _root_.id rfl
theorem olderB_n (A : AHeap) : olderB [] A = True := _root_.id rfl
theorem olderB_c (b : Nat) (l : List Nat) (A : AHeap) : olderB (b :: l) A = (b < A.n ∧ olderB l A) := _root_.id rfl
def ob1 (k : Nat) (bs : List Nat) (A B : AHeap) (x : Option TE) : Prop := match x with
  | some t => if k = 1 ∧ t.k = 3 then olderB bs t.H ∧ keepsB bs t.H t.H' else if k = 3 ∧ (t.k = 1 ∨ t.k = 2) then keepsB t.bs A B else True
  | none => True
theorem obl_c (k : Nat) (bs : List Nat) (A B : AHeap) (tr : List TE) (i : Nat) (un : List Nat) : oblA k bs A B tr (i :: un) = (ob1 k bs A B tr[i]? ∧ oblA k bs A B tr un) := _root_.id rfl
theorem ob1_0 (bs : List Nat) (A B : AHeap) (x : Option TE) : ob1 0 bs A B x = True := by unfold ob1; split <;> simp
theorem ob1_2 (bs : List Nat) (A B : AHeap) (x : Option TE) : ob1 2 bs A B x = True := by unfold ob1; split <;> simp
theorem ob1_s (k : Nat) (bs : List Nat) (A B : AHeap) (j : Nat) (cs : List Nat) (C D : AHeap) : ob1 k bs A B (some ⟨j, cs, C, D⟩) = if k = 1 ∧ j = 3 then olderB bs C ∧ keepsB bs C D else if k = 3 ∧ (j = 1 ∨ j = 2) then keepsB cs A B else True := _root_.id rfl
end
set_option linter.defProp false in
def A3s := (And.intro (And.intro (And.intro (And.intro (And.intro (And.intro @cellA_e @rangeA_e) (And.intro @cellO_c (And.intro @rng_full @rng_part))) (And.intro (And.intro @a_store1e (And.intro @a_storene @st1O_c)) (And.intro @stn_full (And.intro @stn_part @a_load1v)))) (And.intro (And.intro (And.intro @a_loadnvf (And.intro @a_loadnvp @stD_callv)) (And.intro @cells_agg (And.intro @toList_arr @size_arr))) (And.intro (And.intro @g_new (And.intro @g_old @g_set)) (And.intro @g_sets (And.intro @set_new @set_old))))) (And.intro (And.intro (And.intro (And.intro @set_set @alloc_n) (And.intro @set_n (And.intro @lt_yes @le_yes))) (And.intro (And.intro @eqn_yes (And.intro @lti_yes @lei_yes)) (And.intro @lti_no (And.intro @lei_no @beqi_no)))) (And.intro (And.intro (And.intro @beqi_yes (And.intro @bnei_no @bnei_yes)) (And.intro @boolIs_t (And.intro @boolIs_f @a_lenv))) (And.intro (And.intro @a_iaddrv (And.intro @a_faddrv @row_alloc)) (And.intro @row_set (And.intro @st_app @st_apps)))))) (And.intro (And.intro (And.intro (And.intro (And.intro @sd_apps @sd_app) (And.intro @st_iaddrp (And.intro @sd_iaddrp @st_idxa))) (And.intro (And.intro @sd_idxa (And.intro @st_slarr @sd_slarr)) (And.intro @st_eqs (And.intro @sd_eqs @st_mm)))) (And.intro (And.intro (And.intro @sd_mm (And.intro @st_i2str @sd_i2str)) (And.intro @st_rng (And.intro @st_next @st_copy))) (And.intro (And.intro @sd_copy (And.intro @st_clr @a_mmx)) (And.intro @a_mmn (And.intro @a_iaddrp @a_bslicee))))) (And.intro (And.intro (And.intro (And.intro @cells_int (And.intro @cells_bool @cells_str)) (And.intro @cells_sl (And.intro @cells_slc @cells_ptr))) (And.intro (And.intro @cells_pn (And.intro @touch_load1 @touch_loadn)) (And.intro @touch_load1v (And.intro @touch_loadnv @keepsB_n)))) (And.intro (And.intro (And.intro @keepsB_c (And.intro @olderB_n @olderB_c)) (And.intro @obl_nil (And.intro @obl_c @ob1_0))) (And.intro (And.intro @ob1_2 (And.intro @ob1_s @bi_u)) (And.intro @resC (And.intro @cellnp @cell1p)))))))
set_option linter.defProp false in
def A3c := (And.intro (And.intro (And.intro (And.intro @List.append_nil.{0} @List.nil_append.{0}) (And.intro @List.cons_append.{0} @decide_true)) (And.intro (And.intro @decide_false @List.drop_zero.{0}) (And.intro @Option.bind_some.{0,0} @List.toList_toArray.{0}))) (And.intro (And.intro (And.intro @implies_true.{1} @implies_true.{0}) (And.intro @not_true_eq_false @not_false_eq_true)) (And.intro (And.intro @and_false @Int.toNat_zero) (And.intro @bne_self_eq_false.{0} @Bool.not_not))))
set_option linter.defProp false in
def LN := And.intro @List.length_cons.{0} (And.intro @List.length_nil.{0} (And.intro @alloc_n @set_n))
set_option linter.defProp false in
def P3 := And.intro ANs (And.intro A3s (And.intro ANc (And.intro A3c (And.intro (And.intro (And.intro (And.intro (And.intro @AOp.map.eq_1 (And.intro @AOp.map.eq_2 @AOp.map.eq_3)) (And.intro @AOp.map.eq_4 (And.intro @AOp.map.eq_5 @AOp.map.eq_6))) (And.intro (And.intro @AOp.map.eq_7 (And.intro @AOp.map.eq_8 @AOp.map.eq_9)) (And.intro (And.intro @AOp.map.eq_10 @AOp.map.eq_11) (And.intro @AOp.map.eq_12 @AOp.map.eq_13)))) (And.intro (And.intro (And.intro @AOp.map.eq_14 (And.intro @AOp.map.eq_15 @AOp.map.eq_16)) (And.intro @AOp.map.eq_17 (And.intro @AOp.map.eq_18 @AOp.map.eq_19))) (And.intro (And.intro @AOp.map.eq_20 (And.intro @AOp.map.eq_21 @AOp.map.eq_22)) (And.intro (And.intro @AOp.map.eq_23 @AOp.map.eq_24) (And.intro @AOp.map.eq_25 @AOp.map.eq_26))))) (And.intro (And.intro (And.intro (And.intro @AOp.map.eq_27 (And.intro @AOp.map.eq_28 @AOp.map.eq_29)) (And.intro @AOp.map.eq_30 (And.intro @AOp.map.eq_31 @AOp.map.eq_32))) (And.intro (And.intro @AOp.map.eq_33 (And.intro @AOp.map.eq_34 @AOp.map.eq_35)) (And.intro (And.intro @AOp.map.eq_36 @AOp.map.eq_37) (And.intro @AOp.map.eq_38 @AOp.map.eq_39)))) (And.intro (And.intro (And.intro @AOp.map.eq_40 (And.intro @AOp.map.eq_41 @AOp.map.eq_42)) (And.intro (And.intro @AOp.map.eq_43 @AOp.map.eq_44) (And.intro @AOp.map.eq_45 @AOp.map.eq_46))) (And.intro (And.intro @AOp.map.eq_47 (And.intro (And.intro @AOp.map.eq_48 (And.intro @AOp.map.eq_49 (And.intro @AOp.map.eq_50 (And.intro @AOp.map.eq_51 (And.intro @AOp.map.eq_52 (And.intro @AOp.map.eq_53 @AOp.map.eq_54)))))) (And.intro @List.take_nil.{0} @List.take_zero.{0}))) (And.intro (And.intro @List.take_succ_cons.{0} @List.drop_nil.{0}) (And.intro @List.drop_zero.{0} @List.drop_succ_cons.{0})))))))))
end Go.AM

set_option linter.unusedSimpArgs false
set_option linter.unusedVariables false
namespace Go.AM
structure Th where
  P : AHeap → Prop
  F : List Nat
  lt : ∀ H, P H → ∀ b ∈ F, b < H.n
  st : ∀ H H', P H → H.n ≤ H'.n → (∀ b ∈ F, H'.get b = H.get b) → P H'
def Apart (a b : Th) : Prop := ∀ x ∈ a.F, x ∉ b.F
theorem Apart.symm {a b : Th} (h : Apart a b) : Apart b a := fun x h1 h2 => h x h2 h1
structure Sep (H : AHeap) (ts : List Th) : Prop where
  all : ∀ t ∈ ts, t.P H
  ap : ts.Pairwise Apart
theorem Sep.nil (H : AHeap) : Sep H [] := ⟨by simp, .nil⟩
theorem Sep.get {H : AHeap} {ts : List Th} (h : Sep H ts) (i : Nat) {t : Th} (hi : ts[i]? = some t) : t.P H := h.all t (List.mem_of_getElem? hi)
theorem Sep.keeps {H H' : AHeap} {ts : List Th} (h : Sep H ts) (k : Keeps H H') : Sep H' ts :=
  ⟨fun t ht => t.st H H' (h.all t ht) k.n (fun b hb => k.get b (t.lt H (h.all t ht) b hb)), h.ap⟩
theorem Sep.upd {H H' : AHeap} {t t' : Th} {r : List Th} : ∀ {l : List Th}, Sep H (l ++ t :: r) → Chg t.F H H' → t'.P H' → (∀ b ∈ t'.F, b ∈ t.F ∨ H.n ≤ b) → Sep H' (l ++ t' :: r) := by
  intro l h c hp hf
  have key : ∀ x, x.P H → Apart t x → Apart t' x := fun x hx ha b hb hbx => by
    rcases hf b hb with h1 | h1
    · exact ha b h1 hbx
    · have := x.lt H hx b hbx; omega
  have stay : ∀ x, x.P H → Apart t x → x.P H' := fun x hx ha => x.st H H' hx c.n (fun b hb => c.get b (x.lt H hx b hb) (fun hbt => ha b hbt hb))
  have h1 := List.pairwise_append.1 h.ap
  obtain ⟨a1, a2, a3⟩ := h1
  have a4 := List.pairwise_cons.1 a2
  refine ⟨?_, List.pairwise_append.2 ⟨a1, List.pairwise_cons.2 ⟨fun x hx => key x (h.all x (by simp [hx])) (a4.1 x hx), a4.2⟩, ?_⟩⟩
  · intro x hx
    rcases List.mem_append.1 hx with hx | hx
    · exact stay x (h.all x (by simp [hx])) (a3 x hx t (by simp)).symm
    · rcases List.mem_cons.1 hx with rfl | hx
      · exact hp
      · exact stay x (h.all x (by simp [hx])) (a4.1 x hx)
  · intro x hx y hy
    rcases List.mem_cons.1 hy with rfl | hy
    · exact (key x (h.all x (by simp [hx])) (a3 x hx t (by simp)).symm).symm
    · exact a3 x hx y (by simp [hy])
theorem Sep.apart {H : AHeap} {ts : List Th} (h : Sep H ts) (i j : Nat) (hij : i < j) {a b : Th} (hi : ts[i]? = some a) (hj : ts[j]? = some b) : Apart a b := by
  obtain ⟨h1, rfl⟩ := List.getElem?_eq_some_iff.1 hi
  obtain ⟨h2, rfl⟩ := List.getElem?_eq_some_iff.1 hj
  exact List.pairwise_iff_getElem.1 h.ap i j h1 h2 hij
theorem Sep.add {H H' : AHeap} {t : Th} {ts : List Th} (h : Sep H ts) (k : Keeps H H') (hp : t.P H') (hf : ∀ b ∈ t.F, H.n ≤ b) : Sep H' (t :: ts) :=
  ⟨fun x hx => by
    rcases List.mem_cons.1 hx with rfl | hx
    · exact hp
    · exact (h.keeps k).all x hx, List.pairwise_cons.2 ⟨fun x hx b hb hbx => by have := x.lt H (h.all x hx) b hbx; have := hf b hb; omega, h.ap⟩⟩
def thB (b : Nat) (o : AO) : Th where
  P H := H.get b = some o
  F := [b]
  lt H h x hx := by simp at hx; subst hx; exact AHeap.get_lt h
  st H H' h _ k := by rw [k b (by simp)]; exact h
theorem Sep.box {H : AHeap} {ts : List Th} (h : Sep H ts) (o : AO) : Sep (H.alloc o) (thB H.n o :: ts) :=
  h.add ((Keeps.refl H).alloc o) (AHeap.get_alloc_new H o) (by simp [thB])
section
variable {P : Program} {ng : Nat} {H : AHeap} {KF : List Value → AHeap → Prop} {fr tm : List Value} {tr : List TE} {Q : AQ}
end
def chunks (esz : Nat) : Nat → List Value → List (List Value)
  | 0, _ => []
  | n + 1, c => c.take esz :: chunks esz n (c.drop esz)
theorem chunks_len (esz : Nat) : ∀ (n : Nat) (c : List Value), (chunks esz n c).length = n
  | 0, _ => rfl
  | n + 1, c => by simp [chunks, chunks_len esz n]
theorem chunks_flat (esz : Nat) : ∀ (n : Nat) (c : List Value), (chunks esz n c).flatten = c.take (n * esz)
  | 0, _ => by simp [chunks]
  | n + 1, c => by
    rw [chunks, List.flatten_cons, chunks_flat esz n, Nat.add_mul, Nat.one_mul, Nat.add_comm (n * esz) esz, List.take_add]
theorem chunks_mem (esz : Nat) : ∀ (n : Nat) (c : List Value) (r : List Value), r ∈ chunks esz n c → ∃ i, i < n ∧ r = (c.drop (i * esz)).take esz
  | n + 1, c, r, h => by
    simp only [chunks, List.mem_cons] at h
    rcases h with rfl | h
    · exact ⟨0, by omega, by simp⟩
    · obtain ⟨i, hi, rfl⟩ := chunks_mem esz n _ r h
      exact ⟨i + 1, by omega, by rw [List.drop_drop, Nat.add_mul, Nat.one_mul, Nat.add_comm]⟩
theorem AR.rows {P : Program} {t e esz : Nat} {H : AHeap} {v : Value} (hu : P.underlying t = some (.slice e)) (hz : P.cellsOf e = esz) (h : AR P H.get t [v]) : ∃ rows, Sl H esz v rows ∧ ∀ r ∈ rows, AR P H.get e r := by
  subst hz
  rcases h.slice_inv hu with h2 | ⟨x, hx, h2⟩ | ⟨b, n, k, c, u, h2, h3, h4, h5, h6, h7, h8⟩
  · cases h2; exact ⟨[], Sl.nil _ _, by simp⟩
  · cases h2
    refine ⟨[], ⟨⟨_, _, rfl⟩, by simp, ?_⟩, by simp⟩
    obtain ⟨b, o, s⟩ := x
    cases s with
    | none => simp at hx
    | some s => simp [elemsA]
  · cases h2
    have hnk : n * P.cellsOf e ≤ c.length := by rw [h7]; exact Nat.mul_le_mul_right _ h4
    refine ⟨chunks (P.cellsOf e) n c, ⟨⟨_, k, by rw [chunks_len]; rfl⟩, ?_, ?_⟩, ?_⟩
    · intro r hr
      obtain ⟨i, hi, rfl⟩ := chunks_mem _ _ _ _ hr
      have : (i + 1) * P.cellsOf e ≤ n * P.cellsOf e := Nat.mul_le_mul_right _ hi
      rw [Nat.add_mul, Nat.one_mul] at this
      rw [List.length_take, List.length_drop]; omega
    · rw [chunks_flat]
      simp only [elemsA, slc, h6]
      rw [if_pos (by omega), List.drop_zero]
    · intro r hr
      obtain ⟨i, hi, rfl⟩ := chunks_mem _ _ _ _ hr
      exact h8 i (by omega)
theorem AV.rows {P : Program} {t e esz : Nat} {H : AHeap} {v : Value} (hu : P.underlying t = some (.slice e)) (hz : P.cellsOf e = esz) (h : AV P H.get t v) : ∃ rows, Sl H esz v rows ∧ ∀ r ∈ rows, AR P H.get e r := by
  have h1 := h.one (by unfold isAggT; rw [hu]; rfl)
  have := h.1
  rw [h1] at this
  exact this.rows hu hz
end Go.AM

set_option linter.unusedSimpArgs false
set_option linter.unusedVariables false
namespace Go.AM.Fd
open Nat (reduceAdd reduceEqDiff reduceLT reduceLeDiff reduceMul reduceSub)
open Go.Proofs Go.AM.F
def kd (t : Nat) : IntKind := if t = 5 then .u8 else if t = 327 then .u16 else if t = 37 then .u32 else .u64
def WS (H : AHeap) (b bv : Nat) (l : List UInt8) : Prop :=
  ∃ v, H.get b = some (.cells true false 1 [v] 185) ∧ AP H 5 1 v l.length (cellsOf l) ∧ (blk v = none ∧ bv = b ∨ blk v = some bv ∧ bv ≠ b)
theorem WS.lt {H : AHeap} {b bv : Nat} {l : List UInt8} (h : WS H b bv l) : b < H.n ∧ bv < H.n := by
  obtain ⟨v, h1, h2, h3⟩ := h
  have := AHeap.get_lt h1
  refine ⟨this, ?_⟩
  rcases h3 with ⟨_, rfl⟩ | ⟨h3, _⟩
  · exact this
  · exact h2.lt h3
theorem WS.chg {H H' : AHeap} {b bv : Nat} {l : List UInt8} {S : List Nat} (h : WS H b bv l) (k : Chg S H H') (h1 : b ∉ S) (h2 : bv ∉ S) : WS H' b bv l := by
  obtain ⟨v, a1, a2, a3⟩ := h
  refine ⟨v, k.at_ a1 h1, a2.chg k ?_, a3⟩
  intro x hx
  rw [mem_blkL] at hx
  rcases a3 with ⟨e, _⟩ | ⟨e, _⟩
  · rw [e] at hx; cases hx
  · rw [e] at hx; cases hx; exact h2
theorem WS.app {H : AHeap} {b bv : Nat} {l m : List UInt8} {x : Value} (h : WS H b bv l) (hx : BS H x m) (hl : l.length + m.length ≤ 1000000000) :
    ∃ v v' H1, H.get b = some (.cells true false 1 [v] 185) ∧ (∀ K : Value → AHeap → Prop, K v' H1 → stepA Go.Proofs.Tryz.prog 0 (.app 5 1 1 v x) H K) ∧ H1.get b = some (.cells true false 1 [v] 185) ∧ v'.oneCell' = true ∧
      ∃ bv', WS (H1.set b (.cells true false 1 [v'] 185)) b bv' (l ++ m) ∧ (bv' = bv ∨ H.n ≤ bv') ∧ Chg [b, bv] H (H1.set b (.cells true false 1 [v'] 185)) := by
  obtain ⟨v, h1, h2, h3⟩ := h
  obtain ⟨a, k, rfl⟩ := hx.sh
  obtain ⟨v', H', k1, k2, k3, k4⟩ := h2.app (bytes := 1) (news := cellsOf m) (m := m.length) (by rw [cellsOf_length]; omega) (by omega)
  have hb : b ∉ blkL v := by
    rw [mem_blkL]
    rcases h3 with ⟨e, _⟩ | ⟨e, hne⟩
    · rw [e]; simp
    · rw [e]; simpa using hne
  have hbn := AHeap.get_lt h1
  have hb1 := k3.at_ h1 hb
  have hS : ∀ x ∈ blkL v, x ∈ [b, bv] ∨ H.n ≤ x := by
    intro x hx
    rw [mem_blkL] at hx
    rcases h3 with ⟨e, _⟩ | ⟨e, hne⟩
    · rw [e] at hx; cases hx
    · rw [e] at hx; cases hx; simp
  have hv'b : blk v' ≠ some b := by
    rcases k4 with k4 | k4
    · exact fun e => hb (mem_blkL.2 (k4 ▸ e))
    · rw [k4]; simp; omega
  refine ⟨v, v', H', h1, fun K hK => by rw [s_app rfl hx.el k1]; exact hK, hb1, ?_, ?_⟩
  · obtain ⟨a', ha⟩ := k2.shape
    rw [ha]; rfl
  have hset := Chg.set H' (AHeap.get_lt hb1) (.cells true false 1 [v'] 185)
  have hW : AP (H'.set b (.cells true false 1 [v'] 185)) 5 1 v' (l ++ m).length (cellsOf (l ++ m)) := by
    rw [List.length_append, cellsOf_append]
    refine k2.chg hset ?_
    intro x hx
    rw [mem_blkL] at hx
    intro e
    simp only [List.mem_singleton] at e
    subst e
    exact hv'b hx
  have hC : Chg [b, bv] H (H'.set b (.cells true false 1 [v'] 185)) := by
    refine Chg.trans (S := [b, bv]) (Chg.mono k3 (fun x hx => ?_)) hset (by simp)
    rcases hS x hx with h | h
    · exact h
    · rw [mem_blkL] at hx
      have := h2.lt hx
      omega
  cases hbv : blk v' with
  | none =>
    have hbl : blk v = none := by
      rcases k4 with k4 | k4
      · rw [← k4]; exact hbv
      · rw [hbv] at k4; cases k4
    refine ⟨bv, ⟨v', AHeap.get_set_same hb1 _, hW, .inl ⟨hbv, ?_⟩⟩, .inl rfl, hC⟩
    rcases h3 with ⟨_, e⟩ | ⟨e, _⟩
    · exact e
    · rw [hbl] at e; cases e
  | some x =>
    refine ⟨x, ⟨v', AHeap.get_set_same hb1 _, hW, .inr ⟨hbv, fun e => hv'b (by rw [hbv, e])⟩⟩, ?_, hC⟩
    rcases k4 with k4 | k4
    · rw [hbv] at k4
      rcases h3 with ⟨e, _⟩ | ⟨e, _⟩
      · rw [e] at k4; cases k4
      · rw [e] at k4; cases k4; exact .inl rfl
    · rw [hbv] at k4; cases k4; exact .inr (Nat.le_refl _)
def num (l : List UInt8) : Nat := l.foldl (fun n b => (n * 256 + b.toNat) % 18446744073709551616) 0
def RV (H : AHeap) (r bv : Nat) (v : Value) (l : List UInt8) : Prop :=
  (v = .slice none 0 0 ∧ l = [] ∧ bv = r) ∨ ∃ o c rm, v = slc bv o l.length l.length ∧ H.get bv = some (.cells true rm 1 c 5) ∧ bv ≠ r ∧ c.drop o = cellsOf l ∧ o ≤ c.length
def RS (H : AHeap) (r bv : Nat) (l : List UInt8) (bad : Bool) : Prop := ∃ v, H.get r = some (.cells true false 2 [v, .bool bad] 417) ∧ RV H r bv v l
theorem RV.bs {H : AHeap} {r bv : Nat} {v : Value} {l : List UInt8} (h : RV H r bv v l) : BS H v l := by
  rcases h with ⟨rfl, rfl, rfl⟩ | ⟨o, c, rm, rfl, h1, h2, h3, h4⟩
  · exact BS.nil H
  · refine ⟨⟨_, _, rfl⟩, ?_⟩
    have hl := congrArg List.length h3
    rw [List.length_drop, cellsOf_length] at hl
    simp only [elemsA, slc, h1]
    rw [if_pos (by omega), h3, List.take_of_length_le (by rw [cellsOf_length]; omega)]
theorem RV.chg {H H' : AHeap} {r bv : Nat} {v : Value} {l : List UInt8} {S : List Nat} (h : RV H r bv v l) (k : Chg S H H') (hS : bv ∉ S) : RV H' r bv v l := by
  rcases h with ⟨rfl, rfl, rfl⟩ | ⟨o, c, rm, rfl, h1, h2, h3, h4⟩
  · exact .inl ⟨rfl, rfl, rfl⟩
  · exact .inr ⟨o, c, rm, rfl, k.at_ h1 hS, h2, h3, h4⟩
theorem RS.chg {H H' : AHeap} {r bv : Nat} {l : List UInt8} {bad : Bool} {S : List Nat} (h : RS H r bv l bad) (k : Chg S H H') (h1 : r ∉ S) (h2 : bv ∉ S) : RS H' r bv l bad := by
  obtain ⟨v, a1, a2⟩ := h
  exact ⟨v, k.at_ a1 h1, a2.chg k h2⟩
theorem RS.lt {H : AHeap} {r bv : Nat} {l : List UInt8} {bad : Bool} (h : RS H r bv l bad) : r < H.n ∧ bv < H.n := by
  obtain ⟨v, a1, a2⟩ := h
  refine ⟨AHeap.get_lt a1, ?_⟩
  rcases a2 with ⟨_, _, rfl⟩ | ⟨o, c, rm, _, h1, _⟩
  · exact AHeap.get_lt a1
  · exact AHeap.get_lt h1
def TK (H H' : AHeap) (r bv : Nat) (l : List UInt8) (n : Nat) (v : Value) : Prop :=
  Chg [r] H H' ∧ ((v = .slice none 0 0 ∧ l = [] ∧ n = 0 ∧ bv = r ∧ H'.get r = some (.cells true false 2 [.slice none 0 0, .bool false] 417)) ∨
    ∃ o c rm, v = slc bv o n n ∧ H'.get r = some (.cells true false 2 [slc bv (o + n) (l.length - n) (l.length - n), .bool false] 417) ∧ H'.get bv = some (.cells true rm 1 c 5) ∧ bv ≠ r ∧ c.drop o = cellsOf l ∧ o + n ≤ c.length)
theorem TK.bs {H H' : AHeap} {r bv : Nat} {l : List UInt8} {n : Nat} {v : Value} (h : TK H H' r bv l n v) (hn : n ≤ l.length) : BS H' v (l.take n) := by
  obtain ⟨_, ⟨rfl, rfl, rfl, rfl, h1⟩ | ⟨o, c, rm, rfl, h1, h2, h3, h4, h5⟩⟩ := h
  · exact BS.nil H'
  · refine ⟨⟨some ⟨bv, o, none⟩, n, by rw [List.length_take, Nat.min_eq_left hn]; rfl⟩, ?_⟩
    simp only [elemsA, slc, h2, Nat.mul_one]
    rw [if_pos h5, h4]
    simp [cellsOf, List.map_take]
def failB (l : List UInt8) (bad : Bool) (n : Int) : Prop := bad = true ∨ n < 0 ∨ (l.length : Int) < n
instance (l : List UInt8) (bad : Bool) (n : Int) : Decidable (failB l bad n) := by unfold failB; infer_instance
end Go.AM.Fd

set_option linter.unusedSimpArgs false
set_option linter.unusedVariables false
namespace Go.AM
theorem ofI (n a : Nat) : BitVec.ofInt n (a : Int) = BitVec.ofNat n a := BitVec.ofInt_natCast ..
theorem bv_xor (n a b : Nat) : (BitVec.ofInt n (a : Int) ^^^ BitVec.ofInt n (b : Int)).toNat = (a ^^^ b) % 2 ^ n := by
  rw [ofI, ofI, BitVec.toNat_xor, BitVec.toNat_ofNat, BitVec.toNat_ofNat, Nat.xor_mod_two_pow]
theorem bv_and (n a b : Nat) : (BitVec.ofInt n (a : Int) &&& BitVec.ofInt n (b : Int)).toNat = (a &&& b) % 2 ^ n := by
  rw [ofI, ofI, BitVec.toNat_and, BitVec.toNat_ofNat, BitVec.toNat_ofNat, Nat.and_mod_two_pow]
def uk (k : IntKind) : Bool := !k.signed
theorem wrapU {k : IntKind} (h : uk k = true) (n : Nat) (hn : n < 2 ^ k.bits) : k.wrap (n : Int) = n := by
  cases k <;> simp [uk, IntKind.signed] at h <;> simp [IntKind.wrap, IntKind.bits, IntKind.signed] at hn ⊢ <;> omega
theorem w_xor {k : IntKind} (hk : uk k = true) {a b : Nat} (ha : a < 2 ^ k.bits) (hb : b < 2 ^ k.bits) : k.wrap ((BitVec.ofInt k.bits (a : Int) ^^^ BitVec.ofInt k.bits (b : Int)).toNat : Int) = ((a ^^^ b : Nat) : Int) := by
  rw [bv_xor, Nat.mod_eq_of_lt (Nat.xor_lt_two_pow ha hb), wrapU hk _ (Nat.xor_lt_two_pow ha hb)]
theorem w_and {k : IntKind} (hk : uk k = true) {a b : Nat} (ha : a < 2 ^ k.bits) : k.wrap ((BitVec.ofInt k.bits (a : Int) &&& BitVec.ofInt k.bits (b : Int)).toNat : Int) = ((a &&& b : Nat) : Int) := by
  have : a &&& b < 2 ^ k.bits := Nat.lt_of_le_of_lt Nat.and_le_left ha
  rw [bv_and, Nat.mod_eq_of_lt this, wrapU hk _ this]
theorem w_xor32 {a b : Nat} (ha : a < 4294967296) (hb : b < 4294967296) : IntKind.u32.wrap ((BitVec.ofInt IntKind.u32.bits (a : Int) ^^^ BitVec.ofInt IntKind.u32.bits (b : Int)).toNat : Int) = ((a ^^^ b : Nat) : Int) := w_xor (k := .u32) rfl ha hb
theorem w_and1 {k : IntKind} (hk : uk k = true) {a : Nat} (ha : a < 2 ^ k.bits) : k.wrap ((BitVec.ofInt k.bits (a : Int) &&& BitVec.ofInt k.bits 1).toNat : Int) = ((a % 2 : Nat) : Int) := by
  have := w_and hk (b := 1) ha
  rw [Nat.and_one_is_mod] at this; exact this
theorem b_shrN {k k' : IntKind} {n s : Nat} (h : s ≤ k.bits) : binA .shr (.int k (n : Int)) (.int k' (s : Int)) = some (.int k ((n / 2 ^ s : Nat) : Int)) := by
  rw [b_shr _ _ _ _ (Int.natCast_nonneg s), Int.toNat_natCast, Nat.min_eq_left h, Int.fdiv_eq_ediv_of_nonneg _ (Int.le_of_lt (Int.pow_pos (by omega)))]
  simp
theorem a_uxor {H : AHeap} {k : IntKind} {n : Int} : asem (.un .xor (.int k n)) H = some (.int k (k.wrap (BitVec.ofInt k.bits (if k.signed then -1 else k.max) ^^^ BitVec.ofInt k.bits n).toNat), H) := _root_.id rfl
def BQ (H : AHeap) (v : Value) (l : List UInt8) : Prop :=
  (v = .slice none 0 0 ∧ l = []) ∨ (∃ b o z, v = .slice (some ⟨b, o, some z⟩) 0 0 ∧ l = []) ∨
    ∃ b o k own room esz c e, v = slc b o l.length k ∧ l.length ≤ k ∧ H.get b = some (.cells own room esz c e) ∧ (esz = 1 ∨ room = false) ∧ (c.drop o).take l.length = cellsOf l ∧ o + l.length ≤ c.length
theorem BQ.bs {H : AHeap} {v : Value} {l : List UInt8} (h : BQ H v l) : BS H v l := by
  rcases h with ⟨rfl, rfl⟩ | ⟨b, o, z, rfl, rfl⟩ | ⟨b, o, k, own, room, esz, c, e, rfl, h1, h2, h3, h4, h5⟩
  · exact BS.nil H
  · exact ⟨⟨_, _, rfl⟩, by simp [elemsA, cellsOf]⟩
  · refine ⟨⟨_, _, rfl⟩, ?_⟩
    simp only [elemsA, slc, h2, Nat.mul_one]
    rw [if_pos h5, h4]
def tb : Value → List Nat
  | .slice (some ⟨b, _, none⟩) _ _ => [b]
  | _ => []
theorem BQ.chg {H H' : AHeap} {v : Value} {l : List UInt8} {S : List Nat} (h : BQ H v l) (k : Chg S H H') (hS : ∀ b ∈ tb v, b ∉ S) : BQ H' v l := by
  rcases h with h | h | ⟨b, o, kk, own, room, esz, c, e, rfl, h1, h2, h3, h4, h5⟩
  · exact .inl h
  · exact .inr (.inl h)
  · exact .inr (.inr ⟨b, o, kk, own, room, esz, c, e, rfl, h1, k.at_ h2 (hS b (by simp [tb, slc])), h3, h4, h5⟩)
theorem BQ.keeps {H H' : AHeap} {v : Value} {l : List UInt8} (h : BQ H v l) (k : Keeps H H') : BQ H' v l := h.chg (k.chg []) (by simp)
theorem BQ.cut {H : AHeap} {v : Value} {l : List UInt8} (h : BQ H v l) {lo hi : Option Value} {i j : Nat} (hij : i ≤ j) (hj : j ≤ l.length) (h1 : ∀ k, l.length ≤ k → bndA hi l.length k = some j) (h2 : bndA lo 0 j = some i) :
    ∃ w, asem (.slsl 1 v lo hi none) H = some (w, H) ∧ BQ H w ((l.drop i).take (j - i)) := by
  rcases h with ⟨rfl, rfl⟩ | ⟨b, o, z, rfl, rfl⟩ | ⟨b, o, k, own, room, esz, c, e, rfl, p1, p2, p3, p4, p5⟩
  · have hj0 : j = 0 := by simpa using hj
    have hi0 : i = 0 := by omega
    subst hj0; subst hi0
    exact ⟨_, a_slsl_nil ⟨0, 0, 0, bnd_none 0 0, h1 0 (Nat.le_refl _), h2⟩, .inl ⟨rfl, rfl⟩⟩
  · have hj0 : j = 0 := by simpa using hj
    have hi0 : i = 0 := by omega
    subst hj0; subst hi0
    refine ⟨.slice (some ⟨b, o, some z⟩) 0 0, ?_, .inr (.inl ⟨b, o, z, rfl, rfl⟩)⟩
    have := h1 0 (Nat.le_refl _)
    simp only [List.length_nil] at this
    simp only [asem, bnd_none, this, h2]
    simp
  · refine ⟨slc b (o + i) (j - i) (k - i), ?_, ?_⟩
    · have := h1 k p1
      simp only [asem, slc, bnd_none, this, h2, p2, Nat.mul_one]
      rw [if_pos p3]
    · have hl : ((l.drop i).take (j - i)).length = j - i := by rw [List.length_take, List.length_drop]; omega
      refine .inr (.inr ⟨b, o + i, k - i, own, room, esz, c, e, by rw [hl], by rw [hl]; omega, p2, p3, ?_, by rw [hl]; omega⟩)
      rw [hl]
      have e1 : cellsOf ((l.drop i).take (j - i)) = ((cellsOf l).drop i).take (j - i) := by simp [cellsOf, List.map_take, List.map_drop]
      rw [e1, ← p4, ← List.drop_drop, List.drop_take, List.take_take]
      congr 1
      omega
theorem Chg1.tr {r : Nat} {A B C : AHeap} (h : Chg [r] A B) (k : Chg [r] B C) : Chg [r] A C := h.trans k (fun x hx => .inl hx)
theorem tb_blk {v : Value} {b : Nat} (h : b ∈ tb v) : blk v = some b := by
  unfold tb at h
  split at h
  · simp only [List.mem_singleton] at h; subst h; rfl
  · cases h
theorem Fresh.tb {n : Nat} {v : Value} (h : Fresh n v) : ∀ b ∈ Go.AM.tb v, n ≤ b := fun b hb => h b (tb_blk hb)
end Go.AM

set_option linter.unusedSimpArgs false
set_option linter.unusedVariables false
namespace Go.AM.Fd
open Nat (reduceAdd reduceEqDiff reduceLT reduceLeDiff reduceMul reduceSub)
open Go.Proofs Go.AM.F
def DV : Nat := 3988292384
def ah (r : Nat) : Nat := if r % 2 = 1 then r / 2 ^^^ DV else r / 2
def ei : Nat → Nat → Nat
  | 0, r => r
  | n + 1, r => ei n (ah r)
def crcS (r : Nat) (c : UInt8) : Nat := ei 8 (r ^^^ c.toNat)
def crcL (l : List UInt8) : Nat := l.foldl crcS 4294967295
def crc (l : List UInt8) : Nat := 4294967295 ^^^ crcL l
theorem ah_lt {r : Nat} (h : r < 4294967296) : ah r < 4294967296 := by
  unfold ah
  split
  · exact Nat.xor_lt_two_pow (n := 32) (by omega) (by decide)
  · omega
theorem ei_lt : ∀ n {r : Nat}, r < 4294967296 → ei n r < 4294967296
  | 0, _, h => h
  | n + 1, _, h => ei_lt n (ah_lt h)
theorem xc_lt {r : Nat} (h : r < 4294967296) (c : UInt8) : r ^^^ c.toNat < 4294967296 := Nat.xor_lt_two_pow (n := 32) (by omega) (by have := c.toNat_lt; omega)
theorem crcS_lt {r : Nat} (h : r < 4294967296) (c : UInt8) : crcS r c < 4294967296 := ei_lt 8 (xc_lt h c)
theorem fold_lt : ∀ (l : List UInt8) {r : Nat}, r < 4294967296 → l.foldl crcS r < 4294967296
  | [], _, h => h
  | c :: l, _, h => fold_lt l (crcS_lt h c)
theorem t300 (r : Nat) (hr : r < 4294967296) (H : AHeap) : ∃ v H', ARun Go.Proofs.Tryz.prog 0 300 [.int .u32 r] H v H' ∧ v = .int .u32 (ah r) ∧ H' = H := by
  refine walk2 f300_ok f300_n ?_
  intro Q hq1 hq2
  have h1 : IntKind.u32.wrap ((BitVec.ofInt IntKind.u32.bits (r : Int) &&& BitVec.ofInt IntKind.u32.bits 1).toNat : Int) = ((r % 2 : Nat) : Int) := w_and1 (k := .u32) rfl hr
  have h2 : binA .shr (.int .u32 (r : Int)) (.int .u64 1) = some (.int .u32 ((r / 2 : Nat) : Int)) := b_shrN (k := .u32) (k' := .u64) (n := r) (s := 1) (by decide)
  have h3 : IntKind.u32.wrap ((BitVec.ofInt IntKind.u32.bits ((r / 2 : Nat) : Int) ^^^ BitVec.ofInt IntKind.u32.bits 3988292384).toNat : Int) = ((r / 2 ^^^ DV : Nat) : Int) := w_xor32 (b := DV) (by omega) (by decide)
  by_cases h : r % 2 = 1
  · have h4 : (0 : Int) < ((r % 2 : Nat) : Int) := by omega
    simp (disch := first | assumption | omega | (simp only [LN] <;> omega) | (simp (disch := first | assumption | omega | (simp only [LN] <;> omega)) only [row_alloc, row_set]; assumption)) only [f300, W_block, P3, ↓reduceIte, reduceAdd, reduceEqDiff, reduceCtorEq, initFr, reduceLT, clsA, reduceLeDiff, reduceMul, reduceSub, reduceIte, h1, h2, h3, h4]
    exact hq2 _ _ ⟨_, rfl, by rw [ah, if_pos h]; rfl, rfl⟩
  · have h4 : ¬ (0 : Int) < ((r % 2 : Nat) : Int) := by omega
    simp (disch := first | assumption | omega | (simp only [LN] <;> omega) | (simp (disch := first | assumption | omega | (simp only [LN] <;> omega)) only [row_alloc, row_set]; assumption)) only [f300, W_block, P3, ↓reduceIte, reduceAdd, reduceEqDiff, reduceCtorEq, initFr, reduceLT, clsA, reduceLeDiff, reduceMul, reduceSub, reduceIte, h1, h2, h3, h4]
    exact hq2 _ _ ⟨_, rfl, by rw [ah, if_neg h]; rfl, rfl⟩
theorem t299 (r : Nat) (hr : r < 4294967296) (H : AHeap) : ∃ v H', ARun Go.Proofs.Tryz.prog 0 299 [.int .u32 r, .func (.func 300) #[] #[]] H v H' ∧ v = .int .u32 (ei 8 r) ∧ H' = H := by
  refine walk2 f299_ok f299_n ?_
  intro Q hq1 hq2
  simp (disch := first | assumption | omega | (simp only [LN] <;> omega) | (simp (disch := first | assumption | omega | (simp only [LN] <;> omega)) only [row_alloc, row_set]; assumption)) only [f299, W_block, P3, ↓reduceIte, reduceAdd, reduceEqDiff, reduceCtorEq, initFr, reduceLT, clsA, reduceLeDiff, reduceMul, reduceSub, reduceIte]
  refine W_loop2 (fun q fr K => K = H ∧ ∃ (i s : Nat) (a : Value), i ≤ 8 ∧ q = 8 - i ∧ s < 4294967296 ∧ ei (8 - i) s = ei 8 r ∧ fr = [.int .u32 s, .func (.func 300) #[] #[], .int .u32 0, .int .i64 i, a]) 8 ⟨rfl, 0, r, undef, by omega, rfl, hr, rfl, rfl⟩ ?_
  rintro Q' q fr K ⟨rfl, i, s, a, hi, rfl, hs, he8, rfl⟩ hn he hrt
  by_cases hc : i < 8
  · simp (disch := first | assumption | omega | (simp only [LN] <;> omega) | (simp (disch := first | assumption | omega | (simp only [LN] <;> omega)) only [row_alloc, row_set]; assumption)) only [W_block, P3, ↓reduceIte, reduceAdd, reduceEqDiff, reduceCtorEq, initFr, reduceLT, clsA, reduceLeDiff, reduceMul, reduceSub, reduceIte]
    refine callK (t300 s hs K) ?_
    rintro _ _ ⟨rfl, rfl⟩
    simp (disch := first | assumption | omega | (simp only [LN] <;> omega) | (simp (disch := first | assumption | omega | (simp only [LN] <;> omega)) only [row_alloc, row_set]; assumption)) only [W_block, P3, ↓reduceIte, reduceAdd, reduceEqDiff, reduceCtorEq, initFr, reduceLT, clsA, reduceLeDiff, reduceMul, reduceSub, reduceIte, wrap_succ (n := i) (by omega)]
    refine hn _ _ _ ⟨rfl, i + 1, ah s, _, by omega, rfl, ah_lt hs, ?_, rfl⟩ (by omega)
    rw [← he8, show 8 - i = (8 - (i + 1)) + 1 by omega]; rfl
  · obtain rfl : i = 8 := by omega
    simp (disch := first | assumption | omega | (simp only [LN] <;> omega) | (simp (disch := first | assumption | omega | (simp only [LN] <;> omega)) only [row_alloc, row_set]; assumption)) only [W_block, P3, ↓reduceIte, reduceAdd, reduceEqDiff, reduceCtorEq, initFr, reduceLT, clsA, reduceLeDiff, reduceMul, reduceSub, reduceIte]
    refine he _ _ _ ?_
    simp (disch := first | assumption | omega | (simp only [LN] <;> omega) | (simp (disch := first | assumption | omega | (simp only [LN] <;> omega)) only [row_alloc, row_set]; assumption)) only [W_block, P3, ↓reduceIte, reduceAdd, reduceEqDiff, reduceCtorEq, initFr, reduceLT, clsA, reduceLeDiff, reduceMul, reduceSub, reduceIte]
    exact hq2 _ _ ⟨_, rfl, by rw [← he8]; rfl, rfl⟩
theorem t249 {H : AHeap} {x : Value} {l : List UInt8} (hx : BS H x l) (hl : l.length ≤ 1000000000) : ∃ v H', ARun Go.Proofs.Tryz.prog 0 249 [x] H v H' ∧ v = .int .u32 (crc l) ∧ H' = H := by
  refine walk2 f249_ok f249_n ?_
  intro Q hq1 hq2
  have hs := hx.sl
  have his := hs.is
  have hlen := hs.len
  rw [List.length_map] at hlen
  simp (disch := first | assumption | omega | (simp only [LN] <;> omega) | (simp (disch := first | assumption | omega | (simp only [LN] <;> omega)) only [row_alloc, row_set]; assumption)) only [f249, W_block, P3, ↓reduceIte, reduceAdd, reduceEqDiff, reduceCtorEq, initFr, reduceLT, clsA, reduceLeDiff, reduceMul, reduceSub, reduceIte, hlen]
  refine W_loop2 (fun q fr K => K = H ∧ ∃ (i : Nat) (y a : Value), i ≤ l.length ∧ q = l.length - i ∧ fr = [x, .int .u32 0, .int .u32 ((l.take i).foldl crcS 4294967295 : Nat), y, x, .int .i64 l.length, .int .i64 i, a]) l.length ⟨rfl, 0, undef, undef, by omega, rfl, rfl⟩ ?_
  rintro Q' q fr K ⟨rfl, i, y, a, hi, rfl, rfl⟩ hn he hrt
  have hr := fold_lt (l.take i) (r := 4294967295) (by decide)
  generalize hR : (l.take i).foldl crcS 4294967295 = R at hr ⊢
  by_cases hc : i < l.length
  · obtain ⟨hnn, hrow⟩ := hs.at_ (by omega) (i := i) (by simpa using hc)
    rw [List.getElem_map] at hrow
    have hw : IntKind.u32.wrap (l[i].toNat : Int) = l[i].toNat := by rw [wrap_u32]; have := l[i].toNat_lt; omega
    have hw2 := w_xor32 (a := R) (b := l[i].toNat) hr (by have := l[i].toNat_lt; omega)
    simp (disch := first | assumption | omega | (simp only [LN] <;> omega) | (simp (disch := first | assumption | omega | (simp only [LN] <;> omega)) only [row_alloc, row_set]; assumption)) only [W_block, P3, ↓reduceIte, reduceAdd, reduceEqDiff, reduceCtorEq, initFr, reduceLT, clsA, reduceLeDiff, reduceMul, reduceSub, reduceIte, hlen, hw, hw2]
    refine callK (t299 _ (xc_lt hr l[i]) K) ?_
    rintro _ _ ⟨rfl, rfl⟩
    simp (disch := first | assumption | omega | (simp only [LN] <;> omega) | (simp (disch := first | assumption | omega | (simp only [LN] <;> omega)) only [row_alloc, row_set]; assumption)) only [W_block, P3, ↓reduceIte, reduceAdd, reduceEqDiff, reduceCtorEq, initFr, reduceLT, clsA, reduceLeDiff, reduceMul, reduceSub, reduceIte, wrap_succ (n := i) (by omega)]
    refine hn _ _ _ ⟨rfl, i + 1, .int .u8 l[i].toNat, .bool true, by omega, rfl, ?_⟩ (by omega)
    rw [List.take_succ_eq_append_getElem hc, List.foldl_append, hR]
    rfl
  · simp (disch := first | assumption | omega | (simp only [LN] <;> omega) | (simp (disch := first | assumption | omega | (simp only [LN] <;> omega)) only [row_alloc, row_set]; assumption)) only [W_block, P3, ↓reduceIte, reduceAdd, reduceEqDiff, reduceCtorEq, initFr, reduceLT, clsA, reduceLeDiff, reduceMul, reduceSub, reduceIte]
    refine he _ _ _ ?_
    have hw2 := w_xor32 (a := 4294967295) (b := R) (by decide) hr
    simp (disch := first | assumption | omega | (simp only [LN] <;> omega) | (simp (disch := first | assumption | omega | (simp only [LN] <;> omega)) only [row_alloc, row_set]; assumption)) only [W_block, P3, ↓reduceIte, reduceAdd, reduceEqDiff, reduceCtorEq, initFr, reduceLT, clsA, reduceLeDiff, reduceMul, reduceSub, reduceIte, a_uxor]
    rw [List.take_of_length_le (by omega)] at hR
    exact hq2 _ _ ⟨_, rfl, by unfold crc crcL; rw [hR, ← hw2]; rfl, rfl⟩
def TB : List Nat := [1996959894, 3993919788, 124634137, 249268274, 498536548, 997073096, 1994146192, 3988292384]
def tt (x k : Nat) : Nat := if x / 2 ^ k % 2 = 1 then TB.getD k 0 else 0
end Go.AM.Fd

set_option linter.unusedSimpArgs false
set_option linter.unusedVariables false
namespace Go.AM
def via (ρ : Nat → Option Nat) (σ : Sg) : Sg := fun b => (ρ b).bind σ
theorem via_of {ρ : Nat → Option Nat} {σ : Sg} {b c : Nat} {i : BI} (h : ρ b = some c) (k : σ c = some i) : via ρ σ b = some i := by
  unfold via; rw [h]; exact k
theorem via_inv {ρ : Nat → Option Nat} {σ : Sg} {b : Nat} {i : BI} (h : via ρ σ b = some i) : ∃ c, ρ b = some c ∧ σ c = some i := by
  unfold via at h
  cases hb : ρ b with
  | none => rw [hb] at h; cases h
  | some c => rw [hb] at h; exact ⟨c, rfl, h⟩
inductive NV (ρ : Nat → Option Nat) : Value → Value → Prop
  | bool (b : Bool) : NV ρ (.bool b) (.bool b)
  | int (k : IntKind) (n : Int) : NV ρ (.int k n) (.int k n)
  | string (s : ByteArray) : NV ρ (.string s) (.string s)
  | nilPtr : NV ρ (.pointer none) (.pointer none)
  | ptr {b c o : Nat} (h : ρ b = some c) : NV ρ (.pointer (some ⟨b, o, none⟩)) (.pointer (some ⟨c, o, none⟩))
  | nilSl : NV ρ (.slice none 0 0) (.slice none 0 0)
  | sl {b c o n k : Nat} (h : ρ b = some c) : NV ρ (.slice (some ⟨b, o, none⟩) n k) (.slice (some ⟨c, o, none⟩) n k)
  | slz {x : Addr} (hx : x.spot.isSome = true) : NV ρ (.slice (some x) 0 0) (.slice (some x) 0 0)
  | nilMap : NV ρ (.map none) (.map none)
  | map {b c : Nat} (h : ρ b = some c) : NV ρ (.map (some b)) (.map (some c))
  | func (fn : Fn) (xs xs' ys ys' : Array Value) (h1 : xs.size = xs'.size) (h2 : ∀ i (a : i < xs.size) (b : i < xs'.size), NV ρ xs[i] xs'[i])
      (h3 : ys.size = ys'.size) (h4 : ∀ i (a : i < ys.size) (b : i < ys'.size), NV ρ ys[i] ys'[i]) : NV ρ (.func fn xs ys) (.func fn xs' ys')
  | nilFunc : NV ρ .nilFunc .nilFunc
  | iface (t : TypeId) {v v' : Value} (h : NV ρ v v') : NV ρ (.iface t v) (.iface t v')
  | nilIface : NV ρ .nilIface .nilIface
  | agg (xs xs' : Array Value) (h1 : xs.size = xs'.size) (h2 : ∀ i (a : i < xs.size) (b : i < xs'.size), NV ρ xs[i] xs'[i]) : NV ρ (.agg xs) (.agg xs')
  | tuple (xs xs' : Array Value) (h1 : xs.size = xs'.size) (h2 : ∀ i (a : i < xs.size) (b : i < xs'.size), NV ρ xs[i] xs'[i]) : NV ρ (.tuple xs) (.tuple xs')
inductive NL (ρ : Nat → Option Nat) : List Value → List Value → Prop
  | nil : NL ρ [] []
  | cons {v v' : Value} {l l' : List Value} (h : NV ρ v v') (t : NL ρ l l') : NL ρ (v :: l) (v' :: l')
theorem NV.via {ρ : Nat → Option Nat} {σ : Sg} {a b : Value} (h : NV ρ a b) : ∀ {c : Value}, VR σ b c → VR (AM.via ρ σ) a c := by
  induction h with
  | bool b => intro c k; cases k; exact .bool _
  | int k n => intro c k; cases k; exact .int _ _
  | string s => intro c k; cases k; exact .string _
  | nilPtr => intro c k; cases k; exact .nilPtr
  | ptr e => intro c k; cases k with | ptr e2 => exact .ptr (via_of e e2)
  | nilSl => intro c k; cases k; exact .nilSl
  | sl e =>
    intro c k
    cases k with
    | sl e2 hn2 hk2 => exact .sl (via_of e e2) hn2 hk2
    | sl0 e2 => exact .sl0 (via_of e e2)
    | slz hx => simp at hx
  | slz hx =>
    intro c k
    cases k with
    | sl e2 hn2 hk2 => simp at hx
    | sl0 e2 => exact .slz hx
    | slz _ => exact .slz hx
  | nilMap => intro c k; cases k; exact .nilMap
  | map e => intro c k; cases k with | map e2 => exact .map (via_of e e2)
  | func fn xs xs' ys ys' h1 _ h3 _ i2 i4 =>
    intro c k
    cases k with
    | func _ _ zs _ us g1 g2 g3 g4 => exact .func fn xs zs ys us (by omega) (fun i a b => i2 i a (by omega) (g2 i (by omega) b)) (by omega) (fun i a b => i4 i a (by omega) (g4 i (by omega) b))
  | nilFunc => intro c k; cases k; exact .nilFunc
  | iface t _ ih => intro c k; cases k with | iface _ k => exact .iface t (ih k)
  | nilIface => intro c k; cases k; exact .nilIface
  | agg xs xs' h1 _ ih =>
    intro c k
    cases k with
    | agg _ zs g1 g2 => exact .agg xs zs (by omega) (fun i a b => ih i a (by omega) (g2 i (by omega) b))
  | tuple xs xs' h1 _ ih =>
    intro c k
    cases k with
    | tuple _ zs g1 g2 => exact .tuple xs zs (by omega) (fun i a b => ih i a (by omega) (g2 i (by omega) b))
theorem NL.via {ρ : Nat → Option Nat} {σ : Sg} {a b : List Value} (h : NL ρ a b) : ∀ {c : List Value}, VL σ b c → VL (AM.via ρ σ) a c := by
  induction h with
  | nil => intro c k; cases k; exact .nil
  | cons h _ ih => intro c k; cases k with | cons k1 k2 => exact .cons (h.via k1) (ih k2)
theorem NL.length {ρ : Nat → Option Nat} {a b : List Value} (h : NL ρ a b) : a.length = b.length := by
  induction h with
  | nil => rfl
  | cons _ _ ih => simp [ih]
theorem NL.one {ρ : Nat → Option Nat} {a b : List Value} (h : NL ρ a b) (hb : ∀ v ∈ b, v.oneCell' = true) : ∀ v ∈ a, v.oneCell' = true := by
  induction h with
  | nil => simp
  | cons h _ ih =>
    intro v hv
    rcases List.mem_cons.1 hv with rfl | hv
    · have := hb _ (List.mem_cons_self ..)
      cases h <;> first | exact this | rfl
    · exact ih (fun v hv => hb v (List.mem_cons_of_mem _ hv)) v hv
inductive NE (ρ : Nat → Option Nat) : List MapEntry → List MapEntry → Prop
  | nil : NE ρ [] []
  | cons {e e' : MapEntry} {l l' : List MapEntry} (hk : e'.key = e.key) (hb : e'.born = e.born) (h : NV ρ e.val e'.val) (t : NE ρ l l') : NE ρ (e :: l) (e' :: l')
theorem NE.via {ρ : Nat → Option Nat} {σ : Sg} {a b : List MapEntry} (h : NE ρ a b) : ∀ {c : List MapEntry}, ML σ b c → ML (AM.via ρ σ) a c := by
  induction h with
  | nil => intro c k; cases k; exact .nil
  | cons hk hb h _ ih => intro c k; cases k with | cons k1 k2 k3 k4 => exact .cons (k1.trans hk) (k2.trans hb) (h.via k3) (ih k4)
def NO (ρ : Nat → Option Nat) (o o2 : Obj) : Prop := match o with
  | .map es k => ∃ es2, o2 = .map es2 k ∧ NE ρ es.toList es2.toList
  | o => o2 = o
theorem NO.via {ρ : Nat → Option Nat} {σ : Sg} {o o2 o' : Obj} (h : NO ρ o o2) (k : JR σ o2 o') : JR (AM.via ρ σ) o o' := by
  cases o with
  | map es c =>
    obtain ⟨es2, rfl, h2⟩ := h
    obtain ⟨es', rfl, k2⟩ := k
    exact ⟨es', rfl, h2.via k2⟩
  | _ => cases h; exact k
def AOr (ρ : Nat → Option Nat) (a b : AO) : Prop := match a with
  | .dead => True
  | .cells own room esz c e => ∃ own' c', b = .cells own' room esz c' e ∧ (own = true → own' = true) ∧ NL ρ c c'
  | .obj own o => ∃ own' o2, b = .obj own' o2 ∧ (own = true → own' = true) ∧ NO ρ o o2
  | .loop .. => False
theorem AOr.own {ρ : Nat → Option Nat} {a b : AO} (h : AOr ρ a b) (ha : a.own = true) : b.own = true := by
  cases a with
  | dead => cases ha
  | cells own room esz c e => obtain ⟨own', c', rfl, h1, _⟩ := h; exact h1 ha
  | obj own o => obtain ⟨own', o2, rfl, h1, _⟩ := h; exact h1 ha
  | loop own st pe L => exact h.elim
theorem AOr.live {ρ : Nat → Option Nat} {a b : AO} (h : AOr ρ a b) (ha : a.live = true) : b.live = true := by
  cases a with
  | dead => cases ha
  | cells own room esz c e => obtain ⟨own', c', rfl, h1, _⟩ := h; rfl
  | obj own o => obtain ⟨own', o2, rfl, h1, _⟩ := h; rfl
  | loop own st pe L => exact h.elim
theorem AOr.or {ρ : Nat → Option Nat} {a b : AO} (h : AOr ρ a b) {σ : Sg} {w : World} {i : BI} (k : OR σ w i b) : OR (AM.via ρ σ) w i a := by
  cases a with
  | dead => trivial
  | cells own room esz c e =>
    obtain ⟨own', c', rfl, h1, h2⟩ := h
    obtain ⟨a1, a2, a3, a4, a9, d, fr, a5, a6, a7, a8⟩ := k
    have hl := h2.length
    exact ⟨by rw [hl]; exact a1, a2, a3, by rw [hl]; exact a4, h2.one a9, d, fr, a5, a6, by rw [hl]; exact h2.via a7, fun ho => by rw [hl]; exact a8 (h1 ho)⟩
  | obj own o =>
    obtain ⟨own', o2, rfl, h1, h2⟩ := h
    obtain ⟨o', k1, k2, k3⟩ := k
    exact ⟨o', k1, h2.via k2, k3⟩
  | loop own st pe L => exact h.elim
variable {P : Program} {ng : Nat} {f : FuncId} {args : List Value} {H H' H'' : AHeap} {v v'' : Value}
def Stood (ng : Nat) (args : List Value) (H : AHeap) (v : Value) : Prop := ∀ (σ : Sg) (w : World) (args' : List Value), HR ng σ H.get w → VL σ args args' → ∃ x, VR σ v x
theorem ARun.gc (h : ARun P ng f args H v H') (ρ : Nat → Option Nat) (hn : H.n ≤ H''.n)
    (r0 : ∀ b, b < H.n → ρ b = some b) (r1 : ∀ b c, ρ b = some c → b < H''.n ∧ (H.n ≤ b → H.n ≤ c)) (ri : ∀ b1 b2 c, ρ b1 = some c → ρ b2 = some c → b1 = b2)
    (ro : ∀ b c o', ρ b = some c → H'.get c = some o' → (b = c ∧ b < H.n ∧ H.get b = some o' ∧ H''.get b = some o') ∨ ∃ o'', H''.get b = some o'' ∧ AOr ρ o'' o')
    (rv : (v'' = v ∧ Stood ng args H v) ∨ NV ρ v'' v) : ARun P ng f args H v'' H'' := by
  obtain ⟨h0, h1, h2⟩ := h
  refine ⟨h0, hn, fun σ w args' hr ha => ?_⟩
  refine (h2 σ w args' hr ha).mono ?_
  rintro e w' ⟨v', σ', rfl, k1, k2, k3⟩
  have old : ∀ b i, σ b = some i → b < H.n := fun b i hb => by
    obtain ⟨o, g, _⟩ := hr.obj b i hb
    exact AHeap.get_lt g
  have sub : σ.le (AM.via ρ σ') := fun b i hb => via_of (r0 b (old b i hb)) (k2.sub b i hb)
  have back : ∀ b i, b < H.n → σ' b = some i → σ b = some i := fun b i hb hs => by
    cases hsb : σ b with
    | none => have := (k2.new b i hsb hs).1.1; omega
    | some j => have := k2.sub b j hsb; rw [hs] at this; exact this.symm
  have meet_le : (meet σ' σ).le (AM.via ρ σ') := fun b i hb => by
    unfold meet at hb
    split at hb
    · rename_i hs
      obtain ⟨j, hj⟩ := Option.isSome_iff_exists.1 hs
      exact via_of (r0 b (old b j hj)) hb
    · cases hb
  have obj : ∀ b i, AM.via ρ σ' b = some i → ∃ c o'' o', ρ b = some c ∧ σ' c = some i ∧ H''.get b = some o'' ∧ H'.get c = some o' ∧ OR (AM.via ρ σ') w' i o'' ∧ (o''.own = true → o'.own = true) ∧ (o''.live = true → o'.live = true) := by
    intro b i hb
    obtain ⟨c, hc, hs⟩ := via_inv hb
    obtain ⟨o', g1, g2⟩ := k1.obj c i hs
    rcases ro b c o' hc g1 with ⟨rfl, hlt, e1, e2⟩ | ⟨o'', e1, e2⟩
    · refine ⟨b, o', o', hc, hs, e2, g1, ?_, fun x => x, fun x => x⟩
      have hsb := back b i hlt hs
      obtain ⟨o2, f1, f2⟩ := hr.obj b i hsb
      rw [e1] at f1; cases f1
      exact (g2.meet f2).mono meet_le
    · exact ⟨c, o'', o', hc, hs, e1, g1, e2.or g2, e2.own, e2.live⟩
  refine ⟨v', AM.via ρ σ', rfl, ⟨?_, ?_, ?_, ?_⟩, ⟨sub, ?_, ?_, ?_, k2.keep, k2.size, hn, k2.os, k2.tape, k2.output⟩, ?_⟩
  · intro b i hb
    obtain ⟨c, o'', o', _, _, e1, _, e2, _⟩ := obj b i hb
    exact ⟨o'', e1, e2⟩
  · intro b1 b2 i1 i2 o1 o2 hne hb1 hb2 ho1 ho2 hw hl
    obtain ⟨c1, p1, q1, a1, a2, a3, a4, _, a5, _⟩ := obj b1 i1 hb1
    obtain ⟨c2, p2, q2, d1, d2, d3, d4, _, _, d6⟩ := obj b2 i2 hb2
    rw [ho1] at a3; cases a3
    rw [ho2] at d3; cases d3
    exact k1.inj c1 c2 i1 i2 q1 q2 (fun hc => by subst hc; exact hne (ri b1 b2 c1 a1 d1)) a2 d2 a4 d4 (a5 hw) (d6 hl)
  · intro b i hb
    obtain ⟨c, _, hs⟩ := via_inv hb
    exact k1.lt c i hs
  · intro g hg
    obtain ⟨i, g1, g2, g3⟩ := hr.glob g hg
    exact ⟨i, sub g i g1, g2, g3⟩
  · intro b i hb hs
    obtain ⟨c, hc, hs'⟩ := via_inv hs
    by_cases hlt : b < H.n
    · have := r0 b hlt
      rw [hc] at this; cases this
      rw [back b i hlt hs'] at hb; cases hb
    · have hcn := (r1 b c hc).2 (by omega)
      have hsc : σ c = none := by
        cases hsc : σ c with
        | none => rfl
        | some j => have := old c j hsc; omega
      exact ⟨⟨by omega, (r1 b c hc).1⟩, (k2.new c i hsc hs').2⟩
  · intro b i o'' hb ho hw
    obtain ⟨c, p1, q1, a1, a2, a3, a4, _, a5, _⟩ := obj b i (sub b i hb)
    rw [r0 b (old b i hb)] at a1; cases a1
    rw [ho] at a3; cases a3
    exact k2.own b i q1 hb a4 (a5 hw)
  · intro b i o'' hb ho hw
    obtain ⟨c, p1, q1, a1, a2, a3, a4, _, _, a6⟩ := obj b i (sub b i hb)
    rw [r0 b (old b i hb)] at a1; cases a1
    rw [ho] at a3; cases a3
    exact k2.live b i q1 hb a4 (a6 hw)
  · rcases rv with ⟨rfl, hst⟩ | hrv
    · obtain ⟨x, hx⟩ := hst σ w args' hr ha
      exact (k3.meet hx).mono meet_le
    · exact hrv.via k3
theorem NV.plain {ρ : Nat → Option Nat} {v : Value} (h : plain1 v = true) : NV ρ v v := by
  unfold plain1 at h
  split at h <;> first | constructor | cases h
theorem NL.plain {ρ : Nat → Option Nat} : ∀ {l : List Value}, l.all plain1 = true → NL ρ l l
  | [], _ => .nil
  | v :: l, h => by
    simp only [List.all_cons, Bool.and_eq_true] at h
    exact .cons (NV.plain h.1) (NL.plain h.2)
theorem NL.get {ρ : Nat → Option Nat} {l l' : List Value} (h : NL ρ l l') : ∀ (i : Nat) (a : i < l.length) (b : i < l'.length), NV ρ l[i] l'[i] := by
  induction h with
  | nil => intro i a; simp at a
  | cons h _ ih =>
    intro i a b
    cases i with
    | zero => exact h
    | succ i => exact ih i (by simpa using a) (by simpa using b)
theorem NV.agg_of {ρ : Nat → Option Nat} {l l' : List Value} (h : NL ρ l l') : NV ρ (.agg l.toArray) (.agg l'.toArray) :=
  .agg _ _ (by simpa using h.length) (fun i a b => by simpa using h.get i (by simpa using a) (by simpa using b))
theorem NV.tuple_of {ρ : Nat → Option Nat} {l l' : List Value} (h : NL ρ l l') : NV ρ (.tuple l.toArray) (.tuple l'.toArray) :=
  .tuple _ _ (by simpa using h.length) (fun i a b => by simpa using h.get i (by simpa using a) (by simpa using b))
def rho (n : Nat) (bs : List Nat) : Nat → Option Nat := fun b => if b < n then some b else bs[b - n]?
theorem rho_old {n : Nat} {bs : List Nat} {b : Nat} (h : b < n) : rho n bs b = some b := by unfold rho; rw [if_pos h]
theorem ARun.gc0 (h : ARun P ng f args H v H') (k : Keeps H H') (hv : Stood ng args H v ∨ NV (rho H.n []) v v) : ARun P ng f args H v H := by
  refine h.gc (rho H.n []) (Nat.le_refl _) (fun b hb => rho_old hb) ?_ ?_ ?_ ?_
  · intro b c hb
    unfold rho at hb
    split at hb
    · cases hb; exact ⟨by assumption, by omega⟩
    · simp at hb
  · intro b1 b2 c h1 h2
    unfold rho at h1 h2
    split at h1 <;> split at h2 <;> simp_all
  · intro b c o' hb ho
    unfold rho at hb
    split at hb
    · rename_i hlt
      cases hb
      have := k.get b hlt
      rw [ho] at this
      exact .inl ⟨rfl, hlt, this.symm, this.symm⟩
    · simp at hb
  · rcases hv with hv | hv
    · exact .inl ⟨rfl, hv⟩
    · exact .inr hv
structure OB (e : Nat) (H K : AHeap) (v : Value) (l : List UInt8) : Prop where
  ap : AP K e 1 v l.length (cellsOf l)
  k : Keeps H K
  f : Fresh H.n v
theorem OB.bs {e : Nat} {H K : AHeap} {v : Value} {l : List UInt8} (h : OB e H K v l) : BS K v l := h.ap.bs
theorem OB.keeps {e : Nat} {H K K' : AHeap} {v : Value} {l : List UInt8} (h : OB e H K v l) (k : Keeps K K') : OB e H K' v l := ⟨h.ap.keeps k, h.k.trans k, h.f⟩
theorem OB.base {e : Nat} {H0 H K : AHeap} {v : Value} {l : List UInt8} (h : OB e H K v l) (k : Keeps H0 H) : OB e H0 K v l := ⟨h.ap, k.trans h.k, fun b hb => Nat.le_trans k.n (h.f b hb)⟩
theorem OB.nil (e : Nat) (H : AHeap) : OB e H H (.slice none 0 0) [] := ⟨.inl ⟨rfl, rfl, rfl⟩, Keeps.refl _, fun b hb => by cases hb⟩
theorem OB.one {e : Nat} {H K : AHeap} {v : Value} {l : List UInt8} (h : OB e H K v l) : v.oneCell' = true := by obtain ⟨a, rfl⟩ := h.ap.shape; rfl
theorem OB.is {e : Nat} {H K : AHeap} {v : Value} {l : List UInt8} (h : OB e H K v l) : isS v = true := by obtain ⟨a, rfl⟩ := h.ap.shape; rfl
theorem OB.len {e : Nat} {H K : AHeap} {v : Value} {l : List UInt8} (h : OB e H K v l) : lenS v = l.length := by obtain ⟨a, rfl⟩ := h.ap.shape; rfl
section
variable {KF : List Value → AHeap → Prop} {fr tm : List Value} {tr : List TE} {K : AHeap}
end
end Go.AM

set_option linter.unusedSimpArgs false
set_option linter.unusedVariables false
namespace Go.AM
def AO.unown : AO → AO
  | .dead => .dead
  | .cells _ room esz c e => .cells false room esz c e
  | .obj _ o => .obj false o
  | .loop _ st pe L => .loop false st pe L
def AHeap.unown (H : AHeap) : AHeap := ⟨H.n, H.l.map AO.unown⟩
theorem AHeap.unown_n (H : AHeap) : H.unown.n = H.n := _root_.id rfl
theorem AHeap.unown_get (H : AHeap) (b : Nat) : H.unown.get b = (H.get b).map AO.unown := by
  unfold AHeap.get AHeap.unown
  split <;> simp
theorem AO.unown_own (o : AO) : o.unown.own = false := by cases o <;> rfl
theorem AHeap.unown_no (H : AHeap) : NoOwn H.unown := fun b o h => by
  rw [AHeap.unown_get] at h
  cases hb : H.get b with
  | none => rw [hb] at h; cases h
  | some x => rw [hb] at h; cases h; exact AO.unown_own x
theorem OR.unown {σ : Sg} {w : World} {i : BI} {o : AO} (h : OR σ w i o) : OR σ w i o.unown := by
  cases o with
  | dead => trivial
  | cells own room esz c e =>
    obtain ⟨a1, a2, a3, a4, a5, c', fr, a6, a7, a8, a9⟩ := h
    exact ⟨a1, a2, a3, a4, a5, c', fr, a6, a7, a8, fun h => by cases h⟩
  | obj own o => exact h
  | loop own st pe L => exact h
theorem HR.unown {ng : Nat} {σ : Sg} {H : AHeap} {w : World} (h : HR ng σ H.get w) : HR ng σ H.unown.get w := by
  refine ⟨fun b i hb => ?_, fun b1 b2 i1 i2 o1 o2 _ _ _ g1 _ hw => ?_, h.lt, h.glob⟩
  · obtain ⟨o, h1, h2⟩ := h.obj b i hb
    exact ⟨o.unown, by rw [AHeap.unown_get, h1]; rfl, h2.unown⟩
  · rw [H.unown_no b1 o1 g1] at hw; cases hw
def over (H H' : AHeap) : AHeap := ⟨H'.n, (List.range (H'.n - H.n)).map (fun i => (H'.l[i]?).getD .dead) ++ H.l⟩
theorem over_old {H H' : AHeap} (hn : H.n ≤ H'.n) {b : Nat} (hb : b < H.n) : (over H H').get b = H.get b := by
  unfold AHeap.get over
  simp only
  rw [if_pos (by omega), if_pos hb, List.getElem?_append_right (by simp; omega)]
  simp only [List.length_map, List.length_range]
  rw [show H'.n - 1 - b - (H'.n - H.n) = H.n - 1 - b by omega]
theorem over_new {H H' : AHeap} {b : Nat} (hb : H.n ≤ b) (hb2 : b < H'.n) {o : AO} (h : H'.get b = some o) : (over H H').get b = some o := by
  unfold AHeap.get over at *
  simp only
  rw [if_pos hb2] at h ⊢
  rw [List.getElem?_append_left (by simp; omega)]
  simp only [List.getElem?_map]
  rw [List.getElem?_range (by omega)]
  simp [h]
theorem over_keeps {H H' : AHeap} (hn : H.n ≤ H'.n) : Keeps H (over H H') := ⟨hn, fun b hb => over_old hn hb⟩
variable {P : Program} {ng : Nat} {f : FuncId} {args : List Value} {H H' : AHeap} {v : Value}
theorem ARun.over (h : ARun P ng f args H.unown v H') : ARun P ng f args H v (AM.over H H') ∧ Keeps H (AM.over H H') := by
  obtain ⟨h0, h1, h2⟩ := h
  rw [AHeap.unown_n] at h1
  refine ⟨⟨h0, h1, fun σ w args' hr ha => ?_⟩, over_keeps h1⟩
  refine (h2 σ w args' hr.unown ha).mono ?_
  rintro e w' ⟨v', σ', rfl, k1, k2, k3⟩
  have hk : ∀ k, k < w.heap.size → w'.heap[k]? = w.heap[k]? := fun k hk => k2.keep k hk (fun b i o hb ho hw => by rw [H.unown_no b o ho] at hw; cases hw)
  have old : ∀ b i, σ b = some i → b < H.n := fun b i hb => by
    obtain ⟨o, g, _⟩ := hr.obj b i hb
    exact AHeap.get_lt g
  have back : ∀ b i, b < H.n → σ' b = some i → σ b = some i := fun b i hb hs => by
    cases hsb : σ b with
    | none =>
      have := (k2.new b i hsb hs).1.1
      rw [AHeap.unown_n] at this; omega
    | some j => have := k2.sub b j hsb; rw [hs] at this; exact this.symm
  have fresh : ∀ b i, H.n ≤ b → σ' b = some i → w.heap.size ≤ i.c := fun b i hb hs => by
    have hsb : σ b = none := by
      cases hsb : σ b with
      | none => rfl
      | some j => have := old b j hsb; omega
    rcases (k2.new b i hsb hs).2 with h | ⟨b0, i0, o0, _, e2, e3, _⟩
    · exact h
    · rw [H.unown_no b0 o0 e2] at e3; cases e3
  have obj : ∀ b i, σ' b = some i → (b < H.n ∧ σ b = some i ∧ i.c < w.heap.size) ∨ (H.n ≤ b ∧ w.heap.size ≤ i.c ∧ ∃ o, H'.get b = some o ∧ (AM.over H H').get b = some o ∧ OR σ' w' i o) := fun b i hs => by
    by_cases hb : b < H.n
    · have := back b i hb hs
      exact .inl ⟨hb, this, hr.lt b i this⟩
    · obtain ⟨o, g1, g2⟩ := k1.obj b i hs
      exact .inr ⟨by omega, fresh b i (by omega) hs, o, g1, over_new (by omega) (AHeap.get_lt g1) g1, g2⟩
  refine ⟨v', σ', rfl, ⟨?_, ?_, k1.lt, k1.glob⟩, ⟨k2.sub, ?_, ?_, ?_, ?_, k2.size, h1, k2.os, k2.tape, k2.output⟩, k3⟩
  · intro b i hs
    rcases obj b i hs with ⟨hb, hs0, _⟩ | ⟨_, _, o, _, g2, g3⟩
    · obtain ⟨o, g1, g2⟩ := hr.obj b i hs0
      exact ⟨o, by rw [over_old h1 hb]; exact g1, (g2.congr (fun _ => hk _ (hr.lt b i hs0))).mono k2.sub⟩
    · exact ⟨o, g2, g3⟩
  · intro b1 b2 i1 i2 o1 o2 hne s1 s2 g1 g2 hw hl
    rcases obj b1 i1 s1 with ⟨hb1, t1, l1⟩ | ⟨hb1, l1, p1, q1, q2, q3⟩
    · rcases obj b2 i2 s2 with ⟨hb2, t2, l2⟩ | ⟨hb2, l2, p2, r1, r2, r3⟩
      · rw [over_old h1 hb1] at g1
        rw [over_old h1 hb2] at g2
        exact hr.inj b1 b2 i1 i2 o1 o2 hne t1 t2 g1 g2 hw hl
      · omega
    · rcases obj b2 i2 s2 with ⟨hb2, t2, l2⟩ | ⟨hb2, l2, p2, r1, r2, r3⟩
      · omega
      · rw [q2] at g1; cases g1
        rw [r2] at g2; cases g2
        exact k1.inj b1 b2 i1 i2 _ _ hne s1 s2 q1 r1 hw hl
  · intro b i hb hs
    have := k2.new b i hb hs
    rw [AHeap.unown_n] at this
    rcases obj b i hs with ⟨_, hs0, _⟩ | ⟨_, l, _⟩
    · rw [hb] at hs0; cases hs0
    · exact ⟨this.1, .inl l⟩
  · intro b i o' hb ho hw
    obtain ⟨o, g1, _⟩ := hr.obj b i hb
    rw [over_old h1 (old b i hb), g1] at ho
    cases ho
    exact ⟨_, g1, hw⟩
  · intro b i o' hb ho hw
    obtain ⟨o, g1, _⟩ := hr.obj b i hb
    rw [over_old h1 (old b i hb), g1] at ho
    cases ho
    exact ⟨_, g1, hw⟩
  · intro k hlt _
    exact hk k hlt
theorem ARun.pure (h : ARun P ng f args H.unown v H') (hv : plain1 v = true) : ARun P ng f args H v H := by
  obtain ⟨h1, h2⟩ := h.over
  exact h1.gc0 h2 (.inr (NV.plain hv))
end Go.AM

set_option linter.unusedSimpArgs false
set_option linter.unusedVariables false
namespace Go.AM
namespace Hk
abbrev HF := List Value → Nat → HT → CK → Bool
def HFok (P : Program) (ng k : Nat) (h : HF) : Prop := ∀ xs n t K, h xs n t K = true → ∀ H, Rp n t H → ∃ v H', ARun P ng k xs H v H' ∧ KP K v H'
def EFok (P : Program) (ng k : Nat) (f : EF) : Prop := ∃ af, compF P ng f.sl k = some af ∧ af.sl = f.sl ∧ af.res = f.res ∧ (af.body = f.body ∨ simpC af.body = f.body) ∧ argsOK P k f.na = true
inductive FT
  | leaf
  | node (k : Nat) (f : EF) (l r : FT)
  | hook (k : Nat) (h : HF) (l r : FT)
noncomputable def FT.find (T : FT) (k : Nat) (K : EF → Bool) (KH : HF → Bool) : Bool :=
  FT.rec (motive := fun _ => Bool) false (fun k' f _ _ l r => Bool.rec (motive := fun _ => Bool) (Bool.rec (motive := fun _ => Bool) r l (Nat.ble k k')) (K f) (Nat.beq k k'))
    (fun k' h _ _ l r => Bool.rec (motive := fun _ => Bool) (Bool.rec (motive := fun _ => Bool) r l (Nat.ble k k')) (KH h) (Nat.beq k k')) T
def FT.ok (P : Program) (ng : Nat) : FT → Prop
  | .leaf => True
  | .node k f l r => EFok P ng k f ∧ l.ok P ng ∧ r.ok P ng
  | .hook k h l r => HFok P ng k h ∧ l.ok P ng ∧ r.ok P ng
theorem FT.find_true {P : Program} {ng : Nat} {k : Nat} {K : EF → Bool} {KH : HF → Bool} : ∀ {T : FT}, T.ok P ng → T.find k K KH = true → (∃ f, EFok P ng k f ∧ K f = true) ∨ ∃ h, HFok P ng k h ∧ KH h = true
  | .leaf, _, h => by cases h
  | .node k' f l r, hT, h => by
    have e : (FT.node k' f l r).find k K KH = Bool.rec (motive := fun _ => Bool) (Bool.rec (motive := fun _ => Bool) (r.find k K KH) (l.find k K KH) (Nat.ble k k')) (K f) (Nat.beq k k') := rfl
    rw [e] at h
    cases e1 : Nat.beq k k'
    · rw [e1] at h
      cases e2 : Nat.ble k k'
      · rw [e2] at h; exact FT.find_true hT.2.2 h
      · rw [e2] at h; exact FT.find_true hT.2.1 h
    · rw [e1] at h
      have := Nat.eq_of_beq_eq_true e1
      subst this
      exact .inl ⟨f, hT.1, h⟩
  | .hook k' f l r, hT, h => by
    have e : (FT.hook k' f l r).find k K KH = Bool.rec (motive := fun _ => Bool) (Bool.rec (motive := fun _ => Bool) (r.find k K KH) (l.find k K KH) (Nat.ble k k')) (KH f) (Nat.beq k k') := rfl
    rw [e] at h
    cases e1 : Nat.beq k k'
    · rw [e1] at h
      cases e2 : Nat.ble k k'
      · rw [e2] at h; exact FT.find_true hT.2.2 h
      · rw [e2] at h; exact FT.find_true hT.2.1 h
    · rw [e1] at h
      have := Nat.eq_of_beq_eq_true e1
      subst this
      exact .inr ⟨f, hT.1, h⟩
noncomputable def callE (T : FT) (rec : ACode → List Value → Nat → HT → EK → Bool) : Caller := fun f xs n t K => T.find f (fun ef => asT (Nat.beq xs.length ef.na) (initK ef.sl xs fun fr => rec ef.body fr n t fun e fr n t => match e with
  | .normal => resK ef.res fr t fun v => K v n t
  | .ret => resK ef.res fr t fun v => K v n t
  | _ => false)) (fun h => h xs n t K)
noncomputable def runS (T : FT) (rec : ACode → List Value → Nat → HT → EK → Bool) (c : ACode) : List Value → Nat → HT → EK → Bool :=
  ACode.rec (motive := fun _ => List Value → Nat → HT → EK → Bool)
    (fun fr n t K => K .normal fr n t)
    (fun ops fr n t K => runOps (callE T rec) ops fr [] n t fun fr n t => K .normal fr n t)
    (fun ops fr n t K => runD (callE T rec) ops fr [] n t [] fun fr n t => K .normal fr n t)
    (fun _ _ iha ihb fr n t K => iha fr n t (seqK ihb K))
    (fun c _ _ iht ihe fr n t K => evX c fr [] fun v => condK v (iht fr n t K) (ihe fr n t K))
    (fun id _ ih fr n t K => ih fr n t (blockK id K))
    (fun c ih fr n t K => ih fr n t (seqK (rec (.loop c)) K))
    (fun id fr n t K => K (.exit id) fr n t)
    (fun fr n t K => K .ret fr n t)
    (fun _ _ _ _ _ _ _ _ _ _ => false) c
noncomputable def run (T : FT) (fuel : Nat) : ACode → List Value → Nat → HT → EK → Bool :=
  Nat.rec (motive := fun _ => ACode → List Value → Nat → HT → EK → Bool) (fun _ _ _ _ _ => false) (fun _ ih => runS T ih) fuel
theorem callE_ok {P : Program} {ng : Nat} {T : FT} (hT : T.ok P ng) {rec : ACode → List Value → Nat → HT → EK → Bool} (hr : ∀ c fr n t K, rec c fr n t K = true → ∀ H, Rp n t H → W P ng c (QP K) fr H) : CallOK P ng (callE T rec) := by
  intro f xs n t K h H r
  rcases FT.find_true hT h with ⟨ef, ⟨af, h1, h2, h3, h4, h5⟩, h6⟩ | ⟨hf, h1, h2⟩
  case inr => exact h1 xs n t K h2 H r
  obtain ⟨h7, h8⟩ := asT_true h6
  have hlen := Nat.eq_of_beq_eq_true h7
  rw [initK_eq] at h8
  have hw := hr _ _ _ _ _ h8 H r
  have hw2 : W P ng af.body (QP fun e fr n t => match e with
    | .normal => resK ef.res fr t fun v => K v n t
    | .ret => resK ef.res fr t fun v => K v n t
    | _ => false) (initFr ef.sl xs) H := by
    rcases h4 with h4 | h4
    · rw [h4]; exact hw
    · rw [← h4] at hw; exact W_simp af.body hw
  refine walk h1 (by rw [hlen]; exact h5) ?_
  rw [h2]
  refine W_mono ?_ hw2
  rintro e fr H' ⟨n', t', r', h'⟩
  cases e with
  | normal => obtain ⟨v, h9, h10⟩ := resK_true r' h'; rw [h3]; exact ⟨v, h9, n', t', r', h10⟩
  | ret => obtain ⟨v, h9, h10⟩ := resK_true r' h'; rw [h3]; exact ⟨v, h9, n', t', r', h10⟩
  | exit id => cases h'
  | goto l => cases h'
  | panic ch => cases h'
  | outgrown => cases h'
theorem runS_sound {P : Program} {ng : Nat} {T : FT} (hT : T.ok P ng) {rec : ACode → List Value → Nat → HT → EK → Bool} (hr : ∀ c fr n t K, rec c fr n t K = true → ∀ H, Rp n t H → W P ng c (QP K) fr H) :
    ∀ c fr n t K, runS T rec c fr n t K = true → ∀ H, Rp n t H → W P ng c (QP K) fr H := by
  have hcall := callE_ok hT hr
  intro c
  induction c with
  | skip => intro fr n t K h H r; exact ⟨n, t, r, h⟩
  | reg ops => intro fr n t K h H r; exact runOps_sound hcall (K := fun fr n t => K .normal fr n t) h r
  | dreg ops => intro fr n t K h H r; exact runD_sound hcall (K := fun fr n t => K .normal fr n t) h .nil r
  | seq a b iha ihb =>
    intro fr n t K h H r
    show W P ng a (AQ.andThen (QP K) (W P ng b (QP K))) fr H
    exact W_mono (QP_seq (fun fr n t h H r => ihb fr n t K h H r)) (iha fr n t _ h H r)
  | cond c a b iha ihb =>
    intro fr n t K h H r
    have e : runS T rec (.cond c a b) fr n t K = evX c fr [] fun v => condK v (runS T rec a fr n t K) (runS T rec b fr n t K) := rfl
    rw [e, evX_eq] at h
    simp only [W]
    unfold condK at h
    split at h
    · rename_i tt ht
      rw [ht]
      cases tt
      · exact ihb fr n t K h H r
      · exact iha fr n t K h H r
    · cases h
  | block id c ih =>
    intro fr n t K h H r
    show W P ng c (AQ.inBlock (QP K) id) fr H
    refine W_mono ?_ (ih fr n t _ h H r)
    rintro e fr' H' ⟨n', t', r', h'⟩
    cases e with
    | exit id' =>
      simp only [blockK] at h'
      simp only [AQ.inBlock]
      cases e : Nat.beq id' id
      · rw [e] at h'
        rw [if_neg (fun hh => by subst hh; rw [Nat.beq_refl] at e; cases e)]
        exact ⟨n', t', r', h'⟩
      · rw [e] at h'
        rw [if_pos (Nat.eq_of_beq_eq_true e)]
        exact ⟨n', t', r', h'⟩
    | normal => exact ⟨n', t', r', h'⟩
    | ret => exact ⟨n', t', r', h'⟩
    | goto l => exact ⟨n', t', r', h'⟩
    | panic ch => exact ⟨n', t', r', h'⟩
    | outgrown => exact ⟨n', t', r', h'⟩
  | loop c ih =>
    intro fr n t K h H r
    exact W_again (W_mono (QP_seq (c := .loop c) (fun fr n t h H r => hr (.loop c) fr n t K h H r)) (ih fr n t _ h H r))
  | exit id => intro fr n t K h H r; exact ⟨n, t, r, h⟩
  | ret => intro fr n t K h H r; exact ⟨n, t, r, h⟩
  | rangeF g N sl ps a b => intro fr n t K h H r; cases h
theorem run_sound {P : Program} {ng : Nat} {T : FT} (hT : T.ok P ng) : ∀ (fuel : Nat) (c : ACode) (fr : List Value) (n : Nat) (t : HT) (K : EK), run T fuel c fr n t K = true → ∀ H, Rp n t H → W P ng c (QP K) fr H
  | 0, c, fr, n, t, K, h => by cases h
  | m + 1, c, fr, n, t, K, h => runS_sound hT (rec := run T m) (run_sound hT m) c fr n t K h
noncomputable def runF (T : FT) (fuel : Nat) (f : FuncId) (xs : List Value) (n : Nat) (t : HT) (K : CK) : Bool := callE T (run T fuel) f xs n t K
theorem runF_sound {P : Program} {ng : Nat} {T : FT} (hT : T.ok P ng) {fuel : Nat} {f : FuncId} {xs : List Value} {n : Nat} {t : HT} {K : CK} (h : runF T fuel f xs n t K = true) {H : AHeap} (r : Rp n t H) : ∃ v H', ARun P ng f xs H v H' ∧ KP K v H' :=
  callE_ok hT (run_sound hT fuel) f xs n t K h H r
theorem closed_any {P : Program} {T : FT} (hT : T.ok P 0) {fuel : Nat} {f : FuncId} (h : runF T fuel f [] 0 .leaf isTrue = true) (H : AHeap) : ARun P 0 f [] H (.bool true) H := by
  obtain ⟨v, H', ⟨h0, _, h1⟩, h2⟩ := runF_sound hT h Rp.empty
  have hv := isTrue_spec h2
  subst hv
  refine ⟨h0, Nat.le_refl _, fun σ w args' hr ha => ?_⟩
  cases ha
  refine (h1 (fun _ => none) w [] (HR.empty w) .nil).mono ?_
  rintro e w' ⟨v', σ', rfl, k1, k2, k3⟩
  have hk : ∀ k, k < w.heap.size → w'.heap[k]? = w.heap[k]? := fun k hk => k2.keep k hk (fun b i o hb => by cases hb)
  have hsz := k2.size
  refine ⟨v', σ, rfl, ⟨fun b i hb => ?_, hr.inj, fun b i hb => Nat.lt_of_lt_of_le (hr.lt b i hb) hsz, hr.glob⟩, ⟨Sg.le.refl σ, (fun b i h1 h2 => by rw [h1] at h2; cases h2), fun _ _ o' _ a b => ⟨o', a, b⟩, fun _ _ o' _ a b => ⟨o', a, b⟩, fun k a _ => hk k a, hsz, Nat.le_refl _, k2.os, k2.tape, k2.output⟩, ?_⟩
  · obtain ⟨o, a1, a2⟩ := hr.obj b i hb
    exact ⟨o, a1, a2.congr (fun _ => hk _ (hr.lt b i hb))⟩
  · rw [k3.bool_inv]; exact .bool _
theorem HFok.of {P : Program} {ng k : Nat} {h : HF} (hk : ∀ xs n t K, h xs n t K = true → ∀ H, Rp n t H → ∃ v, ARun P ng k xs H v H ∧ K v n t = true) : HFok P ng k h := fun xs n t K h1 H r => by
  obtain ⟨v, h2, h3⟩ := hk xs n t K h1 H r
  exact ⟨v, H, h2, n, t, r, h3⟩
noncomputable def byK (c : List Value) : (List UInt8 → Bool) → Bool :=
  List.rec (motive := fun _ => (List UInt8 → Bool) → Bool) (fun K => K []) (fun x _ ih K => match x with
    | .int .u8 (.ofNat n) => forceB (Nat.ble n 255) fun b => Bool.rec (motive := fun _ => Bool) false (ih fun l => K (UInt8.ofNat n :: l)) b
    | _ => false) c
theorem byK_cons (x : Value) (c : List Value) (K : List UInt8 → Bool) : byK (x :: c) K = match x with
      | .int .u8 (.ofNat n) => forceB (Nat.ble n 255) fun b => Bool.rec (motive := fun _ => Bool) false (byK c fun l => K (UInt8.ofNat n :: l)) b
      | _ => false := rfl
theorem byK_true : ∀ {c : List Value} {K : List UInt8 → Bool}, byK c K = true → ∃ l, c = cellsOf l ∧ K l = true
  | [], K, h => ⟨[], rfl, h⟩
  | x :: c, K, h => by
    rw [byK_cons] at h
    split at h
    · rename_i n
      rw [forceB_eq] at h
      cases e : Nat.ble n 255
      · rw [e] at h; cases h
      · rw [e] at h
        have hn := Nat.le_of_ble_eq_true e
        obtain ⟨l, rfl, h2⟩ := byK_true h
        exact ⟨UInt8.ofNat n :: l, by simp [cellsOf]; omega, h2⟩
    · cases h
noncomputable def dropK (l : List Value) : Nat → (List Value → Bool) → Bool :=
  List.rec (motive := fun _ => Nat → (List Value → Bool) → Bool) (fun _ K => K []) (fun x r ih n K => Nat.rec (motive := fun _ => Bool) (K (x :: r)) (fun m _ => ih m K) n) l
theorem dropK_eq : ∀ (l : List Value) (n : Nat) (K : List Value → Bool), dropK l n K = K (l.drop n)
  | [], n, K => by simp [dropK]
  | x :: l, 0, K => rfl
  | x :: l, n + 1, K => (dropK_eq l n K).trans (by simp)
noncomputable def takeK (l : List Value) : Nat → (List Value → Bool) → Bool :=
  List.rec (motive := fun _ => Nat → (List Value → Bool) → Bool) (fun _ K => K []) (fun x _ ih n K => Nat.rec (motive := fun _ => Bool) (K []) (fun m _ => ih m fun r => K (x :: r)) n) l
theorem takeK_eq : ∀ (l : List Value) (n : Nat) (K : List Value → Bool), takeK l n K = K (l.take n)
  | [], n, K => by simp [takeK]
  | x :: l, 0, K => rfl
  | x :: l, n + 1, K => (takeK_eq l n _).trans (by simp)
noncomputable def bqK (v : Value) (t : HT) (K : List UInt8 → Bool) : Bool := match v with
  | .slice none n k => asT (Nat.beq n 0) (asT (Nat.beq k 0) (K []))
  | .slice (some ⟨b, o, none⟩) n k => t.getK b fun x => match x with
    | .cells own room esz c e => asT (Nat.beq esz 1) (asT (Nat.ble n k) (asT (Nat.ble (Nat.add o n) c.length) (dropK c o fun c => takeK c n fun c => byK c K)))
    | _ => false
  | _ => false
theorem bqK_true {n : Nat} {t : HT} {H : AHeap} (r : Rp n t H) {v : Value} {K : List UInt8 → Bool} (h : bqK v t K = true) : ∃ l, BQ H v l ∧ K l = true := by
  unfold bqK at h
  split at h
  · obtain ⟨h1, h2⟩ := asT_true h
    obtain ⟨h3, h4⟩ := asT_true h2
    have := Nat.eq_of_beq_eq_true h1
    have := Nat.eq_of_beq_eq_true h3
    subst_vars
    exact ⟨[], .inl ⟨rfl, rfl⟩, h4⟩
  · rename_i b o n k
    obtain ⟨ob, h1, h2⟩ := r.getK h
    split at h2
    · rename_i own room esz c e
      obtain ⟨h3, h4⟩ := asT_true h2
      obtain ⟨h5, h6⟩ := asT_true h4
      obtain ⟨h7, h8⟩ := asT_true h6
      rw [dropK_eq, takeK_eq] at h8
      obtain ⟨l, h9, h10⟩ := byK_true h8
      have h3 := Nat.eq_of_beq_eq_true h3
      have h5 := Nat.le_of_ble_eq_true h5
      have h7 : o + n ≤ c.length := Nat.le_of_ble_eq_true h7
      have hl : l.length = n := by
        have := congrArg List.length h9
        rw [cellsOf_length, List.length_take, List.length_drop] at this; omega
      subst hl
      exact ⟨l, .inr (.inr ⟨b, o, k, own, room, esz, c, e, rfl, h5, h1, .inl h3, h9, h7⟩), h10⟩
    · cases h2
  · cases h
end Hk
theorem BQ.unown {H : AHeap} {v : Value} {l : List UInt8} (h : BQ H v l) : BQ H.unown v l := by
  rcases h with h | h | ⟨b, o, k, own, room, esz, c, e, rfl, h1, h2, h3, h4, h5⟩
  · exact .inl h
  · exact .inr (.inl h)
  · exact .inr (.inr ⟨b, o, k, false, room, esz, c, e, rfl, h1, by rw [AHeap.unown_get, h2]; rfl, h3, h4, h5⟩)
theorem elems_unown (H : AHeap) (esz : Nat) (v : Value) : elemsA H.unown esz v = elemsA H esz v := by
  unfold elemsA
  split
  · rfl
  · rename_i b o n k
    rw [AHeap.unown_get]
    cases H.get b with
    | none => rfl
    | some o => cases o <;> rfl
  · rfl
  · rfl
theorem BS.unown {H : AHeap} {v : Value} {l : List UInt8} (h : BS H v l) : BS H.unown v l := ⟨h.sh, by rw [elems_unown]; exact h.el⟩
theorem Sl.unown {H : AHeap} {esz : Nat} {v : Value} {rows : List (List Value)} (h : Sl H esz v rows) : Sl H.unown esz v rows := ⟨h.sh, h.row, by rw [elems_unown]; exact h.el⟩
end Go.AM

set_option linter.unusedSimpArgs false
set_option linter.unusedVariables false
namespace Go.AM
inductive CKd
  | int (k : IntKind)
  | bool
  | str
  | sl (t : TypeId)
def fits (P : Program) (G : Gf) : CKd → Value → Prop
  | .int k, v => ∃ n, v = .int k n ∧ (Lit.int k n).wf = true
  | .bool, v => ∃ b, v = .bool b
  | .str, v => ∃ s, v = .string s ∧ s.size ≤ maxLen ∧ s.size ≤ reachBytes
  | .sl t, v => AR P G t [v]
def fitsL (P : Program) (G : Gf) : List CKd → List Value → Prop
  | [], [] => True
  | k :: ks, v :: vs => fits P G k v ∧ fitsL P G ks vs
  | _, _ => False
section
variable {P : Program} {G : Gf}
theorem fitsL.len : ∀ {ks : List CKd} {cs : List Value}, fitsL P G ks cs → cs.length = ks.length
  | [], [], _ => rfl
  | _ :: ks, _ :: cs, h => by simp [fitsL.len h.2]
theorem fitsL.inv {k : CKd} {ks : List CKd} {cs : List Value} (h : fitsL P G (k :: ks) cs) : ∃ v vs, cs = v :: vs ∧ fits P G k v ∧ fitsL P G ks vs := by
  cases cs with
  | nil => exact h.elim
  | cons v vs => exact ⟨v, vs, rfl, h.1, h.2⟩
theorem fitsL.app : ∀ {a b : List CKd} {c d : List Value}, fitsL P G a c → fitsL P G b d → fitsL P G (a ++ b) (c ++ d)
  | [], _, [], _, _, h => h
  | _ :: _, _, _ :: _, _, h, k => ⟨h.1, fitsL.app h.2 k⟩
theorem fitsL.split : ∀ {a b : List CKd} {cs : List Value}, fitsL P G (a ++ b) cs → fitsL P G a (cs.take a.length) ∧ fitsL P G b (cs.drop a.length)
  | [], b, cs, h => ⟨by simp [fitsL], by simpa using h⟩
  | k :: a, b, v :: cs, h => by
    have := fitsL.split (a := a) (b := b) (cs := cs) h.2
    exact ⟨⟨h.1, this.1⟩, this.2⟩
theorem fitsL.mono {G' : Gf} (hg : ∀ b o, G b = some o → G' b = some o) : ∀ {ks : List CKd} {cs : List Value}, fitsL P G ks cs → fitsL P G' ks cs
  | [], [], _ => trivial
  | .int _ :: _, _ :: _, h => ⟨h.1, h.2.mono hg⟩
  | .bool :: _, _ :: _, h => ⟨h.1, h.2.mono hg⟩
  | .str :: _, _ :: _, h => ⟨h.1, h.2.mono hg⟩
  | .sl t :: _, v :: _, h => ⟨AR.mono hg (show AR P G t [v] from h.1), h.2.mono hg⟩
theorem fitsL.u8 : ∀ {n : Nat} {cs : List Value}, fitsL P G (List.replicate n (.int .u8)) cs → ∃ l : List UInt8, l.length = n ∧ cs = cellsOf l
  | 0, [], _ => ⟨[], rfl, rfl⟩
  | n + 1, v :: cs, h => by
    obtain ⟨⟨m, rfl, hw⟩, h2⟩ := h
    obtain ⟨l, h3, rfl⟩ := fitsL.u8 h2
    simp only [Lit.wf, Bool.and_eq_true, decide_eq_true_eq, IntKind.min, IntKind.max, IntKind.signed, IntKind.bits] at hw
    obtain ⟨m, rfl⟩ : ∃ k : Nat, m = k := ⟨m.toNat, by simp at hw; omega⟩
    have hm : m % 256 = m := by simp at hw; omega
    exact ⟨UInt8.ofNat m :: l, by simp [h3], by simp [cellsOf, hm]⟩
end
end Go.AM

set_option linter.unusedSimpArgs false
set_option linter.unusedVariables false
namespace Go.AM
namespace Ev
structure RDef where
  N : Nat
  sl : List Nat
  ps : Array Tmp
  assign : Code
  body : Code
  aa : ACode
  ab : ACode
def decL (RT : List RDef) (L : LRec) : LRec := match RT[L.N]? with
  | some d => ⟨d.N, d.sl, L.fr, d.ps, d.assign, d.body⟩
  | none => L
def dec (RT : List RDef) : AO → AO
  | .loop own st pe L => .loop own st pe (decL RT L)
  | o => o
structure Rp (RT : List RDef) (n : Nat) (t : HT) (H : AHeap) : Prop where
  n : H.n = n
  get : ∀ b, H.get b = (t.look b).map (dec RT)
variable {RT : List RDef}
theorem Rp.getd {n : Nat} {t : HT} {H : AHeap} (r : Rp RT n t H) {b : Nat} {K : AO → Bool} (h : t.getK b K = true) : ∃ o, H.get b = some (dec RT o) ∧ K o = true := by
  rw [HT.getK_spec] at h
  rw [r.get]
  cases e : t.look b with
  | none => rw [e] at h; cases h
  | some o => rw [e] at h; exact ⟨o, rfl, h⟩
theorem Rp.getK {n : Nat} {t : HT} {H : AHeap} (r : Rp RT n t H) {b : Nat} {K : AO → Bool} (h : t.getK b K = true) (hK : ∀ own st pe L, K (.loop own st pe L) = false := by intros; rfl) : ∃ o, H.get b = some o ∧ K o = true := by
  obtain ⟨o, h1, h2⟩ := r.getd h
  cases o with
  | loop own st pe L => rw [hK] at h2; cases h2
  | dead => exact ⟨_, h1, h2⟩
  | cells => exact ⟨_, h1, h2⟩
  | obj => exact ⟨_, h1, h2⟩
theorem Rp.allocd {n : Nat} {t : HT} {H : AHeap} (r : Rp RT n t H) {o : AO} {K : HT → Bool} (h : t.setK n o K = true) : ∃ t', K t' = true ∧ Rp RT (n + 1) t' (H.alloc (dec RT o)) := by
  obtain ⟨t', h1, h2⟩ := HT.setK_spec t n o K h
  refine ⟨t', h1, by rw [alloc_n, r.n], fun b => ?_⟩
  rw [alloc_get, h2, r.n, r.get]
  split <;> rfl
theorem Rp.alloc {n : Nat} {t : HT} {H : AHeap} (r : Rp RT n t H) {o : AO} {K : HT → Bool} (h : t.setK n o K = true) (ho : dec RT o = o := by rfl) : ∃ t', K t' = true ∧ Rp RT (n + 1) t' (H.alloc o) := by
  obtain ⟨t', h1, h2⟩ := r.allocd h
  rw [ho] at h2; exact ⟨t', h1, h2⟩
theorem Rp.setd {n : Nat} {t : HT} {H : AHeap} (r : Rp RT n t H) {b : Nat} {o : AO} {K : HT → Bool} (hb : (H.get b).isSome = true) (h : t.setK b o K = true) : ∃ t', K t' = true ∧ Rp RT n t' (H.set b (dec RT o)) := by
  obtain ⟨t', h1, h2⟩ := HT.setK_spec t b o K h
  refine ⟨t', h1, by rw [set_n, r.n], fun x => ?_⟩
  rw [set_get _ hb, h2, r.get]
  split <;> rfl
theorem Rp.set {n : Nat} {t : HT} {H : AHeap} (r : Rp RT n t H) {b : Nat} {o : AO} {K : HT → Bool} (hb : (H.get b).isSome = true) (h : t.setK b o K = true) (ho : dec RT o = o := by rfl) : ∃ t', K t' = true ∧ Rp RT n t' (H.set b o) := by
  obtain ⟨t', h1, h2⟩ := r.setd hb h
  rw [ho] at h2; exact ⟨t', h1, h2⟩
end Ev
end Go.AM

set_option linter.unusedSimpArgs false
set_option linter.unusedVariables false
namespace Go.AM
namespace Ev
variable {RT : List RDef}
theorem Rp.allocT {n : Nat} {t : HT} {H : AHeap} (r : Rp RT n t H) {o : AO} {K : Nat → HT → Bool} (h : AM.allocT o n t K = true) (ho : dec RT o = o := by rfl) : ∃ n' t', K n' t' = true ∧ Rp RT n' t' (H.alloc o) := by
  obtain ⟨t', h1, h2⟩ := r.alloc h ho
  rw [forceN_eq] at h1
  exact ⟨_, t', h1, h2⟩
theorem elemsT_true {n : Nat} {t : HT} {H : AHeap} (r : Rp RT n t H) {esz : Nat} {x : Value} {K : List Value → Bool} (h : elemsT t esz x K = true) : ∃ c, elemsA H esz x = some c ∧ K c = true := by
  unfold elemsT at h
  split at h
  · exact ⟨_, rfl, h⟩
  · obtain ⟨o, h1, h2⟩ := r.getK h
    split at h2
    · obtain ⟨h3, h4⟩ := asT_true h2
      refine ⟨_, ?_, h4⟩
      simp only [elemsA, h1]
      rw [if_pos (Nat.le_of_ble_eq_true h3)]
    · cases h2
  · cases h
def KP (RT : List RDef) (K : Value → Nat → HT → Bool) : Value → AHeap → Prop := fun v H => ∃ n t, Rp RT n t H ∧ K v n t = true
theorem appT_true {e esz bytes : Nat} {s : Value} {m : Nat} {news : List Value} {n : Nat} {t : HT} {H : AHeap} (r : Rp RT n t H) {K : Value → Nat → HT → Bool} (h : appT e esz bytes s m news n t K = true) :
    ∃ v H', appA H e esz bytes s m news = some (v, H') ∧ KP RT K v H' := by
  have hn := r.n
  unfold appT at h
  split at h
  · rename_i a b
    obtain ⟨a1, k1⟩ := asT_true h
    obtain ⟨a2, k2⟩ := asT_true k1
    have b1 := Nat.eq_of_beq_eq_true a1
    have b2 := Nat.eq_of_beq_eq_true a2
    subst b1 b2
    split at k2
    · rename_i em
      have hm : m ≠ 0 := fun e => by subst e; cases em
      obtain ⟨a3, k3⟩ := asT_true k2
      obtain ⟨a4, k4⟩ := asT_true k3
      obtain ⟨n', t', h3, h4⟩ := r.allocT k4
      refine ⟨slc H.n 0 m m, _, ?_, n', t', h4, by rw [hn]; exact h3⟩
      simp only [appA, and_self, if_true]
      rw [if_neg hm, if_pos ⟨Nat.le_of_ble_eq_true a3, Nat.le_of_ble_eq_true a4⟩]
    · rename_i em
      have hm : m = 0 := Nat.eq_of_beq_eq_true em
      exact ⟨_, H, by simp only [appA, and_self, if_true, hm], n, t, r, k2⟩
  · rename_i b o a k
    split at h
    · rename_i em
      have hm : m ≠ 0 := fun e => by subst e; cases em
      obtain ⟨a3, k3⟩ := asT_true h
      obtain ⟨a4, k4⟩ := asT_true k3
      obtain ⟨ao, h3, k5⟩ := r.getK k4
      split at k5
      · rename_i own room esz' c e'
        obtain ⟨a5, k6⟩ := asT_true k5
        obtain ⟨a6, k6'⟩ := asT_true k6
        obtain ⟨a7, k7⟩ := asT_true k6'
        have e7 := Nat.le_of_ble_eq_true a7
        have e5 := Nat.eq_of_beq_eq_true a5
        have e6 := Nat.eq_of_beq_eq_true a6
        subst e5 e6
        rw [forceN_eq] at k7
        simp only [appA]
        rw [if_neg hm, if_pos ⟨Nat.le_of_ble_eq_true a3, Nat.le_of_ble_eq_true a4⟩]
        simp only [h3, true_and]
        rw [if_pos e7]
        split at k7
        · rename_i ef
          obtain ⟨ho, k8⟩ := asT_true k7
          subst ho
          rw [if_pos (Nat.le_of_ble_eq_true ef)]
          obtain ⟨t', m1, m2⟩ := r.set (by rw [h3]; rfl) k8
          exact ⟨_, _, rfl, n, t', m2, m1⟩
        rename_i ef
        rw [if_neg (fun hh => by rw [Nat.ble_eq_true_of_le hh] at ef; cases ef)]
        split at k7
        · rename_i ec
          have hc : ¬ (room = false ∨ o + k * esz' < c.length) := by
            rintro (c2 | c2)
            · subst c2; cases ec
            · rw [Nat.ble_eq_true_of_le c2] at ec
              simp at ec
          rw [if_neg hc]
          split at k7
          · obtain ⟨t1, m1, m2⟩ := r.set (o := .dead) (by rw [h3]; rfl) k7
            obtain ⟨n', t', h5, h6⟩ := m2.allocT m1
            exact ⟨_, _, rfl, n', t', h6, by rw [hn]; exact h5⟩
          · cases k7
        · rename_i ec
          have hc : room = false ∨ o + k * esz' < c.length := by
            cases room
            · exact .inl rfl
            · exact .inr (Nat.le_of_ble_eq_true (by simpa using ec))
          rw [if_pos hc]
          obtain ⟨n', t', h5, h6⟩ := r.allocT k7
          exact ⟨_, _, rfl, n', t', h6, by rw [hn]; exact h5⟩
      · cases k5
    · rename_i em
      have hm : m = 0 := Nat.eq_of_beq_eq_true em
      exact ⟨_, H, by simp only [appA, if_true, hm], n, t, r, h⟩
  · cases h
theorem stepT0_sound {op : AOp Value} {n : Nat} {t : HT} {H : AHeap} (r : Rp RT n t H) {K : Value → Nat → HT → Bool} (h : stepT op n t K = true) : ∃ v H', asem op H = some (v, H') ∧ KP RT K v H' := by
  have hn := r.n
  unfold stepT at h
  split at h
  · obtain ⟨h1, h2⟩ := asT_true h
    rw [allOne_eq] at h1
    obtain ⟨n', t', h3, h4⟩ := r.allocT h2
    exact ⟨_, _, by simp only [asem]; rw [if_pos h1], n', t', h4, by rw [hn]; exact h3⟩
  · obtain ⟨h1, h2⟩ := asT_true h
    rw [allOne_eq] at h1
    obtain ⟨n', t', h3, h4⟩ := r.allocT h2
    exact ⟨_, _, by simp only [asem]; rw [if_pos h1], n', t', h4, by rw [hn]; exact h3⟩
  · split at h
    · rename_i c hc
      obtain ⟨h1, h2⟩ := asT_true h
      obtain ⟨h5, h6⟩ := asT_true h2
      rw [allOne_eq] at h1
      obtain ⟨n', t', h3, h4⟩ := r.allocT h6
      exact ⟨_, _, by simp only [asem, hc]; rw [if_pos ⟨h1, Nat.eq_of_beq_eq_true h5⟩], n', t', h4, by rw [hn]; exact h3⟩
    · cases h
  · split at h
    · obtain ⟨o, h1, h2⟩ := r.getK h
      split at h2
      · rw [nthO_eq] at h2
        split at h2
        · rename_i v hv
          exact ⟨v, H, by simp only [asem, cellA, h1, hv, Option.map_some], n, t, r, h2⟩
        · cases h2
      · cases h2
    · cases h
  · split at h
    · obtain ⟨o, h1, h2⟩ := r.getK h
      split at h2
      · obtain ⟨h3, h4⟩ := asT_true h2
        exact ⟨_, H, by simp only [asem, rangeA, h1]; rw [if_pos (Nat.le_of_ble_eq_true h3)]; rfl, n, t, r, h4⟩
      · cases h2
    · cases h
  · split at h
    · obtain ⟨o, h1, h2⟩ := r.getK h
      split at h2
      · obtain ⟨h3, h4⟩ := asT_true h2
        obtain ⟨h5, h6⟩ := asT_true h4
        rw [updK_eq] at h6
        obtain ⟨t', h7, h8⟩ := r.set (by rw [h1]; rfl) h6
        exact ⟨_, _, by simp only [asem, h1]; rw [if_pos ⟨Nat.le_of_ble_eq_true h3, h5⟩], n, t', h8, h7⟩
      · cases h2
    · cases h
  · split at h
    · obtain ⟨o, h1, h2⟩ := r.getK h
      split at h2
      · obtain ⟨h3, h4⟩ := asT_true h2
        obtain ⟨h5, h6⟩ := asT_true h4
        obtain ⟨h9, h10⟩ := asT_true h6
        rw [allOne_eq] at h9
        obtain ⟨t', h7, h8⟩ := r.set (by rw [h1]; rfl) h10
        exact ⟨_, _, by simp only [asem, h1]; rw [if_pos ⟨Nat.le_of_ble_eq_true h3, Nat.eq_of_beq_eq_true h5, h9⟩], n, t', h8, h7⟩
      · cases h2
    · cases h
  · obtain ⟨v, h1, h2⟩ := binT_true h
    exact ⟨v, H, by simp only [asem, h1, Option.map_some], n, t, r, h2⟩
  · split at h
    · rw [wrapT_eq] at h
      exact ⟨_, H, rfl, n, t, r, h⟩
    · cases h
  · split at h
    · rename_i s
      rw [forceN_eq, bLen_eq] at h
      obtain ⟨n', t', h3, h4⟩ := r.allocT h
      exact ⟨_, _, rfl, n', t', h4, by rw [hn]; exact h3⟩
    · cases h
  · obtain ⟨c, h1, h2⟩ := elemsT_true r h
    split at h2
    · rename_i l hl
      exact ⟨_, H, by simp only [asem, h1, hl], n, t, r, h2⟩
    · cases h2
  · split at h
    · rename_i l c
      obtain ⟨a1, h⟩ := asT_true h
      obtain ⟨a2, h⟩ := asT_true h
      obtain ⟨a3, h⟩ := asT_true h
      obtain ⟨a4, h⟩ := asT_true h
      obtain ⟨a5, h⟩ := asT_true h
      rw [forceN_eq, forceN_eq] at h
      obtain ⟨n', t', h3, h4⟩ := r.allocT h
      have b1 := Nat.le_of_ble_eq_true a1
      have b2 := Nat.le_of_ble_eq_true a2
      have b3 := Nat.le_of_ble_eq_true a3
      rw [allOne_eq] at a5
      refine ⟨slc H.n 0 l c, _, ?_, n', t', h4, by rw [hn]; exact h3⟩
      simp only [asem]
      rw [if_pos ⟨Int.natCast_nonneg _, Int.ofNat_le.2 b1, Int.ofNat_le.2 b2, Int.ofNat_le.2 b3, Nat.eq_of_beq_eq_true a4, a5⟩]
      rfl
    · cases h
  · split at h
    · rename_i s
      obtain ⟨hh, h1, h2⟩ := bndT_true h
      obtain ⟨l, h3, h4⟩ := bndT_true h2
      rw [bLen_eq] at h1
      rw [bSub_eq] at h4
      exact ⟨_, H, by simp only [asem, h1, h3], n, t, r, h4⟩
    · cases h
  · split at h
    · obtain ⟨m, h1, h2⟩ := bndT_true h
      obtain ⟨hh, h3, h4⟩ := bndT_true h2
      obtain ⟨l, h5, h6⟩ := bndT_true h4
      split at h6
      · exact ⟨_, H, by simp only [asem, h1, h3, h5], n, t, r, h6⟩
      · obtain ⟨o, h7, h8⟩ := r.getK h6
        split at h8
        · obtain ⟨h9, h10⟩ := asT_true h8
          simp only [forceN_eq] at h10
          exact ⟨_, H, by simp only [asem, h1, h3, h5, h7]; rw [if_pos (by rw [Bool.or_eq_true] at h9; rcases h9 with h9 | h9; exact .inl (Nat.eq_of_beq_eq_true h9); exact .inr (by simpa using h9))], n, t, r, h10⟩
        · cases h8
      · cases h6
    · cases h
  · split at h
    · rw [forceN_eq] at h
      exact ⟨_, H, rfl, n, t, r, h⟩
    · cases h
  · split at h
    · rename_i off x cs
      rw [nthO_eq] at h
      split at h
      · rename_i v hv
        exact ⟨v, H, by simp only [asem, hv, Option.map_some], n, t, r, h⟩
      · cases h
    · cases h
  · split at h
    · rename_i b o m k kk i
      obtain ⟨h1, h2⟩ := asT_true h
      rw [forceN_eq] at h2
      have := Nat.le_of_ble_eq_true h1
      refine ⟨_, H, ?_, n, t, r, h2⟩
      simp only [asem]
      rw [if_pos ⟨Int.natCast_nonneg _, by simp only [Int.ofNat_eq_natCast]; omega⟩]
      rfl
    · cases h
  · split at h
    · rw [nthO_eq] at h
      split at h
      · rename_i v hv
        exact ⟨v, H, by simp only [asem, hv, Option.map_some], n, t, r, h⟩
      · cases h
    · cases h
  · split at h
    · exact ⟨_, H, rfl, n, t, r, h⟩
    · rw [forceN_eq, bLen_eq] at h
      exact ⟨_, H, rfl, n, t, r, h⟩
    · cases h
  · split at h
    · rename_i e esz bytes s x aa m kk
      obtain ⟨news, h1, h2⟩ := elemsT_true r h
      obtain ⟨v, H', h3, h4⟩ := appT_true r h2
      exact ⟨v, H', by simp only [asem, h1]; exact h3, h4⟩
    · cases h
  · split at h
    · rename_i b o k i
      obtain ⟨h1, h2⟩ := asT_true h
      rw [forceN_eq] at h2
      have := Nat.le_of_ble_eq_true h1
      refine ⟨_, H, ?_, n, t, r, h2⟩
      simp only [asem]
      rw [if_pos ⟨Int.natCast_nonneg _, by simp only [Int.ofNat_eq_natCast]; omega⟩]
      rfl
    · cases h
  · split at h
    · obtain ⟨m, h1, h2⟩ := bndT_true h
      obtain ⟨hh, h3, h4⟩ := bndT_true h2
      obtain ⟨l, h5, h6⟩ := bndT_true h4
      simp only [forceN_eq] at h6
      exact ⟨_, H, by simp only [asem, h1, h3, h5], n, t, r, h6⟩
    · cases h
  · split at h
    · rename_i s
      obtain ⟨n', t', h3, h4⟩ := r.allocT h
      exact ⟨_, _, rfl, n', t', h4, by rw [hn]; exact h3⟩
    · cases h
  · split at h
    · obtain ⟨o, h1, h2⟩ := r.getK h
      split at h2
      · rename_i s pos
        split at h2
        · rename_i e
          rw [forceI_eq, forceN_eq] at h2
          obtain ⟨t', h7, h8⟩ := r.set (by rw [h1]; rfl) h2
          rw [bLen_eq] at e
          exact ⟨_, _, by simp only [asem, h1]; rw [if_pos (show pos < s.size from Nat.le_of_ble_eq_true e)], n, t', h8, h7⟩
        · rename_i e
          rw [bLen_eq] at e
          have : ¬ pos < s.size := fun h => by rw [Nat.ble_eq_true_of_le h] at e; cases e
          exact ⟨_, H, by simp only [asem, h1]; rw [if_neg this], n, t, r, h2⟩
      · cases h2
    · cases h
  · split at h
    · obtain ⟨h1, h⟩ := asT_true h
      obtain ⟨h2, h⟩ := asT_true h
      exact ⟨_, H, by simp only [asem]; rw [if_pos ⟨Nat.eq_of_beq_eq_true h1, Nat.eq_of_beq_eq_true h2⟩], n, t, r, h⟩
    · obtain ⟨l, h1, h2⟩ := elemsT_true r h
      obtain ⟨o, h3, h4⟩ := r.getK h2
      split at h4
      · rename_i own room esz' c e
        rw [forceN_eq] at h4
        split at h4
        · rename_i e0
          exact ⟨_, H, by simp only [asem, h1, h3]; rw [if_pos (Nat.eq_of_beq_eq_true e0)], n, t, r, h4⟩
        · rename_i e0
          obtain ⟨h5, h6⟩ := asT_true h4
          obtain ⟨h7, h8⟩ := asT_true h6
          obtain ⟨t', h9, h10⟩ := r.set (by rw [h3]; rfl) h8
          refine ⟨_, _, ?_, n, t', h10, h9⟩
          simp only [asem, h1, h3]
          rw [if_neg (fun hh => by rw [hh] at e0; cases e0), if_pos ⟨h5, Nat.le_of_ble_eq_true h7⟩]
          rfl
      · cases h4
    · cases h
  · split at h
    · obtain ⟨h1, h⟩ := asT_true h
      obtain ⟨h2, h⟩ := asT_true h
      exact ⟨_, H, by simp only [asem]; rw [if_pos ⟨Nat.eq_of_beq_eq_true h1, Nat.eq_of_beq_eq_true h2⟩], n, t, r, h⟩
    · split at h
      · rename_i e0
        exact ⟨_, H, by simp only [asem]; rw [if_pos (Nat.eq_of_beq_eq_true e0)], n, t, r, h⟩
      · rename_i e0
        obtain ⟨o, h3, h4⟩ := r.getK h
        split at h4
        · obtain ⟨h5, h6⟩ := asT_true h4
          obtain ⟨h7, h8⟩ := asT_true h6
          obtain ⟨h9, h10⟩ := asT_true h8
          obtain ⟨h11, h12⟩ := asT_true h10
          rw [allOne_eq] at h11
          obtain ⟨t', h13, h14⟩ := r.set (by rw [h3]; rfl) h12
          refine ⟨_, _, ?_, n, t', h14, h13⟩
          simp only [asem]
          rw [if_neg (fun hh => by rw [hh] at e0; cases e0)]
          simp only [h3]
          rw [if_pos ⟨h5, Nat.le_of_ble_eq_true h7, Nat.eq_of_beq_eq_true h9, h11⟩]
        · cases h4
    · cases h
  · split at h
    · rw [forceN_eq, bLen_eq] at h
      obtain ⟨v, H', h3, h4⟩ := appT_true r h
      exact ⟨v, H', by simp only [asem]; exact h3, h4⟩
    · cases h
  · split at h
    · obtain ⟨o, h1, h2⟩ := r.getK h
      split at h2
      · exact ⟨_, H, by simp only [asem, h1], n, t, r, h2⟩
      · cases h2
    · cases h
  · cases h
  · cases h
  · cases h
  · obtain ⟨v, h1, h2⟩ := optK_true h
    exact ⟨v, H, plainT_sound h1, n, t, r, h2⟩
noncomputable def stepT (op : AOp Value) (n : Nat) (t : HT) (K : Value → Nat → HT → Bool) : Bool := match op with
  | .appz e esz bytes z s x => match x with
    | .int .i64 (.ofNat m) => asT (Nat.ble (m * bytes) 140737488355328) (asT (Nat.ble m 140737488355328) (forceN m fun m => appT e esz bytes s m (List.replicate m z).flatten n t K))
    | _ => false
  | .cap x => match x with
    | .slice none a k => asT (Nat.beq a 0) (asT (Nat.beq k 0) (K (.int .i64 0) n t))
    | .slice (some ⟨b, _, none⟩) _ k => t.getK b fun ao => match ao with
      | .cells _ false _ _ _ => K (.int .i64 (.ofNat k)) n t
      | _ => false
    | _ => false
  | .mkmap => allocT (.obj true (.map #[] 0)) n t fun n' t' => K (.map (some n)) n' t'
  | .mget kk z ok m k => asT (keyB kk k) (match m with
      | .map none => optK (mgetA z ok (some none)) fun v => K v n t
      | .map (some b) => t.getK b fun ao => match ao with
        | .obj _ (.map es _) => optK (mgetA z ok (Instr.findNow kk k es.toList 0)) fun v => K v n t
        | _ => false
      | _ => false)
  | .mset kk m k x => asT (keyB kk k) (match m with
      | .map (some b) => t.getK b fun ao => match ao with
        | .obj true (.map es clock) => match Instr.findNow kk k es.toList 0 with
          | some (some (i, _)) => t.setK b (.obj true (.map (es.modify i fun e => { e with key := k, val := x }) clock)) fun t' => K undef n t'
          | some none => t.setK b (.obj true (.map (es.push { key := k, val := x, born := clock }) (clock + 1))) fun t' => K undef n t'
          | none => false
        | _ => false
      | _ => false)
  | .mm4 mx x y z w => match x, y, z, w with
    | .int k a, .int k1 b, .int k2 c, .int k3 d => asT (decide (k = k1 ∧ k = k2 ∧ k = k3)) (forceI (mmI mx (mmI mx (mmI mx a b) c) d) fun r => K (.int k r) n t)
    | _, _, _, _ => false
  | op => AM.stepT op n t K
theorem stepT_sound {op : AOp Value} {n : Nat} {t : HT} {H : AHeap} (r : Rp RT n t H) {K : Value → Nat → HT → Bool} (h : stepT op n t K = true) : ∃ v H', asem op H = some (v, H') ∧ KP RT K v H' := by
  have hn := r.n
  unfold stepT at h
  split at h
  · split at h
    · obtain ⟨h1, h2⟩ := asT_true h
      obtain ⟨h3, h4⟩ := asT_true h2
      rw [forceN_eq] at h4
      obtain ⟨v, H', h5, h6⟩ := appT_true r h4
      refine ⟨v, H', ?_, h6⟩
      have h1 := Nat.le_of_ble_eq_true h1
      have h3 := Nat.le_of_ble_eq_true h3
      simp only [asem]
      rw [if_pos ⟨Int.natCast_nonneg _, by simp only [Int.ofNat_eq_natCast]; omega, by simp only [Int.ofNat_eq_natCast]; omega⟩]
      exact h5
    · cases h
  · split at h
    · obtain ⟨h1, h⟩ := asT_true h
      obtain ⟨h2, h⟩ := asT_true h
      have h1 := Nat.eq_of_beq_eq_true h1
      have h2 := Nat.eq_of_beq_eq_true h2
      subst h1 h2
      exact ⟨_, H, rfl, n, t, r, h⟩
    · obtain ⟨o, h1, h2⟩ := r.getK h
      split at h2
      · exact ⟨_, H, by simp only [asem, h1]; rfl, n, t, r, h2⟩
      · cases h2
    · cases h
  · obtain ⟨n', t', h3, h4⟩ := r.allocT h
    exact ⟨_, _, rfl, n', t', h4, by rw [hn]; exact h3⟩
  · obtain ⟨h1, h2⟩ := asT_true h
    split at h2
    · obtain ⟨v, h3, h4⟩ := optK_true h2
      exact ⟨v, H, by simp only [asem]; rw [if_pos h1, h3]; rfl, n, t, r, h4⟩
    · obtain ⟨o, h3, h4⟩ := r.getK h2
      split at h4
      · obtain ⟨v, h5, h6⟩ := optK_true h4
        exact ⟨v, H, by simp only [asem, h3]; rw [if_pos h1, h5]; rfl, n, t, r, h6⟩
      · cases h4
    · cases h2
  · obtain ⟨h1, h⟩ := asT_true h
    split at h
    · obtain ⟨o, h3, h4⟩ := r.getK h
      split at h4
      · rename_i es clock
        split at h4
        · rename_i i u hf
          obtain ⟨t', h7, h8⟩ := r.set (by rw [h3]; rfl) h4
          exact ⟨_, _, by simp only [asem, h3, hf]; rw [if_pos h1], n, t', h8, h7⟩
        · rename_i hf
          obtain ⟨t', h7, h8⟩ := r.set (by rw [h3]; rfl) h4
          exact ⟨_, _, by simp only [asem, h3, hf]; rw [if_pos h1], n, t', h8, h7⟩
        · cases h4
      · cases h4
    · cases h
  · split at h
    · obtain ⟨h1, h⟩ := asT_true h
      rw [forceI_eq] at h
      exact ⟨_, H, by simp only [asem]; rw [if_pos (of_decide_eq_true h1)], n, t, r, h⟩
    · cases h
  · exact stepT0_sound r h
end Ev
end Go.AM
