/- The abstract machine, part Z2: the evaluator of code, and that what it finds is so. -/
import Derived.Test.YtlmikadohcdclaaAmZ
set_option linter.unusedSimpArgs false
set_option linter.unusedVariables false
namespace Go.AM

/-- A function for the evaluator: how many arguments, slots, results, code. -/
structure EF where
  na : Nat
  sl : List Nat
  res : List RX
  body : ACode

inductive FT
  | leaf
  | node (k : Nat) (f : EF) (l r : FT)

noncomputable def FT.find (T : FT) (k : Nat) (K : EF → Bool) : Bool :=
  FT.rec (motive := fun _ => Bool) false (fun k' f _ _ l r => Bool.rec (motive := fun _ => Bool) (Bool.rec (motive := fun _ => Bool) r l (Nat.ble k k')) (K f) (Nat.beq k k')) T

/-- Regions whose order makes no difference, as others. -/
def simpC : ACode → ACode
  | .dreg ops => if ops.all (fun p => p.2.isEmpty) then .reg (ops.map (·.1)) else .dreg ops
  | .seq a b => .seq (simpC a) (simpC b)
  | .cond c t e => .cond c (simpC t) (simpC e)
  | .block id c => .block id (simpC c)
  | .loop c => .loop (simpC c)
  | c => c

theorem RD_RW {P : Program} {ng : Nat} : ∀ {l : List (AOper × List Nat)} {fr tm : List Value} {H : AHeap} {tr : List TE} {K : List Value → AHeap → Prop}, l.all (fun p => p.2.isEmpty) = true → RW P ng (l.map (·.1)) fr tm H K → RD P ng l fr tm H tr K
  | [], fr, tm, H, tr, K, _, h => h
  | (o, un) :: l, fr, tm, H, tr, K, hl, h => by
    simp only [List.all_cons, Bool.and_eq_true, List.isEmpty_iff] at hl
    obtain ⟨h1, h2⟩ := hl
    subst h1
    simp only [RD, List.map_cons, RW] at h ⊢
    split at h
    · rename_i hw
      rw [if_pos hw]
      refine stepA_mono ?_ h
      intro v H' hh
      exact ⟨trivial, RD_RW h2 hh⟩
    · rename_i hw
      rw [if_neg hw]
      exact RD_RW h2 h

theorem W_simp {P : Program} {ng : Nat} : ∀ (c : ACode) {Q : AQ} {fr : List Value} {H : AHeap}, W P ng (simpC c) Q fr H → W P ng c Q fr H := by
  intro c
  induction c with
  | dreg ops =>
    intro Q fr H h
    simp only [simpC] at h
    split at h
    · rename_i hh
      exact RD_RW hh h
    · exact h
  | seq a b iha ihb =>
    intro Q fr H h
    have h1 := iha h
    show W P ng a (Q.andThen (W P ng b Q)) fr H
    refine W_mono ?_ h1
    intro e fr H hh
    cases e <;> first | exact ihb hh | exact hh
  | cond c t e iht ihe =>
    intro Q fr H h
    simp only [simpC, W] at h ⊢
    split at h
    · rename_i b hb
      cases b
      · simpa using ihe (by simpa using h)
      · simpa using iht (by simpa using h)
    · exact h
  | block id c ih => intro Q fr H h; exact ih h
  | loop c ih =>
    intro Q fr H h
    simp only [simpC, W] at h ⊢
    obtain ⟨I, n, h0, hs⟩ := h
    exact ⟨I, n, h0, fun k fr H hI => ih (hs k fr H hI)⟩
  | skip => intro Q fr H h; exact h
  | reg ops => intro Q fr H h; exact h
  | exit id => intro Q fr H h; exact h
  | ret => intro Q fr H h; exact h

/-- An entry of the table is the function's own. -/
def EF.ok (P : Program) (ng k : Nat) (f : EF) : Prop := ∃ af, compF P ng f.sl k = some af ∧ af.sl = f.sl ∧ af.res = f.res ∧ simpC af.body = f.body ∧ argsOK P k f.na = true
def FT.ok (P : Program) (ng : Nat) : FT → Prop
  | .leaf => True
  | .node k f l r => f.ok P ng k ∧ l.ok P ng ∧ r.ok P ng

theorem FT.find_true {P : Program} {ng : Nat} {k : Nat} {K : EF → Bool} : ∀ {T : FT}, T.ok P ng → T.find k K = true → ∃ f, f.ok P ng k ∧ K f = true
  | .leaf, _, h => by cases h
  | .node k' f l r, hT, h => by
    have e : (FT.node k' f l r).find k K = Bool.rec (motive := fun _ => Bool) (Bool.rec (motive := fun _ => Bool) (r.find k K) (l.find k K) (Nat.ble k k')) (K f) (Nat.beq k k') := rfl
    rw [e] at h
    cases e1 : Nat.beq k k'
    · rw [e1] at h
      cases e2 : Nat.ble k k'
      · rw [e2] at h; exact FT.find_true hT.2.2 h
      · rw [e2] at h; exact FT.find_true hT.2.1 h
    · rw [e1] at h
      have := Nat.eq_of_beq_eq_true e1
      subst this
      exact ⟨f, hT.1, h⟩

/-! ### Operations -/
abbrev CK := Value → Nat → HT → Bool
abbrev Caller := FuncId → List Value → Nat → HT → CK → Bool

noncomputable def stepX (call : Caller) (op : AOp AX) (fr tm : List Value) (n : Nat) (t : HT) (K : CK) : Bool := match op with
  | .mov x => evX x fr tm fun v => K v n t
  | .pick c a b => evX c fr tm fun c => evX a fr tm fun a => evX b fr tm fun b => stepT (.pick c a b) n t K
  | .new e s z => stepT (.new e s z) n t K
  | .box e s x => evX x fr tm fun x => stepT (.box e s x) n t K
  | .build z ps => evPs ps fr tm fun ps => stepT (.build z ps) n t K
  | .bslice e s m z ps => evPs ps fr tm fun ps => stepT (.bslice e s m z ps) n t K
  | .load1 x => evX x fr tm fun x => stepT (.load1 x) n t K
  | .loadn m x => evX x fr tm fun x => stepT (.loadn m x) n t K
  | .store1 a x => evX a fr tm fun a => evX x fr tm fun x => stepT (.store1 a x) n t K
  | .storen m a x => evX a fr tm fun a => evX x fr tm fun x => stepT (.storen m a x) n t K
  | .nilck x => evX x fr tm fun x => stepT (.nilck x) n t K
  | .bin op x y => evX x fr tm fun x => evX y fr tm fun y => binT op x y fun v => K v n t
  | .eqv k m x y => evX x fr tm fun x => evX y fr tm fun y => stepT (.eqv k m x y) n t K
  | .un op x => evX x fr tm fun x => stepT (.un op x) n t K
  | .i2i k x => evX x fr tm fun x => stepT (.i2i k x) n t K
  | .s2s x => evX x fr tm fun x => stepT (.s2s x) n t K
  | .s2b e x => evX x fr tm fun x => stepT (.s2b e x) n t K
  | .b2s x => evX x fr tm fun x => stepT (.b2s x) n t K
  | .iface u x => evX x fr tm fun x => K (.iface u x) n t
  | .mkfn fn xs ys => evXs xs fr tm fun xs => evXs ys fr tm fun ys => stepT (.mkfn fn xs ys) n t K
  | .mksl e s b z l c => evX l fr tm fun l => evX c fr tm fun c => stepT (.mksl e s b z l c) n t K
  | .slstr x lo hi => evX x fr tm fun x => evO lo fr tm fun lo => evO hi fr tm fun hi => stepT (.slstr x lo hi) n t K
  | .slsl s x lo hi mx => evX x fr tm fun x => evO lo fr tm fun lo => evO hi fr tm fun hi => evO mx fr tm fun mx => stepT (.slsl s x lo hi mx) n t K
  | .faddr o x => evX x fr tm fun x => stepT (.faddr o x) n t K
  | .fld1 o x => evX x fr tm fun x => stepT (.fld1 o x) n t K
  | .fldn o m x => evX x fr tm fun x => stepT (.fldn o m x) n t K
  | .iaddr s x i => evX x fr tm fun x => evX i fr tm fun i => stepT (.iaddr s x i) n t K
  | .idxs x i => evX x fr tm fun x => evX i fr tm fun i => stepT (.idxs x i) n t K
  | .assert u z ok x => evX x fr tm fun x => stepT (.assert u z ok x) n t K
  | .extract x i => evX x fr tm fun x => stepT (.extract x i) n t K
  | .len s x => evX x fr tm fun x => stepT (.len s x) n t K
  | .app e s b x y => evX x fr tm fun x => evX y fr tm fun y => stepT (.app e s b x y) n t K
  | .mark x => evX x fr tm fun x => stepT (.mark x) n t K
  | .iaddrp s m x i => evX x fr tm fun x => evX i fr tm fun i => stepT (.iaddrp s m x i) n t K
  | .idxa a s m x i => evX x fr tm fun x => evX i fr tm fun i => stepT (.idxa a s m x i) n t K
  | .slarr s m x lo hi mx => evX x fr tm fun x => evO lo fr tm fun lo => evO hi fr tm fun hi => evO mx fr tm fun mx => stepT (.slarr s m x lo hi mx) n t K
  | .eqs cs m x y => evX x fr tm fun x => evX y fr tm fun y => stepT (.eqs cs m x y) n t K
  | .mm m x y => evX x fr tm fun x => evX y fr tm fun y => stepT (.mm m x y) n t K
  | .i2str x => evX x fr tm fun x => stepT (.i2str x) n t K
  | .rng x => evX x fr tm fun x => stepT (.rng x) n t K
  | .next x => evX x fr tm fun x => stepT (.next x) n t K
  | .copy s d x => evX d fr tm fun d => evX x fr tm fun x => stepT (.copy s d x) n t K
  | .clr s z x => evX x fr tm fun x => stepT (.clr s z x) n t K
  | .apps e b x y => evX x fr tm fun x => evX y fr tm fun y => stepT (.apps e b x y) n t K
  | .callf f xs => evXs xs fr tm fun xs => call f xs n t K
  | .callv f xs => evX f fr tm fun f => evXs xs fr tm fun xs => match f with
    | .func (.func g) first cap => call g (first.toList ++ xs ++ cap.toList) n t K
    | _ => false
  | .bad => false

def CallOK (P : Program) (ng : Nat) (call : Caller) : Prop := ∀ f xs n t K, call f xs n t K = true → ∀ H, Rp n t H → ∃ v H', ARun P ng f xs H v H' ∧ KP K v H'

theorem stepX_sound {P : Program} {ng : Nat} {call : Caller} (hc : CallOK P ng call) {op : AOp AX} {fr tm : List Value} {n : Nat} {t : HT} {K : CK} (h : stepX call op fr tm n t K = true) {H : AHeap} (r : Rp n t H) :
    stepA P ng (op.map (AX.ev fr tm)) H (KP K) := by
  have fin : ∀ {o : AOp Value}, stepT o n t K = true → stepA P ng o H (KP K) := by
    intro o ho
    obtain ⟨v, H', h1, h2⟩ := stepT_sound r ho
    exact stepA_of h1 h2
  cases op <;> simp only [stepX, evX_eq, evXs_eq, evO_eq, evPs_eq] at h <;> simp only [AOp.map] <;> try exact fin h
  case callf f xs => exact hc _ _ _ _ _ h H r
  case callv f xs =>
    simp only [stepA]
    split at h
    · rename_i g first cap hf
      rw [hf]
      exact hc _ _ _ _ _ h H r
    · cases h

noncomputable def wantK (g : Option (AX × Bool)) (fr tm : List Value) (K : Bool → Bool) : Bool := match g with
  | none => K true
  | some (x, b) => evX x fr tm fun v => match v with
    | .bool t => match t, b with
      | true, true => K true
      | false, false => K true
      | _, _ => K false
    | _ => K false
theorem wantK_eq (g : Option (AX × Bool)) (fr tm : List Value) (K : Bool → Bool) : wantK g fr tm K = K (wantA g fr tm) := by
  cases g with
  | none => rfl
  | some p =>
    obtain ⟨x, b⟩ := p
    simp only [wantK, evX_eq, wantA]
    cases x.ev fr tm <;> try rfl
    rename_i t
    cases t <;> cases b <;> rfl
noncomputable def dstK (d : D) (v : Value) (fr tm : List Value) (K : List Value → List Value → Bool) : Bool := match d with
  | .no => K fr tm
  | .fr i => updK v fr i fun fr => K fr tm
  | .tm => K fr (v :: tm)
theorem dstK_eq (d : D) (v : Value) (fr tm : List Value) (K : List Value → List Value → Bool) : dstK d v fr tm K = K (d.frame v fr) (d.temps v tm) := by
  cases d <;> simp only [dstK, updK_eq, D.frame, D.temps]

abbrev FK := List Value → Nat → HT → Bool
noncomputable def runOps (call : Caller) (ops : List AOper) : List Value → List Value → Nat → HT → FK → Bool :=
  List.rec (motive := fun _ => List Value → List Value → Nat → HT → FK → Bool) (fun fr _ n t K => K fr n t)
    (fun o _ ih fr tm n t K => wantK o.g fr tm fun b => Bool.rec (motive := fun _ => Bool)
      (dstK o.dst undef fr tm fun fr tm => ih fr tm n t K)
      (stepX call o.op fr tm n t fun v n t => dstK o.dst v fr tm fun fr tm => ih fr tm n t K) b) ops
theorem runOps_cons (call : Caller) (o : AOper) (l : List AOper) (fr tm : List Value) (n : Nat) (t : HT) (K : FK) : runOps call (o :: l) fr tm n t K = wantK o.g fr tm fun b => Bool.rec (motive := fun _ => Bool)
      (dstK o.dst undef fr tm fun fr tm => runOps call l fr tm n t K)
      (stepX call o.op fr tm n t fun v n t => dstK o.dst v fr tm fun fr tm => runOps call l fr tm n t K) b := rfl

def FP (K : FK) : List Value → AHeap → Prop := fun fr H => ∃ n t, Rp n t H ∧ K fr n t = true
theorem runOps_sound {P : Program} {ng : Nat} {call : Caller} (hc : CallOK P ng call) : ∀ {l : List AOper} {fr tm : List Value} {n : Nat} {t : HT} {K : FK}, runOps call l fr tm n t K = true → ∀ {H : AHeap}, Rp n t H → RW P ng l fr tm H (FP K)
  | [], fr, tm, n, t, K, h, H, r => ⟨n, t, r, h⟩
  | o :: l, fr, tm, n, t, K, h, H, r => by
    rw [runOps_cons, wantK_eq] at h
    simp only [RW]
    cases hw : wantA o.g fr tm
    · rw [hw] at h
      rw [dstK_eq] at h
      simp only [Bool.false_eq_true, if_false]
      exact runOps_sound hc h r
    · rw [hw] at h
      simp only [if_true]
      refine stepA_mono ?_ (stepX_sound hc h r)
      rintro v H' ⟨n', t', r', h'⟩
      simp only [dstK_eq] at h'
      exact runOps_sound hc h' r'

/-! regions that draw -/
structure TT where
  k : Nat
  bs : List Nat
  n : Nat
  t : HT
  t' : HT
noncomputable def keepsT : List Nat → HT → HT → Bool
  | [], _, _ => true
  | b :: l, t, t' => asT (t.getK b fun o => t'.getK b fun o' => aoEq o' o) (keepsT l t t')
def olderT : List Nat → Nat → Bool
  | [], _ => true
  | b :: l, n => match Nat.ble (b + 1) n with
    | true => olderT l n
    | false => false
theorem keepsT_true {n n' : Nat} {t t' : HT} {H H' : AHeap} (r : Rp n t H) (r' : Rp n' t' H') : ∀ {l : List Nat}, keepsT l t t' = true → keepsB l H H'
  | [], _ => trivial
  | b :: l, h => by
    obtain ⟨h1, h2⟩ := asT_true h
    obtain ⟨o, h3, h4⟩ := r.getK h1
    obtain ⟨o', h5, h6⟩ := r'.getK h4
    exact ⟨by rw [h3, h5, aoEq_true h6], keepsT_true r r' h2⟩
theorem olderT_true {n : Nat} {H : AHeap} (hn : H.n = n) : ∀ {l : List Nat}, olderT l n = true → olderB l H
  | [], _ => trivial
  | b :: l, h => by
    simp only [olderT] at h
    split at h
    · rename_i e
      exact ⟨by rw [hn]; exact Nat.le_of_ble_eq_true e, olderT_true hn h⟩
    · cases h

noncomputable def oblT (k : Nat) (bs : List Nat) (t t' : HT) (tr : List TT) : List Nat → Bool
  | [] => true
  | i :: un => match tr[i]? with
    | some e => match Nat.beq k 1 && Nat.beq e.k 3, Nat.beq k 3 && (Nat.beq e.k 1 || Nat.beq e.k 2) with
      | true, _ => asT (olderT bs e.n) (asT (keepsT bs e.t e.t') (oblT k bs t t' tr un))
      | false, true => asT (keepsT e.bs t t') (oblT k bs t t' tr un)
      | false, false => oblT k bs t t' tr un
    | none => false
/-- The two traces. -/
inductive TrR : List TT → List TE → Prop
  | nil : TrR [] []
  | cons {e : TT} {x : TE} {l : List TT} {m : List TE} (hk : x.k = e.k) (hb : x.bs = e.bs) (h1 : Rp e.n e.t x.H) (h2 : ∃ n', Rp n' e.t' x.H') (h : TrR l m) : TrR (e :: l) (x :: m)
theorem TrR.snoc {l : List TT} {m : List TE} (h : TrR l m) {e : TT} {x : TE} (hk : x.k = e.k) (hb : x.bs = e.bs) (h1 : Rp e.n e.t x.H) (h2 : ∃ n', Rp n' e.t' x.H') : TrR (l ++ [e]) (m ++ [x]) := by
  induction h with
  | nil => exact .cons hk hb h1 h2 .nil
  | cons a b c d _ ih => exact .cons a b c d ih
theorem TrR.get {l : List TT} {m : List TE} (h : TrR l m) : ∀ {i : Nat} {e : TT}, l[i]? = some e → ∃ x, m[i]? = some x ∧ x.k = e.k ∧ x.bs = e.bs ∧ Rp e.n e.t x.H ∧ ∃ n', Rp n' e.t' x.H' := by
  induction h with
  | nil => intro i e h; simp at h
  | cons a b c d _ ih =>
    intro i e h
    cases i with
    | zero => simp at h; subst h; exact ⟨_, rfl, a, b, c, d⟩
    | succ i => simp at h; simpa using ih h
theorem oblT_true {k : Nat} {bs : List Nat} {n n' : Nat} {t t' : HT} {H H' : AHeap} (r : Rp n t H) (r' : Rp n' t' H') {tr : List TT} {tr' : List TE} (ht : TrR tr tr') : ∀ {un : List Nat}, oblT k bs t t' tr un = true → oblA k bs H H' tr' un
  | [], _ => trivial
  | i :: un, h => by
    simp only [oblT] at h
    split at h
    · rename_i e he
      obtain ⟨x, h1, h2, h3, h4, n2, h5⟩ := ht.get he
      simp only [oblA, h1]
      split at h
      · rename_i e1
        obtain ⟨a1, a2⟩ := asT_true h
        obtain ⟨a3, a4⟩ := asT_true a2
        rw [Bool.and_eq_true] at e1
        have q1 := Nat.eq_of_beq_eq_true e1.1
        have q2 := Nat.eq_of_beq_eq_true e1.2
        refine ⟨?_, oblT_true r r' ht a4⟩
        rw [if_pos ⟨q1, by rw [h2]; exact q2⟩]
        exact ⟨olderT_true h4.n a1, keepsT_true h4 h5 a3⟩
      · rename_i e1 e2
        obtain ⟨a1, a2⟩ := asT_true h
        rw [Bool.and_eq_true, Bool.or_eq_true] at e2
        have q1 := Nat.eq_of_beq_eq_true e2.1
        refine ⟨?_, oblT_true r r' ht a2⟩
        rw [if_neg (by rw [q1]; simp), if_pos ⟨q1, by rw [h2]; rcases e2.2 with q | q; exact .inl (Nat.eq_of_beq_eq_true q); exact .inr (Nat.eq_of_beq_eq_true q)⟩]
        rw [h3]
        exact keepsT_true r r' a1
      · rename_i e1 e2
        refine ⟨?_, oblT_true r r' ht h⟩
        split
        · rename_i hh
          rw [h2] at hh
          rw [hh.1, hh.2] at e1
          cases e1
        · split
          · rename_i hh
            rw [h2] at hh
            rw [hh.1] at e2
            rcases hh.2 with q | q <;> rw [q] at e2 <;> cases e2
          · trivial
    · cases h

noncomputable def runD (call : Caller) (ops : List (AOper × List Nat)) : List Value → List Value → Nat → HT → List TT → FK → Bool :=
  List.rec (motive := fun _ => List Value → List Value → Nat → HT → List TT → FK → Bool) (fun fr _ n t _ K => K fr n t)
    (fun o _ ih fr tm n t tr K => wantK o.1.g fr tm fun b => Bool.rec (motive := fun _ => Bool)
      (dstK o.1.dst undef fr tm fun fr' tm' => ih fr' tm' n t (tr ++ [⟨9, [], n, t, t⟩]) K)
      (stepX call o.1.op fr tm n t fun v n' t' => asT (oblT (clsA o.1.op) (if clsA o.1.op = 1 then readsA (o.1.op.map (AX.ev fr tm)) else if clsA o.1.op = 2 then [n] else []) t t' tr o.2)
        (dstK o.1.dst v fr tm fun fr' tm' => ih fr' tm' n' t' (tr ++ [⟨clsA o.1.op, (if clsA o.1.op = 1 then readsA (o.1.op.map (AX.ev fr tm)) else if clsA o.1.op = 2 then [n] else []), n, t, t'⟩]) K)) b) ops
theorem runD_cons (call : Caller) (o : AOper × List Nat) (l : List (AOper × List Nat)) (fr tm : List Value) (n : Nat) (t : HT) (tr : List TT) (K : FK) : runD call (o :: l) fr tm n t tr K = wantK o.1.g fr tm fun b => Bool.rec (motive := fun _ => Bool)
      (dstK o.1.dst undef fr tm fun fr' tm' => runD call l fr' tm' n t (tr ++ [⟨9, [], n, t, t⟩]) K)
      (stepX call o.1.op fr tm n t fun v n' t' => asT (oblT (clsA o.1.op) (if clsA o.1.op = 1 then readsA (o.1.op.map (AX.ev fr tm)) else if clsA o.1.op = 2 then [n] else []) t t' tr o.2)
        (dstK o.1.dst v fr tm fun fr' tm' => runD call l fr' tm' n' t' (tr ++ [⟨clsA o.1.op, (if clsA o.1.op = 1 then readsA (o.1.op.map (AX.ev fr tm)) else if clsA o.1.op = 2 then [n] else []), n, t, t'⟩]) K)) b := rfl
theorem runD_sound {P : Program} {ng : Nat} {call : Caller} (hc : CallOK P ng call) : ∀ {l : List (AOper × List Nat)} {fr tm : List Value} {n : Nat} {t : HT} {tr : List TT} {tr' : List TE} {K : FK}, runD call l fr tm n t tr K = true → TrR tr tr' → ∀ {H : AHeap}, Rp n t H → RD P ng l fr tm H tr' (FP K)
  | [], fr, tm, n, t, tr, tr', K, h, _, H, r => ⟨n, t, r, h⟩
  | (o, un) :: l, fr, tm, n, t, tr, tr', K, h, ht, H, r => by
    rw [runD_cons, wantK_eq] at h
    simp only [RD]
    cases hw : wantA o.g fr tm
    · simp only [hw] at h
      rw [dstK_eq] at h
      simp only [Bool.false_eq_true, if_false]
      exact runD_sound hc h (ht.snoc rfl rfl r ⟨n, r⟩) r
    · simp only [hw] at h
      simp only [if_true]
      refine stepA_mono ?_ (stepX_sound hc h r)
      rintro v H' ⟨n', t', r', h'⟩
      obtain ⟨h1, h2⟩ := asT_true h'
      rw [dstK_eq] at h2
      have e : touchA (o.op.map (AX.ev fr tm)) H = (if clsA o.op = 1 then readsA (o.op.map (AX.ev fr tm)) else if clsA o.op = 2 then [n] else []) := by
        unfold touchA
        rw [cls_map, r.n]
      rw [e]
      exact ⟨oblT_true r r' ht h1, runD_sound hc h2 (ht.snoc rfl rfl r ⟨n', r'⟩) r'⟩

/-! ### Code -/
noncomputable def initK (sl : List Nat) (args : List Value) : (List Value → Bool) → Bool :=
  List.rec (motive := fun _ => (List Value → Bool) → Bool) (fun K => K []) (fun s _ ih K => nthK args s fun v => ih fun vs => K (v :: vs)) sl
theorem initK_eq : ∀ (sl : List Nat) (args : List Value) (K : List Value → Bool), initK sl args K = K (initFr sl args)
  | [], args, K => rfl
  | s :: sl, args, K => by
    have : initK (s :: sl) args K = nthK args s fun v => initK sl args fun vs => K (v :: vs) := rfl
    rw [this, nthK_eq, initK_eq sl]; rfl
noncomputable def cell1K (v : Value) (t : HT) (K : Value → Bool) : Bool := match v with
  | .pointer (some ⟨b, o, none⟩) => t.getK b fun ao => match ao with
    | .cells _ _ _ c _ => nthO c o K
    | _ => false
  | _ => false
theorem cell1K_true {n : Nat} {t : HT} {H : AHeap} (r : Rp n t H) {v : Value} {K : Value → Bool} (h : cell1K v t K = true) : ∃ u, cell1 v H = some u ∧ K u = true := by
  unfold cell1K at h
  split at h
  · obtain ⟨o, h1, h2⟩ := r.getK h
    split at h2
    · rw [nthO_eq] at h2
      split at h2
      · rename_i u hu
        exact ⟨u, by simp only [cell1, cellA, h1]; exact hu, h2⟩
      · cases h2
    · cases h2
  · cases h
noncomputable def cellnK (m : Nat) (v : Value) (t : HT) (K : Value → Bool) : Bool := match v with
  | .pointer (some ⟨b, o, none⟩) => t.getK b fun ao => match ao with
    | .cells _ _ _ c _ => asT (Nat.ble (o + m) c.length) (K (.agg ((c.drop o).take m).toArray))
    | _ => false
  | _ => false
theorem cellnK_true {n m : Nat} {t : HT} {H : AHeap} (r : Rp n t H) {v : Value} {K : Value → Bool} (h : cellnK m v t K = true) : ∃ u, celln m v H = some u ∧ K u = true := by
  unfold cellnK at h
  split at h
  · obtain ⟨o, h1, h2⟩ := r.getK h
    split at h2
    · obtain ⟨h3, h4⟩ := asT_true h2
      exact ⟨_, by simp only [celln, rangeA, h1]; rw [if_pos (Nat.le_of_ble_eq_true h3)]; rfl, h4⟩
    · cases h2
  · cases h
noncomputable def rxK (x : RX) (fr : List Value) (t : HT) (K : Value → Bool) : Bool := match x with
  | .t i => nthK fr i K
  | .c1 i => nthK fr i fun v => cell1K v t K
  | .cn m i => nthK fr i fun v => cellnK m v t K
noncomputable def rxsK (l : List RX) (fr : List Value) (t : HT) : (List Value → Bool) → Bool :=
  List.rec (motive := fun _ => (List Value → Bool) → Bool) (fun K => K []) (fun x _ ih K => rxK x fr t fun v => ih fun vs => K (v :: vs)) l
theorem rxsK_true {n : Nat} {t : HT} {H : AHeap} (r : Rp n t H) {fr : List Value} : ∀ {l : List RX} {K : List Value → Bool}, rxsK l fr t K = true → ∃ us, resVs fr H l = some us ∧ K us = true
  | [], K, h => ⟨[], rfl, h⟩
  | x :: l, K, h => by
    have h' : rxK x fr t (fun v => rxsK l fr t fun vs => K (v :: vs)) = true := h
    have : ∃ v, x.get fr H = some v ∧ rxsK l fr t (fun vs => K (v :: vs)) = true := by
      cases x with
      | t i => simp only [rxK, nthK_eq] at h'; exact ⟨_, rfl, h'⟩
      | c1 i => simp only [rxK, nthK_eq] at h'; exact cell1K_true r h'
      | cn m i => simp only [rxK, nthK_eq] at h'; exact cellnK_true r h'
    obtain ⟨v, h1, h2⟩ := this
    obtain ⟨us, h3, h4⟩ := rxsK_true r h2
    exact ⟨_, by simp only [resVs, h1, h3], h4⟩
noncomputable def resK (res : List RX) (fr : List Value) (t : HT) (K : Value → Bool) : Bool := rxsK res fr t fun vs => K (tupV vs)
theorem resK_true {n : Nat} {t : HT} {H : AHeap} (r : Rp n t H) {res : List RX} {fr : List Value} {K : Value → Bool} (h : resK res fr t K = true) : ∃ v, resO res fr H = some v ∧ K v = true := by
  obtain ⟨us, h1, h2⟩ := rxsK_true r h
  exact ⟨_, by simp only [resO, h1, Option.map_some], h2⟩

abbrev EK := Exit → List Value → Nat → HT → Bool
noncomputable def callE (T : FT) (rec : ACode → List Value → Nat → HT → EK → Bool) : Caller := fun f xs n t K => T.find f fun ef => asT (Nat.beq xs.length ef.na) (initK ef.sl xs fun fr => rec ef.body fr n t fun e fr n t => match e with
  | .normal => resK ef.res fr t fun v => K v n t
  | .ret => resK ef.res fr t fun v => K v n t
  | _ => false)
noncomputable def seqK (ihb : List Value → Nat → HT → EK → Bool) (K : EK) : EK := fun e fr n t => match e with
  | .normal => ihb fr n t K
  | e => K e fr n t
noncomputable def blockK (id : Nat) (K : EK) : EK := fun e fr n t => match e with
  | .exit id' => Bool.rec (motive := fun _ => Bool) (K (.exit id') fr n t) (K .normal fr n t) (Nat.beq id' id)
  | e => K e fr n t
noncomputable def condK (v : Value) (a b : Bool) : Bool := match v with
  | .bool t => Bool.rec (motive := fun _ => Bool) b a t
  | _ => false
noncomputable def runS (T : FT) (rec : ACode → List Value → Nat → HT → EK → Bool) (c : ACode) : List Value → Nat → HT → EK → Bool :=
  ACode.rec (motive := fun _ => List Value → Nat → HT → EK → Bool)
    (fun fr n t K => K .normal fr n t)
    (fun ops fr n t K => runOps (callE T rec) ops fr [] n t fun fr n t => K .normal fr n t)
    (fun ops fr n t K => runD (callE T rec) ops fr [] n t [] fun fr n t => K .normal fr n t)
    (fun _ _ iha ihb fr n t K => iha fr n t (seqK ihb K))
    (fun c _ _ iht ihe fr n t K => evX c fr [] fun v => condK v (iht fr n t K) (ihe fr n t K))
    (fun id _ ih fr n t K => ih fr n t (blockK id K))
    (fun c ih fr n t K => ih fr n t (seqK (rec (.loop c)) K))
    (fun id fr n t K => K (.exit id) fr n t)
    (fun fr n t K => K .ret fr n t) c
noncomputable def run (T : FT) (fuel : Nat) : ACode → List Value → Nat → HT → EK → Bool :=
  Nat.rec (motive := fun _ => ACode → List Value → Nat → HT → EK → Bool) (fun _ _ _ _ _ => false) (fun _ ih => runS T ih) fuel

def QP (K : EK) : AQ := fun e fr H => ∃ n t, Rp n t H ∧ K e fr n t = true

theorem QP_seq {P : Program} {ng : Nat} {c : ACode} {K : EK} {ihb : List Value → Nat → HT → EK → Bool} (hb : ∀ fr n t, ihb fr n t K = true → ∀ H, Rp n t H → W P ng c (QP K) fr H) (e : Exit) (fr : List Value) (H : AHeap) (h : QP (seqK ihb K) e fr H) : AQ.andThen (QP K) (W P ng c (QP K)) e fr H := by
  obtain ⟨n, t, r, h⟩ := h
  cases e with
  | normal => exact hb fr n t h H r
  | exit id => exact ⟨n, t, r, h⟩
  | ret => exact ⟨n, t, r, h⟩
  | goto l => exact ⟨n, t, r, h⟩
  | panic ch => exact ⟨n, t, r, h⟩
  | outgrown => exact ⟨n, t, r, h⟩

theorem callE_ok {P : Program} {ng : Nat} {T : FT} (hT : T.ok P ng) {rec : ACode → List Value → Nat → HT → EK → Bool} (hr : ∀ c fr n t K, rec c fr n t K = true → ∀ H, Rp n t H → W P ng c (QP K) fr H) : CallOK P ng (callE T rec) := by
  intro f xs n t K h H r
  obtain ⟨ef, ⟨af, h1, h2, h3, h4, h5⟩, h6⟩ := FT.find_true hT h
  obtain ⟨h7, h8⟩ := asT_true h6
  have hlen := Nat.eq_of_beq_eq_true h7
  rw [initK_eq] at h8
  have hw := hr _ _ _ _ _ h8 H r
  rw [← h4] at hw
  have hw2 := W_simp af.body hw
  refine walk h1 (by rw [hlen]; exact h5) ?_
  rw [h2]
  refine W_mono ?_ hw2
  rintro e fr H' ⟨n', t', r', h'⟩
  cases e with
  | normal => obtain ⟨v, h9, h10⟩ := resK_true r' h'; rw [h3]; exact ⟨v, h9, n', t', r', h10⟩
  | ret => obtain ⟨v, h9, h10⟩ := resK_true r' h'; rw [h3]; exact ⟨v, h9, n', t', r', h10⟩
  | exit id => cases h'
  | goto l => cases h'
  | panic ch => cases h'
  | outgrown => cases h'

theorem W_again {P : Program} {ng : Nat} {c : ACode} {Q : AQ} {fr : List Value} {H : AHeap} (h : W P ng c (Q.andThen (W P ng (.loop c) Q)) fr H) : W P ng (.loop c) Q fr H := by
  obtain ⟨e, fr1, H1, h1, h2⟩ := W_out c h
  by_cases he : e = .normal
  · subst he
    obtain ⟨I1, n1, g0, gs⟩ : ∃ (I : Nat → List Value → AHeap → Prop) (n : Nat), I n fr1 H1 ∧ ∀ k fr H, I k fr H → W P ng c (Q.andThen fun fr H => ∃ k', k' < k ∧ I k' fr H) fr H := h1
    refine ⟨fun k f h => (k = n1 + 1 ∧ f = fr ∧ h = H) ∨ (k ≤ n1 ∧ I1 k f h), n1 + 1, .inl ⟨rfl, rfl, rfl⟩, ?_⟩
    rintro k f h (⟨rfl, rfl, rfl⟩ | ⟨hk1, hI1⟩)
    · refine W_mono ?_ h2
      rintro e' fr' H' ⟨rfl, rfl, rfl⟩
      exact ⟨n1, by omega, .inr ⟨Nat.le_refl _, g0⟩⟩
    · refine W_mono ?_ (gs k f h hI1)
      intro e' fr' H' hh
      cases e' with
      | normal => obtain ⟨k2, a, b⟩ := hh; exact ⟨k2, a, .inr ⟨by omega, b⟩⟩
      | exit id => exact hh
      | ret => exact hh
      | goto l => exact hh
      | panic ch => exact hh
      | outgrown => exact hh
  · refine ⟨fun k f h => f = fr ∧ h = H, 0, ⟨rfl, rfl⟩, ?_⟩
    rintro k f h ⟨rfl, rfl⟩
    refine W_mono ?_ h2
    rintro e' fr' H' ⟨rfl, rfl, rfl⟩
    cases e' <;> first | exact absurd rfl he | exact h1

theorem runS_sound {P : Program} {ng : Nat} {T : FT} (hT : T.ok P ng) {rec : ACode → List Value → Nat → HT → EK → Bool} (hr : ∀ c fr n t K, rec c fr n t K = true → ∀ H, Rp n t H → W P ng c (QP K) fr H) :
    ∀ c fr n t K, runS T rec c fr n t K = true → ∀ H, Rp n t H → W P ng c (QP K) fr H := by
  have hcall := callE_ok hT hr
  intro c
  induction c with
  | skip => intro fr n t K h H r; exact ⟨n, t, r, h⟩
  | reg ops => intro fr n t K h H r; exact runOps_sound hcall (K := fun fr n t => K .normal fr n t) h r
  | dreg ops => intro fr n t K h H r; exact runD_sound hcall (K := fun fr n t => K .normal fr n t) h .nil r
  | seq a b iha ihb =>
    intro fr n t K h H r
    show W P ng a (AQ.andThen (QP K) (W P ng b (QP K))) fr H
    exact W_mono (QP_seq (fun fr n t h H r => ihb fr n t K h H r)) (iha fr n t _ h H r)
  | cond c a b iha ihb =>
    intro fr n t K h H r
    have e : runS T rec (.cond c a b) fr n t K = evX c fr [] fun v => condK v (runS T rec a fr n t K) (runS T rec b fr n t K) := rfl
    rw [e, evX_eq] at h
    simp only [W]
    unfold condK at h
    split at h
    · rename_i tt ht
      rw [ht]
      cases tt
      · exact ihb fr n t K h H r
      · exact iha fr n t K h H r
    · cases h
  | block id c ih =>
    intro fr n t K h H r
    show W P ng c (AQ.inBlock (QP K) id) fr H
    refine W_mono ?_ (ih fr n t _ h H r)
    rintro e fr' H' ⟨n', t', r', h'⟩
    cases e with
    | exit id' =>
      simp only [blockK] at h'
      simp only [AQ.inBlock]
      cases e : Nat.beq id' id
      · rw [e] at h'
        rw [if_neg (fun hh => by subst hh; rw [Nat.beq_refl] at e; cases e)]
        exact ⟨n', t', r', h'⟩
      · rw [e] at h'
        rw [if_pos (Nat.eq_of_beq_eq_true e)]
        exact ⟨n', t', r', h'⟩
    | normal => exact ⟨n', t', r', h'⟩
    | ret => exact ⟨n', t', r', h'⟩
    | goto l => exact ⟨n', t', r', h'⟩
    | panic ch => exact ⟨n', t', r', h'⟩
    | outgrown => exact ⟨n', t', r', h'⟩
  | loop c ih =>
    intro fr n t K h H r
    exact W_again (W_mono (QP_seq (c := .loop c) (fun fr n t h H r => hr (.loop c) fr n t K h H r)) (ih fr n t _ h H r))
  | exit id => intro fr n t K h H r; exact ⟨n, t, r, h⟩
  | ret => intro fr n t K h H r; exact ⟨n, t, r, h⟩

theorem run_sound {P : Program} {ng : Nat} {T : FT} (hT : T.ok P ng) : ∀ (fuel : Nat) (c : ACode) (fr : List Value) (n : Nat) (t : HT) (K : EK), run T fuel c fr n t K = true → ∀ H, Rp n t H → W P ng c (QP K) fr H
  | 0, c, fr, n, t, K, h => by cases h
  | m + 1, c, fr, n, t, K, h => runS_sound hT (rec := run T m) (run_sound hT m) c fr n t K h

/-- A closed call, worked out. -/
noncomputable def runF (T : FT) (fuel : Nat) (f : FuncId) (xs : List Value) (n : Nat) (t : HT) (K : CK) : Bool := callE T (run T fuel) f xs n t K
theorem runF_sound {P : Program} {ng : Nat} {T : FT} (hT : T.ok P ng) {fuel : Nat} {f : FuncId} {xs : List Value} {n : Nat} {t : HT} {K : CK} (h : runF T fuel f xs n t K = true) {H : AHeap} (r : Rp n t H) : ∃ v H', ARun P ng f xs H v H' ∧ KP K v H' :=
  callE_ok hT (run_sound hT fuel) f xs n t K h H r

noncomputable def isTrue : CK := fun v _ _ => match v with
  | .bool b => b
  | _ => false
theorem isTrue_spec {v : Value} {H : AHeap} (h : KP isTrue v H) : v = .bool true := by
  obtain ⟨n, t, _, h⟩ := h
  cases v <;> first | (cases h; done) | skip
  rename_i b
  cases b
  · cases h
  · rfl
theorem Rp.empty : Rp 0 .leaf ⟨0, []⟩ := ⟨rfl, fun b => by simp [AHeap.get, HT.look]⟩
theorem HR.empty (w : World) : HR 0 (fun _ => none) (AHeap.get ⟨0, []⟩) w := ⟨fun b i h => (by cases h), fun _ _ _ _ _ _ _ h => (by cases h), fun _ _ h => (by cases h), fun g h => absurd h (Nat.not_lt_zero g)⟩

/-- A law with no arguments and no package-level variables: what its call comes to. -/
theorem closed_calls {P : Program} {T : FT} (hT : T.ok P 0) {fuel : Nat} {f : FuncId} (h : runF T fuel f [] 0 .leaf isTrue = true) (w : World) : Calls P f #[] w fun e w' => e = .returned (.bool true) ∧ Go.RowKit.Below w.heap.size w w' := by
  obtain ⟨v, H', ⟨_, _, h1⟩, h2⟩ := runF_sound hT h Rp.empty
  have hv := isTrue_spec h2
  subst hv
  refine (h1 (fun _ => none) w [] (HR.empty w) .nil).mono ?_
  rintro e w' ⟨v', σ', rfl, k1, k2, k3⟩
  rw [k3.bool_inv]
  exact ⟨rfl, k2.os, k2.tape, k2.output, k2.size, fun k hk => k2.keep k hk (fun b i o hb => by cases hb)⟩

end Go.AM
