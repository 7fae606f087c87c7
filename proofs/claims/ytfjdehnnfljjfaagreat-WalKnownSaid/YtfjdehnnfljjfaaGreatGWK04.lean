/- Part of the proof. -/
import Derived.Test.YtfjdehnnfljjfaaGreatGWK03
import Derived.Laws.Externs
set_option linter.unusedSimpArgs false
set_option linter.unusedVariables false
set_option linter.unusedSimpArgs false
set_option linter.unusedVariables false
namespace Go.AM
namespace Ev
variable {RT : List RDef}
abbrev YC := Nat → List Value → Nat → HT → CK → Bool
noncomputable def stepX (call : Caller) (yc : YC) (op : AOp AX) (fr tm : List Value) (n : Nat) (t : HT) (K : CK) : Bool := match op with
  | .mov x => evX x fr tm fun v => K v n t
  | .pick c a b => evX c fr tm fun c => evX a fr tm fun a => evX b fr tm fun b => stepT (.pick c a b) n t K
  | .new e s z => stepT (.new e s z) n t K
  | .box e s x => evX x fr tm fun x => stepT (.box e s x) n t K
  | .build z ps => evPs ps fr tm fun ps => stepT (.build z ps) n t K
  | .bslice e s m z ps => evPs ps fr tm fun ps => stepT (.bslice e s m z ps) n t K
  | .load1 x => evX x fr tm fun x => stepT (.load1 x) n t K
  | .loadn m x => evX x fr tm fun x => stepT (.loadn m x) n t K
  | .store1 a x => evX a fr tm fun a => evX x fr tm fun x => stepT (.store1 a x) n t K
  | .storen m a x => evX a fr tm fun a => evX x fr tm fun x => stepT (.storen m a x) n t K
  | .nilck x => evX x fr tm fun x => stepT (.nilck x) n t K
  | .bin op x y => evX x fr tm fun x => evX y fr tm fun y => binT op x y fun v => K v n t
  | .eqv k m x y => evX x fr tm fun x => evX y fr tm fun y => stepT (.eqv k m x y) n t K
  | .un op x => evX x fr tm fun x => stepT (.un op x) n t K
  | .i2i k x => evX x fr tm fun x => stepT (.i2i k x) n t K
  | .s2s x => evX x fr tm fun x => stepT (.s2s x) n t K
  | .s2b e x => evX x fr tm fun x => stepT (.s2b e x) n t K
  | .b2s x => evX x fr tm fun x => stepT (.b2s x) n t K
  | .iface u x => evX x fr tm fun x => K (.iface u x) n t
  | .mkfn fn xs ys => evXs xs fr tm fun xs => evXs ys fr tm fun ys => stepT (.mkfn fn xs ys) n t K
  | .mksl e s b z l c => evX l fr tm fun l => evX c fr tm fun c => stepT (.mksl e s b z l c) n t K
  | .slstr x lo hi => evX x fr tm fun x => evO lo fr tm fun lo => evO hi fr tm fun hi => stepT (.slstr x lo hi) n t K
  | .slsl s x lo hi mx => evX x fr tm fun x => evO lo fr tm fun lo => evO hi fr tm fun hi => evO mx fr tm fun mx => stepT (.slsl s x lo hi mx) n t K
  | .faddr o x => evX x fr tm fun x => stepT (.faddr o x) n t K
  | .fld1 o x => evX x fr tm fun x => stepT (.fld1 o x) n t K
  | .fldn o m x => evX x fr tm fun x => stepT (.fldn o m x) n t K
  | .iaddr s x i => evX x fr tm fun x => evX i fr tm fun i => stepT (.iaddr s x i) n t K
  | .idxs x i => evX x fr tm fun x => evX i fr tm fun i => stepT (.idxs x i) n t K
  | .assert u z ok x => evX x fr tm fun x => stepT (.assert u z ok x) n t K
  | .extract x i => evX x fr tm fun x => stepT (.extract x i) n t K
  | .len s x => evX x fr tm fun x => stepT (.len s x) n t K
  | .app e s b x y => evX x fr tm fun x => evX y fr tm fun y => stepT (.app e s b x y) n t K
  | .mark x => evX x fr tm fun x => stepT (.mark x) n t K
  | .iaddrp s m x i => evX x fr tm fun x => evX i fr tm fun i => stepT (.iaddrp s m x i) n t K
  | .idxa a s m x i => evX x fr tm fun x => evX i fr tm fun i => stepT (.idxa a s m x i) n t K
  | .slarr s m x lo hi mx => evX x fr tm fun x => evO lo fr tm fun lo => evO hi fr tm fun hi => evO mx fr tm fun mx => stepT (.slarr s m x lo hi mx) n t K
  | .eqs cs m x y => evX x fr tm fun x => evX y fr tm fun y => stepT (.eqs cs m x y) n t K
  | .mm m x y => evX x fr tm fun x => evX y fr tm fun y => stepT (.mm m x y) n t K
  | .i2str x => evX x fr tm fun x => stepT (.i2str x) n t K
  | .rng x => evX x fr tm fun x => stepT (.rng x) n t K
  | .next x => evX x fr tm fun x => stepT (.next x) n t K
  | .copy s d x => evX d fr tm fun d => evX x fr tm fun x => stepT (.copy s d x) n t K
  | .clr s z x => evX x fr tm fun x => stepT (.clr s z x) n t K
  | .apps e b x y => evX x fr tm fun x => evX y fr tm fun y => stepT (.apps e b x y) n t K
  | .callf f xs => evXs xs fr tm fun xs => call f xs n t K
  | .callv f xs => evX f fr tm fun f => evXs xs fr tm fun xs => match f with
    | .func (.func g) first cap => call g (first.toList ++ xs ++ cap.toList) n t K
    | .chan (some b) => yc b xs n t K
    | _ => false
  | .mm4 m x y z w => evX x fr tm fun x => evX y fr tm fun y => evX z fr tm fun z => evX w fr tm fun w => stepT (.mm4 m x y z w) n t K
  | .mkmap => stepT .mkmap n t K
  | .mget kk z ok m k => evX m fr tm fun m => evX k fr tm fun k => stepT (.mget kk z ok m k) n t K
  | .mset kk m k x => evX m fr tm fun m => evX k fr tm fun k => evX x fr tm fun x => stepT (.mset kk m k x) n t K
  | .cap x => evX x fr tm fun x => stepT (.cap x) n t K
  | .inv .. => false
  | .appz e s b z x y => evX x fr tm fun x => evX y fr tm fun y => stepT (.appz e s b z x y) n t K
  | .bad => false
def CallOK (RT : List RDef) (P : Program) (ng : Nat) (call : Caller) : Prop := ∀ f xs n t K, call f xs n t K = true → ∀ H, Rp RT n t H → ∃ v H', ARun P ng f xs H v H' ∧ KP RT K v H'
def YOK (RT : List RDef) (P : Program) (ng : Nat) (yc : YC) : Prop := ∀ b xs n t K, yc b xs n t K = true → ∀ H, Rp RT n t H → ∃ v H', AYield P ng b xs H v H' ∧ KP RT K v H'
theorem stepX_sound {P : Program} {ng : Nat} {call : Caller} {yc : YC} (hc : CallOK RT P ng call) (hy : YOK RT P ng yc) {op : AOp AX} {fr tm : List Value} {n : Nat} {t : HT} {K : CK} (h : stepX call yc op fr tm n t K = true) {H : AHeap} (r : Rp RT n t H) :
    stepA P ng (op.map (AX.ev fr tm)) H (KP RT K) := by
  have fin : ∀ {o : AOp Value}, stepT o n t K = true → stepA P ng o H (KP RT K) := by
    intro o ho
    obtain ⟨v, H', h1, h2⟩ := stepT_sound r ho
    exact stepA_of h1 h2
  cases op <;> simp only [stepX, evX_eq, evXs_eq, evO_eq, evPs_eq] at h <;> simp only [AOp.map] <;> try exact fin h
  case callf f xs => exact hc _ _ _ _ _ h H r
  case callv f xs =>
    simp only [stepA]
    split at h
    · rename_i g first cap hf
      rw [hf]
      exact hc _ _ _ _ _ h H r
    · rename_i b hf
      rw [hf]
      exact hy _ _ _ _ _ h H r
    · cases h
noncomputable def runOps (call : Caller) (yc : YC) (ops : List AOper) : List Value → List Value → Nat → HT → FK → Bool :=
  List.rec (motive := fun _ => List Value → List Value → Nat → HT → FK → Bool) (fun fr _ n t K => K fr n t)
    (fun o _ ih fr tm n t K => wantK o.g fr tm fun b => Bool.rec (motive := fun _ => Bool)
      (dstK o.dst undef fr tm fun fr tm => ih fr tm n t K)
      (stepX call yc o.op fr tm n t fun v n t => dstK o.dst v fr tm fun fr tm => ih fr tm n t K) b) ops
theorem runOps_cons (call : Caller) (yc : YC) (o : AOper) (l : List AOper) (fr tm : List Value) (n : Nat) (t : HT) (K : FK) : runOps call yc (o :: l) fr tm n t K = wantK o.g fr tm fun b => Bool.rec (motive := fun _ => Bool)
      (dstK o.dst undef fr tm fun fr tm => runOps call yc l fr tm n t K)
      (stepX call yc o.op fr tm n t fun v n t => dstK o.dst v fr tm fun fr tm => runOps call yc l fr tm n t K) b := rfl
def FP (RT : List RDef) (K : FK) : List Value → AHeap → Prop := fun fr H => ∃ n t, Rp RT n t H ∧ K fr n t = true
theorem runOps_sound {P : Program} {ng : Nat} {call : Caller} {yc : YC} (hc : CallOK RT P ng call) (hy : YOK RT P ng yc) : ∀ {l : List AOper} {fr tm : List Value} {n : Nat} {t : HT} {K : FK}, runOps call yc l fr tm n t K = true → ∀ {H : AHeap}, Rp RT n t H → RW P ng l fr tm H (FP RT K)
  | [], fr, tm, n, t, K, h, H, r => ⟨n, t, r, h⟩
  | o :: l, fr, tm, n, t, K, h, H, r => by
    rw [runOps_cons, wantK_eq] at h
    simp only [RW]
    cases hw : wantA o.g fr tm
    · rw [hw] at h
      rw [dstK_eq] at h
      simp only [Bool.false_eq_true, if_false]
      exact runOps_sound hc hy h r
    · rw [hw] at h
      simp only [if_true]
      refine stepA_mono ?_ (stepX_sound hc hy h r)
      rintro v H' ⟨n', t', r', h'⟩
      simp only [dstK_eq] at h'
      exact runOps_sound hc hy h' r'
theorem keepsT_true {n n' : Nat} {t t' : HT} {H H' : AHeap} (r : Rp RT n t H) (r' : Rp RT n' t' H') : ∀ {l : List Nat}, keepsT l t t' = true → keepsB l H H'
  | [], _ => trivial
  | b :: l, h => by
    obtain ⟨h1, h2⟩ := asT_true h
    obtain ⟨o, h3, h4⟩ := r.getK h1 (fun own st pe L => by rw [HT.getK_spec]; split <;> first | rfl | (rename_i x _; cases x <;> rfl))
    obtain ⟨o', h5, h6⟩ := r'.getK h4
    exact ⟨by rw [h3, h5, aoEq_true h6], keepsT_true r r' h2⟩
inductive TrR RT : List TT → List TE → Prop
  | nil : TrR RT [] []
  | cons {e : TT} {x : TE} {l : List TT} {m : List TE} (hk : x.k = e.k) (hb : x.bs = e.bs) (h1 : Rp RT e.n e.t x.H) (h2 : ∃ n', Rp RT n' e.t' x.H') (h : TrR RT l m) : TrR RT (e :: l) (x :: m)
theorem TrR.snoc {l : List TT} {m : List TE} (h : TrR RT l m) {e : TT} {x : TE} (hk : x.k = e.k) (hb : x.bs = e.bs) (h1 : Rp RT e.n e.t x.H) (h2 : ∃ n', Rp RT n' e.t' x.H') : TrR RT (l ++ [e]) (m ++ [x]) := by
  induction h with
  | nil => exact .cons hk hb h1 h2 .nil
  | cons a b c d _ ih => exact .cons a b c d ih
theorem TrR.get {l : List TT} {m : List TE} (h : TrR RT l m) : ∀ {i : Nat} {e : TT}, l[i]? = some e → ∃ x, m[i]? = some x ∧ x.k = e.k ∧ x.bs = e.bs ∧ Rp RT e.n e.t x.H ∧ ∃ n', Rp RT n' e.t' x.H' := by
  induction h with
  | nil => intro i e h; simp at h
  | cons a b c d _ ih =>
    intro i e h
    cases i with
    | zero => simp at h; subst h; exact ⟨_, rfl, a, b, c, d⟩
    | succ i => simp at h; simpa using ih h
theorem oblT_true {k : Nat} {bs : List Nat} {n n' : Nat} {t t' : HT} {H H' : AHeap} (r : Rp RT n t H) (r' : Rp RT n' t' H') {tr : List TT} {tr' : List TE} (ht : TrR RT tr tr') : ∀ {un : List Nat}, oblT k bs t t' tr un = true → oblA k bs H H' tr' un
  | [], _ => trivial
  | i :: un, h => by
    simp only [oblT] at h
    split at h
    · rename_i e he
      obtain ⟨x, h1, h2, h3, h4, n2, h5⟩ := ht.get he
      simp only [oblA, h1]
      split at h
      · rename_i e1
        obtain ⟨a1, a2⟩ := asT_true h
        obtain ⟨a3, a4⟩ := asT_true a2
        rw [Bool.and_eq_true] at e1
        have q1 := Nat.eq_of_beq_eq_true e1.1
        have q2 := Nat.eq_of_beq_eq_true e1.2
        refine ⟨?_, oblT_true r r' ht a4⟩
        rw [if_pos ⟨q1, by rw [h2]; exact q2⟩]
        exact ⟨olderT_true h4.n a1, keepsT_true h4 h5 a3⟩
      · rename_i e1 e2
        obtain ⟨a1, a2⟩ := asT_true h
        rw [Bool.and_eq_true, Bool.or_eq_true] at e2
        have q1 := Nat.eq_of_beq_eq_true e2.1
        refine ⟨?_, oblT_true r r' ht a2⟩
        rw [if_neg (by rw [q1]; simp), if_pos ⟨q1, by rw [h2]; rcases e2.2 with q | q; exact .inl (Nat.eq_of_beq_eq_true q); exact .inr (Nat.eq_of_beq_eq_true q)⟩]
        rw [h3]
        exact keepsT_true r r' a1
      · rename_i e1 e2
        refine ⟨?_, oblT_true r r' ht h⟩
        split
        · rename_i hh
          rw [h2] at hh
          rw [hh.1, hh.2] at e1
          cases e1
        · split
          · rename_i hh
            rw [h2] at hh
            rw [hh.1] at e2
            rcases hh.2 with q | q <;> rw [q] at e2 <;> cases e2
          · trivial
    · cases h
noncomputable def runD (call : Caller) (yc : YC) (ops : List (AOper × List Nat)) : List Value → List Value → Nat → HT → List TT → FK → Bool :=
  List.rec (motive := fun _ => List Value → List Value → Nat → HT → List TT → FK → Bool) (fun fr _ n t _ K => K fr n t)
    (fun o _ ih fr tm n t tr K => wantK o.1.g fr tm fun b => Bool.rec (motive := fun _ => Bool)
      (dstK o.1.dst undef fr tm fun fr' tm' => ih fr' tm' n t (tr ++ [⟨9, [], n, t, t⟩]) K)
      (stepX call yc o.1.op fr tm n t fun v n' t' => asT (oblT (clsA o.1.op) (if clsA o.1.op = 1 then readsA (o.1.op.map (AX.ev fr tm)) else if clsA o.1.op = 2 then [n] else []) t t' tr o.2)
        (dstK o.1.dst v fr tm fun fr' tm' => ih fr' tm' n' t' (tr ++ [⟨clsA o.1.op, (if clsA o.1.op = 1 then readsA (o.1.op.map (AX.ev fr tm)) else if clsA o.1.op = 2 then [n] else []), n, t, t'⟩]) K)) b) ops
theorem runD_cons (call : Caller) (yc : YC) (o : AOper × List Nat) (l : List (AOper × List Nat)) (fr tm : List Value) (n : Nat) (t : HT) (tr : List TT) (K : FK) : runD call yc (o :: l) fr tm n t tr K = wantK o.1.g fr tm fun b => Bool.rec (motive := fun _ => Bool)
      (dstK o.1.dst undef fr tm fun fr' tm' => runD call yc l fr' tm' n t (tr ++ [⟨9, [], n, t, t⟩]) K)
      (stepX call yc o.1.op fr tm n t fun v n' t' => asT (oblT (clsA o.1.op) (if clsA o.1.op = 1 then readsA (o.1.op.map (AX.ev fr tm)) else if clsA o.1.op = 2 then [n] else []) t t' tr o.2)
        (dstK o.1.dst v fr tm fun fr' tm' => runD call yc l fr' tm' n' t' (tr ++ [⟨clsA o.1.op, (if clsA o.1.op = 1 then readsA (o.1.op.map (AX.ev fr tm)) else if clsA o.1.op = 2 then [n] else []), n, t, t'⟩]) K)) b := rfl
theorem runD_sound {P : Program} {ng : Nat} {call : Caller} {yc : YC} (hc : CallOK RT P ng call) (hy : YOK RT P ng yc) : ∀ {l : List (AOper × List Nat)} {fr tm : List Value} {n : Nat} {t : HT} {tr : List TT} {tr' : List TE} {K : FK}, runD call yc l fr tm n t tr K = true → TrR RT tr tr' → ∀ {H : AHeap}, Rp RT n t H → RD P ng l fr tm H tr' (FP RT K)
  | [], fr, tm, n, t, tr, tr', K, h, _, H, r => ⟨n, t, r, h⟩
  | (o, un) :: l, fr, tm, n, t, tr, tr', K, h, ht, H, r => by
    rw [runD_cons, wantK_eq] at h
    simp only [RD]
    cases hw : wantA o.g fr tm
    · simp only [hw] at h
      rw [dstK_eq] at h
      simp only [Bool.false_eq_true, if_false]
      exact runD_sound hc hy h (ht.snoc rfl rfl r ⟨n, r⟩) r
    · simp only [hw] at h
      simp only [if_true]
      refine stepA_mono ?_ (stepX_sound hc hy h r)
      rintro v H' ⟨n', t', r', h'⟩
      obtain ⟨h1, h2⟩ := asT_true h'
      rw [dstK_eq] at h2
      have e : touchA (o.op.map (AX.ev fr tm)) H = (if clsA o.op = 1 then readsA (o.op.map (AX.ev fr tm)) else if clsA o.op = 2 then [n] else []) := by
        unfold touchA
        rw [cls_map, r.n]
      rw [e]
      exact ⟨oblT_true r r' ht h1, runD_sound hc hy h2 (ht.snoc rfl rfl r ⟨n', r'⟩) r'⟩
theorem cell1K_true {n : Nat} {t : HT} {H : AHeap} (r : Rp RT n t H) {v : Value} {K : Value → Bool} (h : cell1K v t K = true) : ∃ u, cell1 v H = some u ∧ K u = true := by
  unfold cell1K at h
  split at h
  · obtain ⟨o, h1, h2⟩ := r.getK h
    split at h2
    · rw [nthO_eq] at h2
      split at h2
      · rename_i u hu
        exact ⟨u, by simp only [cell1, cellA, h1]; exact hu, h2⟩
      · cases h2
    · cases h2
  · cases h
theorem cellnK_true {n m : Nat} {t : HT} {H : AHeap} (r : Rp RT n t H) {v : Value} {K : Value → Bool} (h : cellnK m v t K = true) : ∃ u, celln m v H = some u ∧ K u = true := by
  unfold cellnK at h
  split at h
  · obtain ⟨o, h1, h2⟩ := r.getK h
    split at h2
    · obtain ⟨h3, h4⟩ := asT_true h2
      exact ⟨_, by simp only [celln, rangeA, h1]; rw [if_pos (Nat.le_of_ble_eq_true h3)]; rfl, h4⟩
    · cases h2
  · cases h
theorem rxsK_true {n : Nat} {t : HT} {H : AHeap} (r : Rp RT n t H) {fr : List Value} : ∀ {l : List RX} {K : List Value → Bool}, rxsK l fr t K = true → ∃ us, resVs fr H l = some us ∧ K us = true
  | [], K, h => ⟨[], rfl, h⟩
  | x :: l, K, h => by
    have h' : rxK x fr t (fun v => rxsK l fr t fun vs => K (v :: vs)) = true := h
    have : ∃ v, x.get fr H = some v ∧ rxsK l fr t (fun vs => K (v :: vs)) = true := by
      cases x with
      | t i => simp only [rxK, nthK_eq] at h'; exact ⟨_, rfl, h'⟩
      | c1 i => simp only [rxK, nthK_eq] at h'; exact cell1K_true r h'
      | cn m i => simp only [rxK, nthK_eq] at h'; exact cellnK_true r h'
    obtain ⟨v, h1, h2⟩ := this
    obtain ⟨us, h3, h4⟩ := rxsK_true r h2
    exact ⟨_, by simp only [resVs, h1, h3], h4⟩
theorem resK_true {n : Nat} {t : HT} {H : AHeap} (r : Rp RT n t H) {res : List RX} {fr : List Value} {K : Value → Bool} (h : resK res fr t K = true) : ∃ v, resO res fr H = some v ∧ K v = true := by
  obtain ⟨us, h1, h2⟩ := rxsK_true r h
  exact ⟨_, by simp only [resO, h1, Option.map_some], h2⟩
noncomputable def rfK (RT : List RDef) : Nat → (RDef → Bool) → Bool :=
  List.rec (motive := fun _ => Nat → (RDef → Bool) → Bool) (fun _ _ => false) (fun d _ ih r K => Nat.rec (motive := fun _ => Bool) (K d) (fun m _ => ih m K) r) RT
theorem rfK_true : ∀ {RT : List RDef} {r : Nat} {K : RDef → Bool}, rfK RT r K = true → ∃ d, RT[r]? = some d ∧ K d = true
  | [], _, _, h => by cases h
  | d :: RT, 0, K, h => ⟨d, rfl, h⟩
  | d :: RT, r + 1, K, h => by
    obtain ⟨x, h1, h2⟩ := rfK_true (RT := RT) (r := r) (K := K) h
    exact ⟨x, by simpa using h1, h2⟩
noncomputable def setPsK (sl : List Nat) : List Nat → List Value → List Value → (List Value → Bool) → Bool
  | [], fr, _, K => K fr
  | _ :: _, fr, [], K => K fr
  | p :: ps, fr, v :: vs, K => match posOf sl p with
    | some i => updK v fr i fun fr => setPsK sl ps fr vs K
    | none => setPsK sl ps fr vs K
theorem setPsK_eq (sl : List Nat) : ∀ (ps : List Nat) (fr vs : List Value) (K : List Value → Bool), setPsK sl ps fr vs K = K (setPs sl fr ps vs)
  | [], fr, _, K => by simp only [setPsK, setPs]
  | _ :: _, fr, [], K => by simp only [setPsK, setPs]
  | p :: ps, fr, v :: vs, K => by
    simp only [setPsK, setPs]
    split
    · rename_i i hi; rw [updK_eq, setPsK_eq sl ps, hi]
    · rename_i hi; rw [setPsK_eq sl ps, hi]
def noRA : ACode → Bool
  | .seq a b => noRA a && noRA b
  | .cond _ a b => noRA a && noRA b
  | .block _ a => noRA a
  | .loop a => noRA a
  | .rangeF .. => false
  | _ => true
def decC (RT : List RDef) : ACode → ACode
  | .seq a b => .seq (decC RT a) (decC RT b)
  | .cond c a b => .cond c (decC RT a) (decC RT b)
  | .block id a => .block id (decC RT a)
  | .loop a => .loop (decC RT a)
  | .rangeF g r sl ps a b => match RT[r]? with
    | some d => .rangeF g d.N d.sl d.ps d.assign d.body
    | none => .rangeF g r sl ps a b
  | c => c
theorem decC_no : ∀ {c : ACode}, noRA c = true → decC RT c = c := by
  intro c
  induction c with
  | seq a b ia ib => intro h; simp only [noRA, Bool.and_eq_true] at h; simp only [decC, ia h.1, ib h.2]
  | cond c a b ia ib => intro h; simp only [noRA, Bool.and_eq_true] at h; simp only [decC, ia h.1, ib h.2]
  | block id a ia => intro h; simp only [noRA] at h; simp only [decC, ia h]
  | loop a ia => intro h; simp only [noRA] at h; simp only [decC, ia h]
  | rangeF => intro h; cases h
  | _ => intro _; rfl
def nrf : ACode → Nat
  | .seq a b => nrf a + nrf b
  | .cond _ a b => nrf a + nrf b
  | .block _ a => nrf a
  | .loop a => nrf a
  | .rangeF .. => 1
  | _ => 0
def encC : ACode → Nat → ACode
  | .seq a b, r => .seq (encC a r) (encC b (r + nrf a))
  | .cond c a b, r => .cond c (encC a r) (encC b (r + nrf a))
  | .block id a, r => .block id (encC a r)
  | .loop a, r => .loop (encC a r)
  | .rangeF g _ _ _ _ _, r => .rangeF g r [] #[] .skip .skip
  | c, _ => c
def RTok (P : Program) (ng : Nat) (RT : List RDef) : Prop := ∀ d ∈ RT, compC P ng d.N d.sl d.assign = some d.aa ∧ compC P ng d.N d.sl d.body = some d.ab ∧ (noRF d.assign && noRF d.body) = true ∧ (nodupB d.sl && d.sl.all (· < d.N)) = true ∧ noRA d.aa = true ∧ noRA d.ab = true
abbrev HF := List Value → Nat → HT → CK → Bool
def HFok (RT : List RDef) (P : Program) (ng k : Nat) (h : HF) : Prop := ∀ xs n t K, h xs n t K = true → ∀ H, Rp RT n t H → ∃ v H', ARun P ng k xs H v H' ∧ KP RT K v H'
theorem HFok.of {P : Program} {ng k : Nat} {h : HF} (hk : ∀ xs n t K, h xs n t K = true → ∀ H, Rp RT n t H → ∃ v, ARun P ng k xs H v H ∧ K v n t = true) : HFok RT P ng k h := fun xs n t K h1 H r => by
  obtain ⟨v, h2, h3⟩ := hk xs n t K h1 H r
  exact ⟨v, H, h2, n, t, r, h3⟩
def EFok (RT : List RDef) (P : Program) (ng k : Nat) (f : EF) : Prop := ∃ af, compF P ng f.sl k = some af ∧ af.sl = f.sl ∧ af.res = f.res ∧ (af.body = decC RT f.body ∨ simpC af.body = decC RT f.body) ∧ argsOK P k f.na = true
theorem ok_sf {P : Program} {ng k na : Nat} {sl : List Nat} {af : AFunc} (h : compF P ng sl k = some af) (hs : af.sl = sl) (ha : argsOK P k na = true) (hn : noRA (simpC af.body) = true := by kernel_rfl) : EFok RT P ng k ⟨na, af.sl, af.res, simpC af.body⟩ := by
  subst hs
  exact ⟨af, h, rfl, rfl, .inr (decC_no hn).symm, ha⟩
theorem ok_rf {P : Program} {ng k na : Nat} {sl : List Nat} {af : AFunc} {r : Nat} (h : compF P ng sl k = some af) (hs : af.sl = sl) (ha : argsOK P k na = true) (hn : decC RT (encC af.body r) = af.body) : EFok RT P ng k ⟨na, af.sl, af.res, encC af.body r⟩ := by
  subst hs
  exact ⟨af, h, rfl, rfl, .inl hn.symm, ha⟩
inductive FT
  | leaf
  | node (k : Nat) (f : EF) (l r : FT)
  | hook (k : Nat) (h : HF) (l r : FT)
noncomputable def FT.find (T : FT) (k : Nat) (K : EF → Bool) (KH : HF → Bool) : Bool :=
  FT.rec (motive := fun _ => Bool) false (fun k' f _ _ l r => Bool.rec (motive := fun _ => Bool) (Bool.rec (motive := fun _ => Bool) r l (Nat.ble k k')) (K f) (Nat.beq k k'))
    (fun k' h _ _ l r => Bool.rec (motive := fun _ => Bool) (Bool.rec (motive := fun _ => Bool) r l (Nat.ble k k')) (KH h) (Nat.beq k k')) T
def FT.ok (RT : List RDef) (P : Program) (ng : Nat) : FT → Prop
  | .leaf => True
  | .node k f l r => EFok RT P ng k f ∧ l.ok RT P ng ∧ r.ok RT P ng
  | .hook k h l r => HFok RT P ng k h ∧ l.ok RT P ng ∧ r.ok RT P ng
theorem FT.find_true {P : Program} {ng : Nat} {k : Nat} {K : EF → Bool} {KH : HF → Bool} : ∀ {T : FT}, T.ok RT P ng → T.find k K KH = true → (∃ f, EFok RT P ng k f ∧ K f = true) ∨ ∃ h, HFok RT P ng k h ∧ KH h = true
  | .leaf, _, h => by cases h
  | .node k' f l r, hT, h => by
    have e : (FT.node k' f l r).find k K KH = Bool.rec (motive := fun _ => Bool) (Bool.rec (motive := fun _ => Bool) (r.find k K KH) (l.find k K KH) (Nat.ble k k')) (K f) (Nat.beq k k') := rfl
    rw [e] at h
    cases e1 : Nat.beq k k'
    · rw [e1] at h
      cases e2 : Nat.ble k k'
      · rw [e2] at h; exact FT.find_true hT.2.2 h
      · rw [e2] at h; exact FT.find_true hT.2.1 h
    · rw [e1] at h
      have := Nat.eq_of_beq_eq_true e1
      subst this
      exact .inl ⟨f, hT.1, h⟩
  | .hook k' f l r, hT, h => by
    have e : (FT.hook k' f l r).find k K KH = Bool.rec (motive := fun _ => Bool) (Bool.rec (motive := fun _ => Bool) (r.find k K KH) (l.find k K KH) (Nat.ble k k')) (KH f) (Nat.beq k k') := rfl
    rw [e] at h
    cases e1 : Nat.beq k k'
    · rw [e1] at h
      cases e2 : Nat.ble k k'
      · rw [e2] at h; exact FT.find_true hT.2.2 h
      · rw [e2] at h; exact FT.find_true hT.2.1 h
    · rw [e1] at h
      have := Nat.eq_of_beq_eq_true e1
      subst this
      exact .inr ⟨f, hT.1, h⟩
abbrev Rec := ACode → List Value → Nat → HT → EK → Bool
noncomputable def callE (T : FT) (rec : Rec) : Caller := fun f xs n t K => T.find f (fun ef => asT (Nat.beq xs.length ef.na) (initK ef.sl xs fun fr => rec ef.body fr n t fun e fr n t => match e with
  | .normal => resK ef.res fr t fun v => K v n t
  | .ret => resK ef.res fr t fun v => K v n t
  | _ => false)) (fun h => h xs n t K)
noncomputable def roundK (b : Nat) (K : CK) : EK := fun e _ n t => t.getK b fun ao => match ao with
  | .loop true _ _ L => match e with
    | .normal => t.setK b (.loop true .ready none L) fun t' => K (.bool true) n t'
    | .ret => t.setK b (.loop true .done (some .ret) L) fun t' => K (.bool false) n t'
    | .exit id => t.setK b (.loop true .done (some (.exit id)) L) fun t' => K (.bool false) n t'
    | _ => false
  | _ => false
noncomputable def busyK (rec : Rec) (ab : ACode) (b : Nat) (K : CK) : EK := fun e fr n t => match e with
  | .normal => t.getK b fun ao => match ao with
    | .loop true .ready pe L => t.setK b (.loop true .busy pe L) fun t' => rec ab fr n t' (roundK b K)
    | _ => false
  | _ => false
noncomputable def yieldE (RT : List RDef) (rec : Rec) : YC := fun b xs n t K => t.getK b fun ao => match ao with
  | .loop true .ready pe L => rfK RT L.N fun d => asT (Nat.beq d.ps.size xs.length) (setPsK d.sl d.ps.toList L.fr xs fun fr0 => rec d.aa fr0 n t (busyK rec d.ab b K))
  | _ => false
noncomputable def outK (b : Nat) (fr : List Value) (K : EK) : CK := fun _ n t => t.getK b fun ao => match ao with
  | .loop true st pe _ => match st with
    | .busy => false
    | _ => match pe with
      | none => t.setK b .dead fun t3 => K .normal fr n t3
      | some .ret => t.setK b .dead fun t3 => K .ret fr n t3
      | some (.exit id) => t.setK b .dead fun t3 => K (.exit id) fr n t3
      | _ => false
  | _ => false
noncomputable def rangeE (T : FT) (RT : List RDef) (call : Caller) (g : AX) (ri : Nat) (fr : List Value) (n : Nat) (t : HT) (K : EK) : Bool := evX g fr [] fun v => match v with
  | .func (.func gf) first cap => asT (T.find gf (fun _ => true) (fun _ => false)) (rfK RT ri fun _ => t.setK n (.loop true .ready none ⟨ri, [], fr, #[], .skip, .skip⟩) fun t1 => forceN (n + 1) fun n1 =>
      call gf (first.toList ++ [.chan (some n)] ++ cap.toList) n1 t1 (outK n fr K))
  | _ => false
noncomputable def runS (T : FT) (RT : List RDef) (rec : Rec) (c : ACode) : List Value → Nat → HT → EK → Bool :=
  ACode.rec (motive := fun _ => List Value → Nat → HT → EK → Bool)
    (fun fr n t K => K .normal fr n t)
    (fun ops fr n t K => runOps (callE T rec) (yieldE RT rec) ops fr [] n t fun fr n t => K .normal fr n t)
    (fun ops fr n t K => runD (callE T rec) (yieldE RT rec) ops fr [] n t [] fun fr n t => K .normal fr n t)
    (fun _ _ iha ihb fr n t K => iha fr n t (seqK ihb K))
    (fun c _ _ iht ihe fr n t K => evX c fr [] fun v => condK v (iht fr n t K) (ihe fr n t K))
    (fun id _ ih fr n t K => ih fr n t (blockK id K))
    (fun c ih fr n t K => ih fr n t (seqK (rec (.loop c)) K))
    (fun id fr n t K => K (.exit id) fr n t)
    (fun fr n t K => K .ret fr n t)
    (fun g ri _ _ _ _ => rangeE T RT (callE T rec) g ri) c
noncomputable def run (T : FT) (RT : List RDef) (fuel : Nat) : Rec :=
  Nat.rec (motive := fun _ => Rec) (fun _ _ _ _ _ => false) (fun _ ih => runS T RT ih) fuel
def QP (RT : List RDef) (K : EK) : AQ := fun e fr H => ∃ n t, Rp RT n t H ∧ K e fr n t = true
theorem QP_seq {P : Program} {ng : Nat} {c : ACode} {K : EK} {ihb : List Value → Nat → HT → EK → Bool} (hb : ∀ fr n t, ihb fr n t K = true → ∀ H, Rp RT n t H → W P ng c (QP RT K) fr H) (e : Exit) (fr : List Value) (H : AHeap) (h : QP RT (seqK ihb K) e fr H) : AQ.andThen (QP RT K) (W P ng c (QP RT K)) e fr H := by
  obtain ⟨n, t, r, h⟩ := h
  cases e with
  | normal => exact hb fr n t h H r
  | exit id => exact ⟨n, t, r, h⟩
  | ret => exact ⟨n, t, r, h⟩
  | goto l => exact ⟨n, t, r, h⟩
  | panic ch => exact ⟨n, t, r, h⟩
  | outgrown => exact ⟨n, t, r, h⟩
section
variable {P : Program} {ng : Nat} {T : FT}
def RecOK (RT : List RDef) (P : Program) (ng : Nat) (rec : Rec) : Prop := ∀ c fr n t K, rec c fr n t K = true → ∀ H, Rp RT n t H → W P ng (decC RT c) (QP RT K) fr H
theorem callE_ok (hT : T.ok RT P ng) {rec : Rec} (hr : RecOK RT P ng rec) : CallOK RT P ng (callE T rec) := by
  intro f xs n t K h H r
  rcases FT.find_true hT h with ⟨ef, ⟨af, h1, h2, h3, h4, h5⟩, h6⟩ | ⟨hf, h1, h2⟩
  case inr => exact h1 xs n t K h2 H r
  obtain ⟨h7, h8⟩ := asT_true h6
  have hlen := Nat.eq_of_beq_eq_true h7
  rw [initK_eq] at h8
  have hw := hr _ _ _ _ _ h8 H r
  have hw2 : W P ng af.body (QP RT fun e fr n t => match e with
    | .normal => resK ef.res fr t fun v => K v n t
    | .ret => resK ef.res fr t fun v => K v n t
    | _ => false) (initFr ef.sl xs) H := by
    rcases h4 with h4 | h4
    · rw [h4]; exact hw
    · rw [← h4] at hw; exact W_simp af.body hw
  refine walk h1 (by rw [hlen]; exact h5) ?_
  rw [h2]
  refine W_mono ?_ hw2
  rintro e fr H' ⟨n', t', r', h'⟩
  cases e with
  | normal => obtain ⟨v, h9, h10⟩ := resK_true r' h'; rw [h3]; exact ⟨v, h9, n', t', r', h10⟩
  | ret => obtain ⟨v, h9, h10⟩ := resK_true r' h'; rw [h3]; exact ⟨v, h9, n', t', r', h10⟩
  | exit id => cases h'
  | goto l => cases h'
  | panic ch => cases h'
  | outgrown => cases h'
theorem roundK_ok {b : Nat} {K : CK} (e : Exit) (fr : List Value) (H : AHeap) (h : QP RT (roundK b K) e fr H) : roundQ b (KP RT K) e fr H := by
  obtain ⟨n, t, r, h⟩ := h
  obtain ⟨o, h1, h2⟩ := r.getd h
  split at h2
  · rename_i x y L
    unfold roundQ
    rw [h1]
    simp only [dec]
    have hs : (H.get b).isSome = true := by rw [h1]; rfl
    split at h2
    · obtain ⟨t', h3, h4⟩ := r.setd hs h2; exact ⟨n, t', h4, h3⟩
    · obtain ⟨t', h3, h4⟩ := r.setd hs h2; exact ⟨n, t', h4, h3⟩
    · obtain ⟨t', h3, h4⟩ := r.setd hs h2; exact ⟨n, t', h4, h3⟩
    · cases h2
  · cases h2
theorem yieldE_ok (hR : RTok P ng RT) {rec : Rec} (hr : RecOK RT P ng rec) : YOK RT P ng (yieldE RT rec) := by
  intro b xs n t K h H r
  obtain ⟨o, h1, h2⟩ := r.getd h
  split at h2
  · rename_i pe L
    obtain ⟨d, h3, h4⟩ := rfK_true h2
    obtain ⟨h5, h6⟩ := asT_true h4
    rw [setPsK_eq] at h6
    obtain ⟨q1, q2, q3, q4, q5, q6⟩ := hR d (List.mem_of_getElem? h3)
    have hd : decL RT L = ⟨d.N, d.sl, L.fr, d.ps, d.assign, d.body⟩ := by unfold decL; rw [h3]
    simp only [dec, hd] at h1
    refine yield_of h1 q1 q2 q3 q4 (Nat.eq_of_beq_eq_true h5) ?_
    have hw := hr _ _ _ _ _ h6 H r
    rw [decC_no q5] at hw
    refine W_mono ?_ hw
    rintro e fr1 H1 ⟨n1, t1, r1, h7⟩
    unfold busyK at h7
    split at h7
    · refine ⟨rfl, ?_⟩
      obtain ⟨o1, g1, g2⟩ := r1.getd h7
      split at g2
      · rename_i pe1 L1
        refine ⟨pe1, decL RT L1, g1, ?_⟩
        obtain ⟨t2, g3, g4⟩ := r1.setd (by rw [g1]; rfl) g2
        have hw2 := hr _ _ _ _ _ g3 _ g4
        rw [decC_no q6] at hw2
        exact W_mono (fun e fr H h => roundK_ok e fr H h) hw2
      · cases g2
    · cases h7
  · cases h2
theorem bodied_find (hT : T.ok RT P ng) {g : FuncId} (h : T.find g (fun _ => true) (fun _ => false) = true) : Bodied P g := by
  rcases FT.find_true hT h with ⟨ef, ⟨af, h1, _⟩, _⟩ | ⟨hf, h1, h2⟩
  · unfold compF at h1
    split at h1
    · cases h1
    · rename_i fn hfn
      split at h1
      · cases h1
      · rename_i c hb
        split at h1
        · rename_i hcond
          simp only [Bool.and_eq_true, Bool.not_eq_true'] at hcond
          exact ⟨fn, hfn, by simp [hb], hcond.2⟩
        · cases h1
  · cases h2
theorem outK_ok {b : Nat} {fr : List Value} {K : EK} {v : Value} {H : AHeap} (h : KP RT (outK b fr K) v H) : afterR (QP RT K) fr b H := by
  obtain ⟨n, t, r, h⟩ := h
  obtain ⟨o, h1, h2⟩ := r.getd h
  split at h2
  · rename_i st pe L
    unfold afterR
    rw [h1]
    simp only [dec]
    have hs : (H.get b).isSome = true := by rw [h1]; rfl
    split at h2
    · cases h2
    · rename_i hst
      refine ⟨hst, ?_⟩
      split at h2
      · obtain ⟨t', h3, h4⟩ := r.set hs h2; exact ⟨n, t', h4, h3⟩
      · obtain ⟨t', h3, h4⟩ := r.set hs h2; exact ⟨n, t', h4, h3⟩
      · obtain ⟨t', h3, h4⟩ := r.set hs h2; exact ⟨n, t', h4, h3⟩
      · cases h2
  · cases h2
theorem rangeE_ok (hT : T.ok RT P ng) {call : Caller} (hc : CallOK RT P ng call) {g : AX} {ri : Nat} {sl : List Nat} {ps : Array Tmp} {a b : Code} {fr : List Value} {n : Nat} {t : HT} {K : EK} (h : rangeE T RT call g ri fr n t K = true) {H : AHeap} (r : Rp RT n t H) : W P ng (decC RT (.rangeF g ri sl ps a b)) (QP RT K) fr H := by
  unfold rangeE at h
  rw [evX_eq] at h
  split at h
  · rename_i gf first cap hg
    obtain ⟨h1, h2⟩ := asT_true h
    obtain ⟨d, h3, h4⟩ := rfK_true h2
    obtain ⟨t1, h5, h6⟩ := r.allocd h4
    rw [forceN_eq] at h5
    simp only [decC, h3]
    refine W_rangeF hg (bodied_find hT h1) ?_
    have hn := r.n
    have hd : dec RT (.loop true .ready none ⟨ri, [], fr, #[], .skip, .skip⟩) = .loop true .ready none ⟨d.N, d.sl, fr, d.ps, d.assign, d.body⟩ := by
      simp only [dec, decL, h3]
    rw [hd] at h6
    rw [hn]
    obtain ⟨v, H1, h7, h8⟩ := hc _ _ _ _ _ h5 _ h6
    exact ⟨v, H1, h7, outK_ok h8⟩
  · cases h
theorem runS_sound (hT : T.ok RT P ng) (hR : RTok P ng RT) {rec : Rec} (hr : RecOK RT P ng rec) : RecOK RT P ng (runS T RT rec) := by
  have hcall := callE_ok hT hr
  have hy := yieldE_ok hR hr
  intro c
  induction c with
  | skip => intro fr n t K h H r; exact ⟨n, t, r, h⟩
  | reg ops => intro fr n t K h H r; exact runOps_sound hcall hy (K := fun fr n t => K .normal fr n t) h r
  | dreg ops => intro fr n t K h H r; exact runD_sound hcall hy (K := fun fr n t => K .normal fr n t) h .nil r
  | seq a b iha ihb =>
    intro fr n t K h H r
    show W P ng (decC RT a) (AQ.andThen (QP RT K) (W P ng (decC RT b) (QP RT K))) fr H
    exact W_mono (QP_seq (fun fr n t h H r => ihb fr n t K h H r)) (iha fr n t _ h H r)
  | cond c a b iha ihb =>
    intro fr n t K h H r
    have e : runS T RT rec (.cond c a b) fr n t K = evX c fr [] fun v => condK v (runS T RT rec a fr n t K) (runS T RT rec b fr n t K) := rfl
    rw [e, evX_eq] at h
    simp only [decC, W]
    unfold condK at h
    split at h
    · rename_i tt ht
      rw [ht]
      cases tt
      · exact ihb fr n t K h H r
      · exact iha fr n t K h H r
    · cases h
  | block id c ih =>
    intro fr n t K h H r
    show W P ng (decC RT c) (AQ.inBlock (QP RT K) id) fr H
    refine W_mono ?_ (ih fr n t _ h H r)
    rintro e fr' H' ⟨n', t', r', h'⟩
    cases e with
    | exit id' =>
      simp only [blockK] at h'
      simp only [AQ.inBlock]
      cases e : Nat.beq id' id
      · rw [e] at h'
        rw [if_neg (fun hh => by subst hh; rw [Nat.beq_refl] at e; cases e)]
        exact ⟨n', t', r', h'⟩
      · rw [e] at h'
        rw [if_pos (Nat.eq_of_beq_eq_true e)]
        exact ⟨n', t', r', h'⟩
    | normal => exact ⟨n', t', r', h'⟩
    | ret => exact ⟨n', t', r', h'⟩
    | goto l => exact ⟨n', t', r', h'⟩
    | panic ch => exact ⟨n', t', r', h'⟩
    | outgrown => exact ⟨n', t', r', h'⟩
  | loop c ih =>
    intro fr n t K h H r
    exact W_again (W_mono (QP_seq (c := .loop (decC RT c)) (fun fr n t h H r => hr (.loop c) fr n t K h H r)) (ih fr n t _ h H r))
  | exit id => intro fr n t K h H r; exact ⟨n, t, r, h⟩
  | ret => intro fr n t K h H r; exact ⟨n, t, r, h⟩
  | rangeF g N sl ps a b => intro fr n t K h H r; exact rangeE_ok hT hcall h r
theorem run_sound (hT : T.ok RT P ng) (hR : RTok P ng RT) : ∀ (fuel : Nat), RecOK RT P ng (run T RT fuel)
  | 0 => fun c fr n t K h => by cases h
  | m + 1 => runS_sound hT hR (rec := run T RT m) (run_sound hT hR m)
noncomputable def runF (T : FT) (RT : List RDef) (fuel : Nat) (f : FuncId) (xs : List Value) (n : Nat) (t : HT) (K : CK) : Bool := callE T (run T RT fuel) f xs n t K
theorem runF_sound (hT : T.ok RT P ng) (hR : RTok P ng RT) {fuel : Nat} {f : FuncId} {xs : List Value} {n : Nat} {t : HT} {K : CK} (h : runF T RT fuel f xs n t K = true) {H : AHeap} (r : Rp RT n t H) : ∃ v H', ARun P ng f xs H v H' ∧ KP RT K v H' :=
  callE_ok hT (run_sound hT hR fuel) f xs n t K h H r
end
theorem Rp.empty : Rp RT 0 .leaf ⟨0, []⟩ := ⟨rfl, fun b => rfl⟩
theorem closed_any {P : Program} {T : FT} (hT : T.ok RT P 0) (hR : RTok P 0 RT) {fuel : Nat} {f : FuncId} (h : runF T RT fuel f [] 0 .leaf isTrue = true) (H : AHeap) : ARun P 0 f [] H (.bool true) H := by
  obtain ⟨v, H', ⟨h0, _, h1⟩, h2⟩ := runF_sound hT hR h Rp.empty
  obtain ⟨n, t, _, h2⟩ := h2
  have hv : v = .bool true := by
    unfold isTrue at h2
    split at h2
    · cases h2; rfl
    · cases h2
  subst hv
  refine ⟨h0, Nat.le_refl _, fun σ w args' hr ha => ?_⟩
  cases ha
  refine (h1 (fun _ => none) w [] (HR.empty w) .nil).mono ?_
  rintro e w' ⟨v', σ', rfl, k1, k2, k3⟩
  have hk : ∀ k, k < w.heap.size → w'.heap[k]? = w.heap[k]? := fun k hk => k2.keep k hk (fun b i o hb => by cases hb)
  have hsz := k2.size
  refine ⟨v', σ, rfl, ⟨fun b i hb => ?_, hr.inj, fun b i hb => Nat.lt_of_lt_of_le (hr.lt b i hb) hsz, hr.glob⟩, ⟨Sg.le.refl σ, (fun b i h1 h2 => by rw [h1] at h2; cases h2), fun _ _ o' _ a b => ⟨o', a, b⟩, fun _ _ o' _ a b => ⟨o', a, b⟩, fun k a _ => hk k a, hsz, Nat.le_refl _, k2.os, k2.tape, k2.output⟩, ?_⟩
  · obtain ⟨o, a1, a2⟩ := hr.obj b i hb
    exact ⟨o, a1, a2.congr (fun _ => hk _ (hr.lt b i hb))⟩
  · rw [k3.bool_inv]; exact .bool _
end Ev
end Go.AM

set_option linter.unusedSimpArgs false
set_option linter.unusedVariables false
namespace Go.AM
def WR (H : AHeap) (e esz : Nat) (v : Value) (n : Nat) (c : List Value) : Prop :=
  (v = .slice none 0 0 ∧ n = 0 ∧ c = []) ∨ ∃ b k room d, v = slc b 0 n k ∧ n ≤ k ∧ d.length = k * esz ∧ d.take (n * esz) = c ∧ H.get b = some (.cells true room esz d e)
section
variable {H H' : AHeap} {e esz : Nat} {v : Value} {n : Nat} {c : List Value}
theorem AP.wr (h : AP H e esz v n c) : WR H e esz v n c := by
  rcases h with h | ⟨b, room, rfl, h1, h2⟩
  · exact .inl h
  · exact .inr ⟨b, n, room, c, rfl, Nat.le_refl _, h1, by rw [← h1, List.take_length], h2⟩
theorem WR.len (h : WR H e esz v n c) : c.length = n * esz := by
  rcases h with ⟨rfl, rfl, rfl⟩ | ⟨b, k, room, d, rfl, h1, h2, rfl, h4⟩
  · simp
  · have := Nat.mul_le_mul_right esz h1
    rw [List.length_take, h2]; omega
theorem WR.elems (h : WR H e esz v n c) : elemsA H esz v = some c := by
  rcases h with ⟨rfl, rfl, rfl⟩ | ⟨b, k, room, d, rfl, h1, h2, rfl, h4⟩
  · rfl
  · have := Nat.mul_le_mul_right esz h1
    simp only [elemsA, slc, h4]
    rw [if_pos (by omega), List.drop_zero]
theorem WR.shape (h : WR H e esz v n c) : ∃ a k, v = .slice a n k := by
  rcases h with ⟨rfl, rfl, rfl⟩ | ⟨b, k, room, d, rfl, h1, h2, h3, h4⟩
  · exact ⟨_, _, rfl⟩
  · exact ⟨_, _, rfl⟩
theorem WR.is (h : WR H e esz v n c) : isS v = true := by obtain ⟨a, k, rfl⟩ := h.shape; rfl
theorem WR.lenS (h : WR H e esz v n c) : Go.AM.lenS v = n := by obtain ⟨a, k, rfl⟩ := h.shape; rfl
theorem WR.one (h : WR H e esz v n c) : v.oneCell' = true := by obtain ⟨a, k, rfl⟩ := h.shape; rfl
theorem WR.lt (h : WR H e esz v n c) {b : Nat} (hb : blk v = some b) : b < H.n := by
  rcases h with ⟨rfl, rfl, rfl⟩ | ⟨b', k, room, d, rfl, h1, h2, h3, h4⟩
  · cases hb
  · cases hb; exact AHeap.get_lt h4
theorem WR.chg {S : List Nat} (h : WR H e esz v n c) (k : Chg S H H') (hS : ∀ x ∈ blkL v, x ∉ S) : WR H' e esz v n c := by
  rcases h with h | ⟨b, m, room, d, rfl, h1, h2, h3, h4⟩
  · exact .inl h
  · exact .inr ⟨b, m, room, d, rfl, h1, h2, h3, k.at_ h4 (hS b (mem_blkL.2 rfl))⟩
theorem WR.keeps (h : WR H e esz v n c) (k : Keeps H H') : WR H' e esz v n c := h.chg (k.chg []) (by simp)
theorem WR.sl {rows : List (List Value)} (h : WR H e esz v n rows.flatten) (hr : ∀ r ∈ rows, r.length = esz) (hn : n = rows.length) : Sl H esz v rows := by
  obtain ⟨a, k, rfl⟩ := h.shape
  exact ⟨⟨a, k, by rw [hn]⟩, hr, h.elems⟩
theorem WR.app {bytes m : Nat} {news : List Value} (h : WR H e esz v n c) (hm : news.length = m * esz) (hs : (n + m) * bytes ≤ 140737488355328 ∧ n + m ≤ 140737488355328) :
    ∃ v' H', appA H e esz bytes v m news = some (v', H') ∧ WR H' e esz v' (n + m) (c ++ news) ∧ Chg (blkL v) H H' ∧ (blk v' = blk v ∨ blk v' = some H.n) := by
  rcases h with ⟨rfl, rfl, rfl⟩ | ⟨b, k, room, d, rfl, h1, h2, h3, h4⟩
  · obtain ⟨v', H', a, b, d⟩ := AP.app (H := H) (e := e) (esz := esz) (v := .slice none 0 0) (n := 0) (c := []) (.inl ⟨rfl, rfl, rfl⟩) hm hs
    exact ⟨v', H', a, b.wr, d⟩
  · simp only [appA, slc]
    by_cases hm0 : m = 0
    · subst hm0
      have : news = [] := by rw [← List.length_eq_zero_iff]; omega
      subst this
      rw [if_pos rfl]
      exact ⟨_, _, rfl, .inr ⟨b, k, room, d, rfl, h1, h2, by simpa using h3, h4⟩, Chg.refl _ _, .inl rfl⟩
    · have hle := Nat.mul_le_mul_right esz h1
      have hc : c.length = n * esz := by rw [← h3, List.length_take, h2]; omega
      have hnm : (n + m) * esz = n * esz + m * esz := Nat.add_mul _ _ _
      rw [if_neg hm0, if_pos hs]
      simp only [h4, true_and]
      rw [if_pos (show 0 + k * esz ≤ d.length by omega)]
      by_cases hk : n + m ≤ k
      · have hle2 := Nat.mul_le_mul_right esz hk
        rw [if_pos hk]
        simp only [if_true]
        refine ⟨_, _, rfl, .inr ⟨b, k, room, _, rfl, hk, ?_, ?_, AHeap.get_set_same h4 _⟩, Chg.set H (AHeap.get_lt h4) _, .inl rfl⟩
        · rw [List.length_append, List.length_append, List.length_take, List.length_drop, hm]; omega
        · rw [Nat.zero_add, h3, List.take_append_of_le_length (by rw [List.length_append, hc, hm]; omega), List.take_of_length_le (by rw [List.length_append, hc, hm]; omega)]
      · rw [if_neg hk, List.drop_zero, h3]
        have hlen : (c ++ news).length = (n + m) * esz := by rw [List.length_append, hc, hm, Nat.add_mul]
        split
        · exact ⟨_, _, rfl, .inr ⟨H.n, n + m, true, _, rfl, Nat.le_refl _, hlen, by rw [← hlen, List.take_length], AHeap.get_alloc_new H _⟩, (Chg.refl _ _).alloc _, .inr rfl⟩
        · exact ⟨_, _, rfl, .inr ⟨H.n, n + m, true, _, rfl, Nat.le_refl _, hlen, by rw [← hlen, List.take_length], AHeap.get_alloc_new (H.set b .dead) _⟩, (Chg.set H (AHeap.get_lt h4) _).alloc _, .inr rfl⟩
end
section
variable {P : Program} {ng : Nat} {H : AHeap} {KF : List Value → AHeap → Prop} {fr tm : List Value} {tr : List TE} {e esz : Nat} {v : Value} {n : Nat} {c : List Value}
end
end Go.AM

set_option linter.unusedSimpArgs false
set_option linter.unusedVariables false
namespace Go.AM
structure SepH (H K : AHeap) (ts : List Th) : Prop where
  sep : Sep K ts
  k : Keeps H K
  ge : ∀ t ∈ ts, ∀ y ∈ t.F, H.n ≤ y
section
variable {H K K' : AHeap} {t t' a b c d : Th} {r ts : List Th}
theorem SepH.keeps (h : SepH H K ts) (k : Keeps K K') : SepH H K' ts := ⟨h.sep.keeps k, h.k.trans k, h.ge⟩
theorem SepH.upd {l : List Th} (h : SepH H K (l ++ t :: r)) (c : Chg t.F K K') (hp : t'.P K') (hf : ∀ y ∈ t'.F, y ∈ t.F ∨ K.n ≤ y) : SepH H K' (l ++ t' :: r) := by
  refine ⟨h.sep.upd c hp hf, h.k.chg_trans c (fun y hy => h.ge t (by simp) y hy), fun x hx y hy => ?_⟩
  rcases List.mem_append.1 hx with hx | hx
  · exact h.ge x (by simp [hx]) y hy
  · rcases List.mem_cons.1 hx with rfl | hx
    · rcases hf y hy with e | e
      · exact h.ge t (by simp) y e
      · have := h.k.n; omega
    · exact h.ge x (by simp [hx]) y hy
theorem SepH.at_ (h : SepH H K ts) (i : Nat) (hi : ts[i]? = some t) : t.P K := h.sep.get i hi
theorem SepH.apart (h : SepH H K ts) (i j : Nat) (hij : i < j) (hi : ts[i]? = some a) (hj : ts[j]? = some b) {y : Nat} (hy : y ∈ a.F) : y ∉ b.F := h.sep.apart i j hij hi hj y hy
theorem SepH.lt (h : SepH H K ts) (i : Nat) (hi : ts[i]? = some t) {y : Nat} (hy : y ∈ t.F) : y < K.n := t.lt K (h.at_ i hi) y hy
theorem SepH.gei (h : SepH H K ts) (i : Nat) (hi : ts[i]? = some t) {y : Nat} (hy : y ∈ t.F) : H.n ≤ y := h.ge t (List.mem_of_getElem? hi) y hy
theorem SepH.old (h : SepH H K ts) (i : Nat) (hi : ts[i]? = some t) {y : Nat} (hy : y < H.n) : y ∉ t.F := fun hf => by have := h.gei i hi hf; omega
theorem SepH.add (h : SepH H K ts) (k : Keeps K K') (hp : t.P K') (hf : ∀ y ∈ t.F, K.n ≤ y) : SepH H K' (t :: ts) :=
  ⟨h.sep.add k hp hf, h.k.trans k, fun x hx y hy => by
    rcases List.mem_cons.1 hx with rfl | hx
    · have := hf y hy; have := h.k.n; omega
    · exact h.ge x hx y hy⟩
theorem SepH.nil (H : AHeap) : SepH H H [] := ⟨Sep.nil H, Keeps.refl H, by simp⟩
end
end Go.AM

set_option linter.unusedSimpArgs false
set_option linter.unusedVariables false
namespace Go.AM
section
variable {P : Program} {ng : Nat} {H : AHeap} {Q : AQ} {fr tm : List Value}
end
theorem blen (ba : ByteArray) : ba.data.toList.length = ba.size := Array.length_toList
theorem bloop {β : Type} (f : β → UInt8 → β) (ba : ByteArray) : ∀ (i j : Nat) (b : β), j + i = ba.size →
    ByteArray.foldlM.loop (m := _root_.Id) (fun b x => pure (f b x)) ba ba.size (Nat.le_refl _) i j b = (ba.data.toList.drop j).foldl f b := by
  intro i
  induction i with
  | zero =>
    intro j b h
    unfold ByteArray.foldlM.loop
    rw [dif_neg (by omega), List.drop_of_length_le (by rw [blen]; omega)]
    rfl
  | succ i ih =>
    intro j b h
    unfold ByteArray.foldlM.loop
    have hj : j < ba.size := by omega
    rw [dif_pos hj]
    have hl : j < ba.data.toList.length := by rw [blen]; exact hj
    rw [List.drop_eq_getElem_cons hl, List.foldl_cons]
    exact ih (j + 1) _ (by omega)
theorem bfold {β : Type} (f : β → UInt8 → β) (ba : ByteArray) (b : β) : ba.foldl f b = ba.data.toList.foldl f b := by
  unfold ByteArray.foldl ByteArray.foldlM
  rw [dif_pos (Nat.le_refl _)]
  exact bloop f ba ba.size 0 b (by omega)
def cB (c : UInt8) : List UInt8 → Nat
  | [] => 0
  | x :: l => if x = c then cB c l + 1 else cB c l
theorem cB_fold (c : UInt8) : ∀ (l : List UInt8) (n : Int), l.foldl (fun (n : Int) x => if x == c then n + 1 else n) n = n + (cB c l : Int)
  | [], n => by simp [cB]
  | x :: l, n => by
    rw [List.foldl_cons, cB_fold]
    by_cases h : x = c
    · have e : cB c (x :: l) = cB c l + 1 := by simp [cB, h]
      rw [e, if_pos (by simpa using h)]; push_cast; omega
    · have e : cB c (x :: l) = cB c l := by simp [cB, h]
      rw [e, if_neg (by simpa using h)]
end Go.AM

set_option linter.unusedSimpArgs false
set_option linter.unusedVariables false
namespace Go.AM
namespace Ev
variable {RT : List RDef} {P : Program} {ng : Nat}
theorem arun_extH {H : AHeap} {f : FuncId} {fn : Func} {e : Array Value → Sem Value} (hf : P.funcs[f]? = some fn) (hname : (fn.name == "runtime.NumGoroutine") = false) (hb : fn.body.isNone = true) (hn : Extern.findNext fn = none) (he : Extern.find fn = some e)
    {args : List Value} {v : Value} (hv : ∀ σ, VR σ v v) (h : ∀ σ w args', HR ng σ H.get w → VL σ args args' → (e args'.toArray).run P w = .ok v w) : ARun P ng f args H v H := by
  refine ⟨⟨fn, hf⟩, Nat.le_refl _, fun σ w args' hr ha => ?_⟩
  refine .ext v w ?_ ⟨v, σ, rfl, hr, Ext.refl _ _ _ _, hv σ⟩
  rw [run_callFunc_extern hf hname hb hn he, h σ w args' hr ha]
  rfl
theorem run_lbytes {w : World} : ∀ (zs : List Int) (a : Addr) (acc : ByteArray), (∀ (j : Nat) (v : Value), (zs.map (Value.int .u8))[j]? = some v → w.cell? (a.add j) = some v) →
    (Extern.Bytes.loadBytes a zs.length acc).run P w = .ok (zs.foldl (fun r n => r.push (UInt8.ofNat n.toNat)) acc) w
  | [], a, acc, _ => by simp [Extern.Bytes.loadBytes]
  | z :: zs, a, acc, h => by
    have h0 : w.cell? a = some (.int .u8 z) := by
      have := h 0 _ rfl
      simpa [Addr.add] using this
    have ih := run_lbytes zs (a.add 1) (acc.push z.toNat.toUInt8) (fun j v hv => by
      have := h (j + 1) v (by simpa using hv)
      have e : (a.add 1).add j = a.add (j + 1) := by
        unfold Addr.add
        by_cases hj : j = 0
        · subst hj; simp
        · simp [hj]; omega
      rw [e]; exact this)
    simp only [List.length_cons, Extern.Bytes.loadBytes, Sem.run_bind, run_load, h0, Result.andThen]
    exact ih
theorem run_count_slice {σ : Sg} {H : AHeap} {w : World} (hr : HR ng σ H.get w) {a a' : Value} (ha : VR σ a a') {c : List Value} {l : List UInt8} (hel : elemsA H 1 a = some c) (hb : bytesOf c = some l) (ch : Int) :
    (Extern.BytealgCount.count #[a', .int .u8 ch]).run P w = .ok (.int .i64 ((cB ch.toNat.toUInt8 l : Nat) : Int)) w := by
  have key : (Extern.Bytes.bytesOf a').run P w = .ok ⟨l.toArray⟩ w := by
    obtain ⟨zs, rfl, rfl⟩ := bytesOf_some hb
    obtain ⟨x', n, k', l', rfl, _, e3, e4, _, e6⟩ := elemsA_sound hr ha hel
    have := VL.ints_inv e3
    subst this
    rw [Nat.mul_one] at e4
    rcases e6 with ⟨rfl, rfl⟩ | ⟨ad, rfl, hc⟩
    · have : zs = [] := List.eq_nil_of_length_eq_zero (by simpa using e4)
      subst this
      rfl
    · have h2 := run_lbytes (P := P) zs ad .empty hc
      rw [foldl_push_bytes] at h2
      have e : n = zs.length := by simpa using e4.symm
      subst e
      exact h2.trans (by simp)
  change Sem.run P (do
    let b ← Extern.Bytes.bytesOf a'
    let c' ← Extern.Bytes.asByte (.int .u8 ch)
    pure (goInt (b.foldl (fun n x => if x == c' then n + 1 else n) ((0 : Nat) : Int)))) w = _
  simp only [Extern.Bytes.asByte, Sem.run_bind, key, Sem.run_pure, Result.andThen_ok, bfold, cB_fold]
  simp [goInt]
noncomputable def cntK (c : UInt8) (l : List UInt8) : Nat → (Nat → Bool) → Bool :=
  List.rec (motive := fun _ => Nat → (Nat → Bool) → Bool) (fun k K => K k) (fun x _ ih k K => Bool.rec (motive := fun _ => Bool) (ih k K) (forceN (k + 1) fun k => ih k K) (Nat.beq x.toNat c.toNat)) l
theorem cntK_eq (c : UInt8) : ∀ (l : List UInt8) (k : Nat) (K : Nat → Bool), cntK c l k K = K (k + cB c l)
  | [], k, K => rfl
  | x :: l, k, K => by
    have e : cntK c (x :: l) k K = Bool.rec (motive := fun _ => Bool) (cntK c l k K) (forceN (k + 1) fun k => cntK c l k K) (Nat.beq x.toNat c.toNat) := rfl
    rw [e]
    cases h : Nat.beq x.toNat c.toNat
    · have : x ≠ c := fun hh => by subst hh; rw [Nat.beq_refl] at h; cases h
      show cntK c l k K = _
      rw [cntK_eq c l, cB, if_neg this]
    · have : x = c := UInt8.toNat_inj.1 (Nat.eq_of_beq_eq_true h)
      show forceN (k + 1) (fun k => cntK c l k K) = _
      rw [forceN_eq, cntK_eq c l, cB, if_pos this]
      congr 1; omega
noncomputable def cntH : HF := fun xs n t K => match xs with
  | [v, .int .u8 (.ofNat c)] => elemsT t 1 v fun cs => match bytesOf cs with
    | some l => cntK (c.toUInt8) l 0 fun m => K (.int .i64 (.ofNat m)) n t
    | none => false
  | _ => false
theorem cnt_ok {f : FuncId} {fn : Func} (hf : P.funcs[f]? = some fn) (hname : (fn.name == "runtime.NumGoroutine") = false) (hb : fn.body.isNone = true) (hn : Extern.findNext fn = none) (he : Extern.find fn = some Extern.BytealgCount.count) : HFok RT P ng f cntH := HFok.of fun xs n t K h H r => by
  unfold cntH at h
  split at h
  · rename_i v c
    obtain ⟨cs, h1, h2⟩ := elemsT_true r h
    split at h2
    · rename_i l hl
      rw [cntK_eq, Nat.zero_add] at h2
      refine ⟨_, arun_extH hf hname hb hn he (fun σ => .int _ _) ?_, h2⟩
      intro σ w args' hr hv
      cases hv with
      | cons a hv =>
        cases hv with
        | cons b hv =>
          cases hv
          cases b
          exact run_count_slice hr a h1 hl c
    · cases h2
  · cases h
end Ev
end Go.AM

set_option linter.unusedSimpArgs false
set_option linter.unusedVariables false
namespace Go.AM
namespace Ev
open Go.Proofs Go.AM.F Go.AM.Fd
variable {RT : List RDef}
theorem bqK_true {n : Nat} {t : HT} {H : AHeap} (r : Rp RT n t H) {v : Value} {K : List UInt8 → Bool} (h : Hk.bqK v t K = true) : ∃ l, BQ H v l ∧ K l = true := by
  unfold Hk.bqK at h
  split at h
  · obtain ⟨h1, h2⟩ := asT_true h
    obtain ⟨h3, h4⟩ := asT_true h2
    have := Nat.eq_of_beq_eq_true h1
    have := Nat.eq_of_beq_eq_true h3
    subst_vars
    exact ⟨[], .inl ⟨rfl, rfl⟩, h4⟩
  · rename_i b o n k
    obtain ⟨ob, h1, h2⟩ := r.getK h
    split at h2
    · rename_i own room esz c e
      obtain ⟨h3, h4⟩ := asT_true h2
      obtain ⟨h5, h6⟩ := asT_true h4
      obtain ⟨h7, h8⟩ := asT_true h6
      rw [Hk.dropK_eq, Hk.takeK_eq] at h8
      obtain ⟨l, h9, h10⟩ := Hk.byK_true h8
      have h3 := Nat.eq_of_beq_eq_true h3
      have h5 := Nat.le_of_ble_eq_true h5
      have h7 : o + n ≤ c.length := Nat.le_of_ble_eq_true h7
      have hl : l.length = n := by
        have := congrArg List.length h9
        rw [cellsOf_length, List.length_take, List.length_drop] at this; omega
      subst hl
      exact ⟨l, .inr (.inr ⟨b, o, k, own, room, esz, c, e, rfl, h5, h1, .inl h3, h9, h7⟩), h10⟩
    · cases h2
  · cases h
noncomputable def eiK (n : Nat) : Nat → (Nat → Bool) → Bool := Nat.rec (motive := fun _ => Nat → (Nat → Bool) → Bool) (fun r K => K r) (fun _ ih r K => forceN (ah r) fun r' => ih r' K) n
theorem eiK_eq : ∀ (n r : Nat) (K : Nat → Bool), eiK n r K = K (ei n r)
  | 0, r, K => rfl
  | n + 1, r, K => by
    show forceN (ah r) (fun r' => eiK n r' K) = _
    rw [forceN_eq, eiK_eq n]; rfl
noncomputable def crcK (l : List UInt8) : Nat → (Nat → Bool) → Bool := List.rec (motive := fun _ => Nat → (Nat → Bool) → Bool) (fun r K => K r) (fun c _ ih r K => forceN (Nat.xor r c.toNat) fun r1 => eiK 8 r1 fun r2 => ih r2 K) l
theorem crcK_eq : ∀ (l : List UInt8) (r : Nat) (K : Nat → Bool), crcK l r K = K (l.foldl crcS r)
  | [], r, K => rfl
  | c :: l, r, K => by
    show forceN (Nat.xor r c.toNat) (fun r1 => eiK 8 r1 fun r2 => crcK l r2 K) = _
    rw [forceN_eq, eiK_eq, crcK_eq l]; rfl
noncomputable def sumH : HF := fun xs n t K => match xs with
  | [v] => Hk.bqK v t fun l => asT (Nat.ble l.length 1000000) (crcK l 4294967295 fun r => forceN (Nat.xor 4294967295 r) fun r => K (.int .u32 (.ofNat r)) n t)
  | _ => false
theorem sumH_true {xs : List Value} {n : Nat} {t : HT} {K : CK} (h : sumH xs n t K = true) {H : AHeap} (r : Rp RT n t H) : ∃ v l, xs = [v] ∧ BQ H v l ∧ l.length ≤ 1000000 ∧ K (.int .u32 (crc l : Nat)) n t = true := by
  unfold sumH at h
  split at h
  · rename_i v
    obtain ⟨l, h1, h2⟩ := bqK_true r h
    obtain ⟨h3, h4⟩ := asT_true h2
    rw [crcK_eq, forceN_eq] at h4
    exact ⟨v, l, rfl, h1, Nat.le_of_ble_eq_true h3, h4⟩
  · cases h
theorem sum154 : HFok RT Tryz.prog 0 154 sumH := HFok.of fun xs n t K h H r => by
  obtain ⟨v, l, rfl, h1, h2, h3⟩ := sumH_true h r
  obtain ⟨w, H', a, rfl, rfl⟩ := t154 h1.bs (by omega)
  exact ⟨_, a, h3⟩
theorem sum125 : HFok RT Tryz.prog 0 125 sumH := HFok.of fun xs n t K h H r => by
  obtain ⟨v, l, rfl, h1, h2, h3⟩ := sumH_true h r
  obtain ⟨w, H', a, rfl, k⟩ := t125 h1.bs (by omega)
  exact ⟨_, a.gc0 k (.inr (.int _ _)), h3⟩
noncomputable def cntF : Func := (Tryz.prog.funcs[112]?).getD default
theorem cntF_f : Tryz.prog.funcs[112]? = some cntF := by kernel_rfl
theorem cnt112 : HFok RT Tryz.prog 0 112 cntH := cnt_ok cntF_f (by kernel_rfl) (by kernel_rfl) (by kernel_rfl) (by kernel_rfl)
end Ev
end Go.AM

set_option maxRecDepth 100000
set_option maxHeartbeats 0
namespace Go.AM.F
def Z88E : List Value := [(.int .u8 0), (.slice none 0 0), (.int .i64 0), (.slice none 0 0), (.int .u8 0), (.slice none 0 0), (.int .i64 0), (.slice none 0 0), (.int .u8 0), (.slice none 0 0), (.int .i64 0), (.slice none 0 0), (.int .u8 0), (.slice none 0 0), (.int .i64 0), (.slice none 0 0), (.int .u8 0), (.slice none 0 0), (.int .i64 0), (.slice none 0 0), (.int .u8 0), (.slice none 0 0), (.int .i64 0), (.slice none 0 0), (.int .u8 0), (.slice none 0 0), (.int .i64 0), (.slice none 0 0), (.int .u8 0), (.slice none 0 0), (.int .i64 0), (.slice none 0 0), (.int .u8 0), (.slice none 0 0), (.int .i64 0), (.slice none 0 0), (.int .u8 0), (.slice none 0 0), (.int .i64 0), (.slice none 0 0), (.int .u8 0), (.slice none 0 0), (.int .i64 0), (.slice none 0 0), (.int .u8 0), (.slice none 0 0), (.int .i64 0), (.slice none 0 0), (.int .u8 0), (.slice none 0 0), (.int .i64 0), (.slice none 0 0), (.int .u8 0), (.slice none 0 0), (.int .i64 0), (.slice none 0 0), (.int .u8 0), (.slice none 0 0), (.int .i64 0), (.slice none 0 0), (.int .u8 0), (.slice none 0 0), (.int .i64 0), (.slice none 0 0), (.int .u8 0), (.slice none 0 0), (.int .i64 0), (.slice none 0 0), (.int .u8 0), (.slice none 0 0), (.int .i64 0), (.slice none 0 0), (.int .u8 0), (.slice none 0 0), (.int .i64 0), (.slice none 0 0), (.int .u8 0), (.slice none 0 0), (.int .i64 0), (.slice none 0 0), (.int .u8 0), (.slice none 0 0), (.int .i64 0), (.slice none 0 0), (.int .u8 0), (.slice none 0 0), (.int .i64 0), (.slice none 0 0)]
def Z32E : List Value := [(.int .u8 0), (.slice none 0 0), (.int .i64 0), (.slice none 0 0), (.int .u8 0), (.slice none 0 0), (.int .i64 0), (.slice none 0 0), (.int .u8 0), (.slice none 0 0), (.int .i64 0), (.slice none 0 0), (.int .u8 0), (.slice none 0 0), (.int .i64 0), (.slice none 0 0), (.int .u8 0), (.slice none 0 0), (.int .i64 0), (.slice none 0 0), (.int .u8 0), (.slice none 0 0), (.int .i64 0), (.slice none 0 0), (.int .u8 0), (.slice none 0 0), (.int .i64 0), (.slice none 0 0), (.int .u8 0), (.slice none 0 0), (.int .i64 0), (.slice none 0 0)]
def zclE : TypeId → List Value
 | 40 => [(.int .u8 0), (.slice none 0 0), (.int .i64 0), (.slice none 0 0)]
 | 5 => [(.int .u8 0)]
 | _ => []
def zvlE : TypeId → Value
 | _ => undef
def zklE : TypeId → List Nat
 | _ => []
def zrlE : Nat → TypeId → List Value
 | 1, 5 => [(.int .u8 0)]
 | 22, 40 => Z88E
 | 8, 40 => Z32E
 | 4, 3 => [(.int .i64 0), (.int .i64 0), (.int .i64 0), (.int .i64 0)]
 | 3, 38 => [(.slice none 0 0), (.slice none 0 0), (.slice none 0 0)]
 | _, _ => []
noncomputable def f3 : AFunc := by
 refine (fun (_ : Cz zclE zvlE zklE zrlE Go.Proofs.Tryz.prog 0 [0, 1, 4, 5, 6, 7, 8, 9, 10, 11, 12, 13, 19, 38, 66, 74, 83, 84, 96, 101, 115] 3 ?a) => ?a) ?h
 case h =>
 intro zc zv zk zr hc hv hk hr
 conv => lhs; cbv; try simp only [hc, hv, hk, hr, zclE, zvlE, zklE, zrlE]
theorem f3_ok : compF Go.Proofs.Tryz.prog 0 [0, 1, 4, 5, 6, 7, 8, 9, 10, 11, 12, 13, 19, 38, 66, 74, 83, 84, 96, 101, 115] 3 = some f3 := by kernel_rfl
theorem f3_n : argsOK Go.Proofs.Tryz.prog 3 2 = true := by kernel_rfl
noncomputable def f4 : AFunc := by
 refine (fun (_ : Cz zclE zvlE zklE zrlE Go.Proofs.Tryz.prog 0 [0, 2, 4, 5, 7, 8, 10, 11, 12, 13, 14] 4 ?a) => ?a) ?h
 case h =>
 intro zc zv zk zr hc hv hk hr
 conv => lhs; cbv; try simp only [hc, hv, hk, hr, zclE, zvlE, zklE, zrlE]
theorem f4_ok : compF Go.Proofs.Tryz.prog 0 [0, 2, 4, 5, 7, 8, 10, 11, 12, 13, 14] 4 = some f4 := by kernel_rfl
theorem f4_n : argsOK Go.Proofs.Tryz.prog 4 0 = true := by kernel_rfl
noncomputable def f9 : AFunc := by
 refine (fun (_ : Cz zclE zvlE zklE zrlE Go.Proofs.Tryz.prog 0 [0, 2, 3, 4, 7, 11, 33] 9 ?a) => ?a) ?h
 case h =>
 intro zc zv zk zr hc hv hk hr
 conv => lhs; cbv; try simp only [hc, hv, hk, hr, zclE, zvlE, zklE, zrlE]
theorem f9_ok : compF Go.Proofs.Tryz.prog 0 [0, 2, 3, 4, 7, 11, 33] 9 = some f9 := by kernel_rfl
theorem f9_n : argsOK Go.Proofs.Tryz.prog 9 1 = true := by kernel_rfl
noncomputable def f10 : AFunc := by
 refine (fun (_ : Cz zclE zvlE zklE zrlE Go.Proofs.Tryz.prog 0 [0, 1, 2, 3, 4, 5, 6, 7, 8, 20, 22, 30] 10 ?a) => ?a) ?h
 case h =>
 intro zc zv zk zr hc hv hk hr
 conv => lhs; cbv; try simp only [hc, hv, hk, hr, zclE, zvlE, zklE, zrlE]
theorem f10_ok : compF Go.Proofs.Tryz.prog 0 [0, 1, 2, 3, 4, 5, 6, 7, 8, 20, 22, 30] 10 = some f10 := by kernel_rfl
theorem f10_n : argsOK Go.Proofs.Tryz.prog 10 0 = true := by kernel_rfl
noncomputable def f25 : AFunc := by
 refine (fun (_ : Cz zclE zvlE zklE zrlE Go.Proofs.Tryz.prog 0 [0, 1, 2, 5, 6, 7, 8, 9, 10, 11, 15, 43] 25 ?a) => ?a) ?h
 case h =>
 intro zc zv zk zr hc hv hk hr
 conv => lhs; cbv; try simp only [hc, hv, hk, hr, zclE, zvlE, zklE, zrlE]
theorem f25_ok : compF Go.Proofs.Tryz.prog 0 [0, 1, 2, 5, 6, 7, 8, 9, 10, 11, 15, 43] 25 = some f25 := by kernel_rfl
theorem f25_n : argsOK Go.Proofs.Tryz.prog 25 3 = true := by kernel_rfl
noncomputable def f88 : AFunc := by
 refine (fun (_ : Cz zclE zvlE zklE zrlE Go.Proofs.Tryz.prog 0 [0, 1, 4, 10] 88 ?a) => ?a) ?h
 case h =>
 intro zc zv zk zr hc hv hk hr
 conv => lhs; cbv; try simp only [hc, hv, hk, hr, zclE, zvlE, zklE, zrlE]
theorem f88_ok : compF Go.Proofs.Tryz.prog 0 [0, 1, 4, 10] 88 = some f88 := by kernel_rfl
theorem f88_n : argsOK Go.Proofs.Tryz.prog 88 2 = true := by kernel_rfl
noncomputable def f95 : AFunc := by
 refine (fun (_ : Cz zclE zvlE zklE zrlE Go.Proofs.Tryz.prog 0 [0, 1, 2, 6, 7, 8, 9, 22, 26, 47] 95 ?a) => ?a) ?h
 case h =>
 intro zc zv zk zr hc hv hk hr
 conv => lhs; cbv; try simp only [hc, hv, hk, hr, zclE, zvlE, zklE, zrlE]
theorem f95_ok : compF Go.Proofs.Tryz.prog 0 [0, 1, 2, 6, 7, 8, 9, 22, 26, 47] 95 = some f95 := by kernel_rfl
theorem f95_n : argsOK Go.Proofs.Tryz.prog 95 3 = true := by kernel_rfl
end Go.AM.F

set_option maxRecDepth 100000
set_option maxHeartbeats 0
namespace Go.AM.F
def Z256G : List Value := List.replicate 256 (.int .u8 0)
def Z257G : List Value := [(.int .i64 0)] ++ List.replicate 256 (.int .u8 0)
def zclG : TypeId → List Value
 | 139 => Z256G
 | 107 => [(.slice none 0 0), (.slice none 0 0), (.int .i64 0), (.pointer none), (.bool false)]
 | 111 => [(.slice none 0 0), (.slice none 0 0), (.int .i64 0), (.bool false), (.int .i64 0), (.bool false)]
 | 29 => [(.pointer none)]
 | 30 => [(.int .i64 0)]
 | 116 => [(.pointer none), (.int .i64 0), (.int .i64 0), (.slice none 0 0), (.int .i64 0)]
 | 114 => [(.int .i64 0), (.int .i64 0)]
 | 124 => [(.int .i64 0), (.slice none 0 0)]
 | 133 => [(.pointer none), (.int .i64 0), (.int .i64 0), (.slice none 0 0), (.int .i64 0)]
 | 141 => Z257G
 | 143 => [(.int .i64 0), (.string ByteArray.empty)]
 | _ => []
def zvlG : TypeId → Value
 | 114 => (.agg #[(.int .i64 0), (.int .i64 0)])
 | _ => undef
def zklG : TypeId → List Nat
 | _ => []
def zrlG : Nat → TypeId → List Value
 | 1, 9 => [(.string ByteArray.empty)]
 | 1, 5 => [(.int .u8 0)]
 | 1, 38 => [(.slice none 0 0)]
 | _, _ => []
noncomputable def f11 : AFunc := by
 refine (fun (_ : Cz zclG zvlG zklG zrlG Go.Proofs.Tryz.prog 0 [0, 2] 11 ?a) => ?a) ?h
 case h =>
 intro zc zv zk zr hc hv hk hr
 conv => lhs; cbv; try simp only [hc, hv, hk, hr, zclG, zvlG, zklG, zrlG]
theorem f11_ok : compF Go.Proofs.Tryz.prog 0 [0, 2] 11 = some f11 := by kernel_rfl
theorem f11_n : argsOK Go.Proofs.Tryz.prog 11 1 = true := by kernel_rfl
noncomputable def f12 : AFunc := by
 refine (fun (_ : Cz zclG zvlG zklG zrlG Go.Proofs.Tryz.prog 0 [0, 2, 3, 4, 13] 12 ?a) => ?a) ?h
 case h =>
 intro zc zv zk zr hc hv hk hr
 conv => lhs; cbv; try simp only [hc, hv, hk, hr, zclG, zvlG, zklG, zrlG]
theorem f12_ok : compF Go.Proofs.Tryz.prog 0 [0, 2, 3, 4, 13] 12 = some f12 := by kernel_rfl
theorem f12_n : argsOK Go.Proofs.Tryz.prog 12 1 = true := by kernel_rfl
noncomputable def f13 : AFunc := by
 refine (fun (_ : Cz zclG zvlG zklG zrlG Go.Proofs.Tryz.prog 0 [0, 2, 3, 4, 5, 6, 7, 9, 10, 11, 12, 13, 14, 15, 18, 22, 28, 29, 62, 80, 82, 89, 93, 94, 95, 111, 125, 126, 131] 13 ?a) => ?a) ?h
 case h =>
 intro zc zv zk zr hc hv hk hr
 have e0A := (rfl : rfA Go.Proofs.Tryz.prog 13 0 = rfA Go.Proofs.Tryz.prog 13 0); conv at e0A => rhs; cbv
 have e0B := (rfl : rfB Go.Proofs.Tryz.prog 13 0 = rfB Go.Proofs.Tryz.prog 13 0); conv at e0B => rhs; cbv
 conv => lhs; cbv; try simp only [hc, hv, hk, hr, zclG, zvlG, zklG, zrlG]; simp only [← e0A, ← e0B]
theorem f13_ok : compF Go.Proofs.Tryz.prog 0 [0, 2, 3, 4, 5, 6, 7, 9, 10, 11, 12, 13, 14, 15, 18, 22, 28, 29, 62, 80, 82, 89, 93, 94, 95, 111, 125, 126, 131] 13 = some f13 := by kernel_rfl
theorem f13_n : argsOK Go.Proofs.Tryz.prog 13 1 = true := by kernel_rfl
noncomputable def f13r0a : ACode := by
 refine (fun (_ : CzC zclG zvlG zklG zrlG Go.Proofs.Tryz.prog 0 133 [0, 2, 3, 4, 5, 6, 7, 9, 10, 11, 12, 13, 14, 15, 18, 22, 28, 29, 62, 80, 82, 89, 93, 94, 95, 111, 125, 126, 131] (rfA Go.Proofs.Tryz.prog 13 0) ?a) => ?a) ?h
 case h => intro zc zv zk zr hc hv hk hr; conv => lhs; cbv; try simp only [hc, hv, hk, hr, zclG, zvlG, zklG, zrlG]
theorem f13r0a_ok : compC Go.Proofs.Tryz.prog 0 133 [0, 2, 3, 4, 5, 6, 7, 9, 10, 11, 12, 13, 14, 15, 18, 22, 28, 29, 62, 80, 82, 89, 93, 94, 95, 111, 125, 126, 131] (rfA Go.Proofs.Tryz.prog 13 0) = some f13r0a := by kernel_rfl
noncomputable def f13r0b : ACode := by
 refine (fun (_ : CzC zclG zvlG zklG zrlG Go.Proofs.Tryz.prog 0 133 [0, 2, 3, 4, 5, 6, 7, 9, 10, 11, 12, 13, 14, 15, 18, 22, 28, 29, 62, 80, 82, 89, 93, 94, 95, 111, 125, 126, 131] (rfB Go.Proofs.Tryz.prog 13 0) ?a) => ?a) ?h
 case h => intro zc zv zk zr hc hv hk hr; conv => lhs; cbv; try simp only [hc, hv, hk, hr, zclG, zvlG, zklG, zrlG]
theorem f13r0b_ok : compC Go.Proofs.Tryz.prog 0 133 [0, 2, 3, 4, 5, 6, 7, 9, 10, 11, 12, 13, 14, 15, 18, 22, 28, 29, 62, 80, 82, 89, 93, 94, 95, 111, 125, 126, 131] (rfB Go.Proofs.Tryz.prog 13 0) = some f13r0b := by kernel_rfl
theorem f13r0_n : (noRF (rfA Go.Proofs.Tryz.prog 13 0) && noRF (rfB Go.Proofs.Tryz.prog 13 0)) = true := by kernel_rfl
noncomputable def f14 : AFunc := by
 refine (fun (_ : Cz zclG zvlG zklG zrlG Go.Proofs.Tryz.prog 0 [0, 2, 3, 4, 6, 8, 9, 10, 11, 12, 13, 14, 16, 17, 18, 19, 21, 28, 32, 60, 73, 81, 86, 90, 105, 123, 140, 157] 14 ?a) => ?a) ?h
 case h =>
 intro zc zv zk zr hc hv hk hr
 conv => lhs; cbv; try simp only [hc, hv, hk, hr, zclG, zvlG, zklG, zrlG]
theorem f14_ok : compF Go.Proofs.Tryz.prog 0 [0, 2, 3, 4, 6, 8, 9, 10, 11, 12, 13, 14, 16, 17, 18, 19, 21, 28, 32, 60, 73, 81, 86, 90, 105, 123, 140, 157] 14 = some f14 := by kernel_rfl
theorem f14_n : argsOK Go.Proofs.Tryz.prog 14 1 = true := by kernel_rfl
noncomputable def f17 : AFunc := by
 refine (fun (_ : Cz zclG zvlG zklG zrlG Go.Proofs.Tryz.prog 0 [0, 1, 3, 5, 10] 17 ?a) => ?a) ?h
 case h =>
 intro zc zv zk zr hc hv hk hr
 conv => lhs; cbv; try simp only [hc, hv, hk, hr, zclG, zvlG, zklG, zrlG]
theorem f17_ok : compF Go.Proofs.Tryz.prog 0 [0, 1, 3, 5, 10] 17 = some f17 := by kernel_rfl
theorem f17_n : argsOK Go.Proofs.Tryz.prog 17 2 = true := by kernel_rfl
noncomputable def f18 : AFunc := by
 refine (fun (_ : Cz zclG zvlG zklG zrlG Go.Proofs.Tryz.prog 0 [0, 1] 18 ?a) => ?a) ?h
 case h =>
 intro zc zv zk zr hc hv hk hr
 conv => lhs; cbv; try simp only [hc, hv, hk, hr, zclG, zvlG, zklG, zrlG]
theorem f18_ok : compF Go.Proofs.Tryz.prog 0 [0, 1] 18 = some f18 := by kernel_rfl
theorem f18_n : argsOK Go.Proofs.Tryz.prog 18 2 = true := by kernel_rfl
noncomputable def f19 : AFunc := by
 refine (fun (_ : Cz zclG zvlG zklG zrlG Go.Proofs.Tryz.prog 0 [0, 3] 19 ?a) => ?a) ?h
 case h =>
 intro zc zv zk zr hc hv hk hr
 conv => lhs; cbv; try simp only [hc, hv, hk, hr, zclG, zvlG, zklG, zrlG]
theorem f19_ok : compF Go.Proofs.Tryz.prog 0 [0, 3] 19 = some f19 := by kernel_rfl
theorem f19_n : argsOK Go.Proofs.Tryz.prog 19 1 = true := by kernel_rfl
noncomputable def f20 : AFunc := by
 refine (fun (_ : Cz zclG zvlG zklG zrlG Go.Proofs.Tryz.prog 0 [0] 20 ?a) => ?a) ?h
 case h =>
 intro zc zv zk zr hc hv hk hr
 conv => lhs; cbv; try simp only [hc, hv, hk, hr, zclG, zvlG, zklG, zrlG]
theorem f20_ok : compF Go.Proofs.Tryz.prog 0 [0] 20 = some f20 := by kernel_rfl
theorem f20_n : argsOK Go.Proofs.Tryz.prog 20 1 = true := by kernel_rfl
noncomputable def f21 : AFunc := by
 refine (fun (_ : Cz zclG zvlG zklG zrlG Go.Proofs.Tryz.prog 0 [0, 1, 4, 5, 6, 8, 16, 23, 24, 25, 26, 33, 40] 21 ?a) => ?a) ?h
 case h =>
 intro zc zv zk zr hc hv hk hr
 conv => lhs; cbv; try simp only [hc, hv, hk, hr, zclG, zvlG, zklG, zrlG]
theorem f21_ok : compF Go.Proofs.Tryz.prog 0 [0, 1, 4, 5, 6, 8, 16, 23, 24, 25, 26, 33, 40] 21 = some f21 := by kernel_rfl
theorem f21_n : argsOK Go.Proofs.Tryz.prog 21 2 = true := by kernel_rfl
noncomputable def f22 : AFunc := by
 refine (fun (_ : Cz zclG zvlG zklG zrlG Go.Proofs.Tryz.prog 0 [0, 1, 4, 5, 6, 14, 24, 37, 44] 22 ?a) => ?a) ?h
 case h =>
 intro zc zv zk zr hc hv hk hr
 conv => lhs; cbv; try simp only [hc, hv, hk, hr, zclG, zvlG, zklG, zrlG]
theorem f22_ok : compF Go.Proofs.Tryz.prog 0 [0, 1, 4, 5, 6, 14, 24, 37, 44] 22 = some f22 := by kernel_rfl
theorem f22_n : argsOK Go.Proofs.Tryz.prog 22 2 = true := by kernel_rfl
end Go.AM.F

set_option maxRecDepth 100000
set_option maxHeartbeats 0
namespace Go.AM.F
def Z257H : List Value := [(.int .i64 0)] ++ List.replicate 256 (.int .u8 0)
def zclH : TypeId → List Value
 | 141 => Z257H
 | 143 => [(.int .i64 0), (.string ByteArray.empty)]
 | 124 => [(.int .i64 0), (.slice none 0 0)]
 | 114 => [(.int .i64 0), (.int .i64 0)]
 | _ => []
def zvlH : TypeId → Value
 | _ => undef
def zklH : TypeId → List Nat
 | _ => []
def zrlH : Nat → TypeId → List Value
 | 1, 141 => Z257H
 | 1, 143 => [(.int .i64 0), (.string ByteArray.empty)]
 | 1, 38 => [(.slice none 0 0)]
 | 1, 5 => [(.int .u8 0)]
 | _, _ => []
noncomputable def f15 : AFunc := by
 refine (fun (_ : Cz zclH zvlH zklH zrlH Go.Proofs.Tryz.prog 0 [0, 1, 4, 5, 6, 7, 8, 9, 35, 42, 65] 15 ?a) => ?a) ?h
 case h =>
 intro zc zv zk zr hc hv hk hr
 conv => lhs; cbv; try simp only [hc, hv, hk, hr, zclH, zvlH, zklH, zrlH]
theorem f15_ok : compF Go.Proofs.Tryz.prog 0 [0, 1, 4, 5, 6, 7, 8, 9, 35, 42, 65] 15 = some f15 := by kernel_rfl
theorem f15_n : argsOK Go.Proofs.Tryz.prog 15 2 = true := by kernel_rfl
noncomputable def f16 : AFunc := by
 refine (fun (_ : Cz zclH zvlH zklH zrlH Go.Proofs.Tryz.prog 0 [0, 1, 4, 5, 6, 7, 8, 9, 39, 48, 100, 104] 16 ?a) => ?a) ?h
 case h =>
 intro zc zv zk zr hc hv hk hr
 conv => lhs; cbv; try simp only [hc, hv, hk, hr, zclH, zvlH, zklH, zrlH]
theorem f16_ok : compF Go.Proofs.Tryz.prog 0 [0, 1, 4, 5, 6, 7, 8, 9, 39, 48, 100, 104] 16 = some f16 := by kernel_rfl
theorem f16_n : argsOK Go.Proofs.Tryz.prog 16 2 = true := by kernel_rfl
noncomputable def f23 : AFunc := by
 refine (fun (_ : Cz zclH zvlH zklH zrlH Go.Proofs.Tryz.prog 0 [0, 1, 2, 6, 7, 8, 13, 17] 23 ?a) => ?a) ?h
 case h =>
 intro zc zv zk zr hc hv hk hr
 conv => lhs; cbv; try simp only [hc, hv, hk, hr, zclH, zvlH, zklH, zrlH]
theorem f23_ok : compF Go.Proofs.Tryz.prog 0 [0, 1, 2, 6, 7, 8, 13, 17] 23 = some f23 := by kernel_rfl
theorem f23_n : argsOK Go.Proofs.Tryz.prog 23 3 = true := by kernel_rfl
noncomputable def f24 : AFunc := by
 refine (fun (_ : Cz zclH zvlH zklH zrlH Go.Proofs.Tryz.prog 0 [0, 1, 2, 6, 7, 12, 16, 31] 24 ?a) => ?a) ?h
 case h =>
 intro zc zv zk zr hc hv hk hr
 conv => lhs; cbv; try simp only [hc, hv, hk, hr, zclH, zvlH, zklH, zrlH]
theorem f24_ok : compF Go.Proofs.Tryz.prog 0 [0, 1, 2, 6, 7, 12, 16, 31] 24 = some f24 := by kernel_rfl
theorem f24_n : argsOK Go.Proofs.Tryz.prog 24 3 = true := by kernel_rfl
noncomputable def f26 : AFunc := by
 refine (fun (_ : Cz zclH zvlH zklH zrlH Go.Proofs.Tryz.prog 0 [0, 1, 4, 5, 22] 26 ?a) => ?a) ?h
 case h =>
 intro zc zv zk zr hc hv hk hr
 conv => lhs; cbv; try simp only [hc, hv, hk, hr, zclH, zvlH, zklH, zrlH]
theorem f26_ok : compF Go.Proofs.Tryz.prog 0 [0, 1, 4, 5, 22] 26 = some f26 := by kernel_rfl
theorem f26_n : argsOK Go.Proofs.Tryz.prog 26 2 = true := by kernel_rfl
noncomputable def f27 : AFunc := by
 refine (fun (_ : Cz zclH zvlH zklH zrlH Go.Proofs.Tryz.prog 0 [0, 2, 4] 27 ?a) => ?a) ?h
 case h =>
 intro zc zv zk zr hc hv hk hr
 conv => lhs; cbv; try simp only [hc, hv, hk, hr, zclH, zvlH, zklH, zrlH]
theorem f27_ok : compF Go.Proofs.Tryz.prog 0 [0, 2, 4] 27 = some f27 := by kernel_rfl
theorem f27_n : argsOK Go.Proofs.Tryz.prog 27 1 = true := by kernel_rfl
noncomputable def f28 : AFunc := by
 refine (fun (_ : Cz zclH zvlH zklH zrlH Go.Proofs.Tryz.prog 0 [0, 2, 4] 28 ?a) => ?a) ?h
 case h =>
 intro zc zv zk zr hc hv hk hr
 conv => lhs; cbv; try simp only [hc, hv, hk, hr, zclH, zvlH, zklH, zrlH]
theorem f28_ok : compF Go.Proofs.Tryz.prog 0 [0, 2, 4] 28 = some f28 := by kernel_rfl
theorem f28_n : argsOK Go.Proofs.Tryz.prog 28 1 = true := by kernel_rfl
noncomputable def f29 : AFunc := by
 refine (fun (_ : Cz zclH zvlH zklH zrlH Go.Proofs.Tryz.prog 0 [0, 2, 4] 29 ?a) => ?a) ?h
 case h =>
 intro zc zv zk zr hc hv hk hr
 conv => lhs; cbv; try simp only [hc, hv, hk, hr, zclH, zvlH, zklH, zrlH]
theorem f29_ok : compF Go.Proofs.Tryz.prog 0 [0, 2, 4] 29 = some f29 := by kernel_rfl
theorem f29_n : argsOK Go.Proofs.Tryz.prog 29 1 = true := by kernel_rfl
noncomputable def f30 : AFunc := by
 refine (fun (_ : Cz zclH zvlH zklH zrlH Go.Proofs.Tryz.prog 0 [0, 2, 4] 30 ?a) => ?a) ?h
 case h =>
 intro zc zv zk zr hc hv hk hr
 conv => lhs; cbv; try simp only [hc, hv, hk, hr, zclH, zvlH, zklH, zrlH]
theorem f30_ok : compF Go.Proofs.Tryz.prog 0 [0, 2, 4] 30 = some f30 := by kernel_rfl
theorem f30_n : argsOK Go.Proofs.Tryz.prog 30 1 = true := by kernel_rfl
noncomputable def f31 : AFunc := by
 refine (fun (_ : Cz zclH zvlH zklH zrlH Go.Proofs.Tryz.prog 0 [0, 1, 4, 5, 6, 7, 10, 14, 18, 41] 31 ?a) => ?a) ?h
 case h =>
 intro zc zv zk zr hc hv hk hr
 conv => lhs; cbv; try simp only [hc, hv, hk, hr, zclH, zvlH, zklH, zrlH]
theorem f31_ok : compF Go.Proofs.Tryz.prog 0 [0, 1, 4, 5, 6, 7, 10, 14, 18, 41] 31 = some f31 := by kernel_rfl
theorem f31_n : argsOK Go.Proofs.Tryz.prog 31 2 = true := by kernel_rfl
noncomputable def f32 : AFunc := by
 refine (fun (_ : Cz zclH zvlH zklH zrlH Go.Proofs.Tryz.prog 0 [0, 1, 4, 5, 6, 7, 10, 14, 44] 32 ?a) => ?a) ?h
 case h =>
 intro zc zv zk zr hc hv hk hr
 conv => lhs; cbv; try simp only [hc, hv, hk, hr, zclH, zvlH, zklH, zrlH]
theorem f32_ok : compF Go.Proofs.Tryz.prog 0 [0, 1, 4, 5, 6, 7, 10, 14, 44] 32 = some f32 := by kernel_rfl
theorem f32_n : argsOK Go.Proofs.Tryz.prog 32 2 = true := by kernel_rfl
noncomputable def f33 : AFunc := by
 refine (fun (_ : Cz zclH zvlH zklH zrlH Go.Proofs.Tryz.prog 0 [0, 1, 4, 5] 33 ?a) => ?a) ?h
 case h =>
 intro zc zv zk zr hc hv hk hr
 conv => lhs; cbv; try simp only [hc, hv, hk, hr, zclH, zvlH, zklH, zrlH]
theorem f33_ok : compF Go.Proofs.Tryz.prog 0 [0, 1, 4, 5] 33 = some f33 := by kernel_rfl
theorem f33_n : argsOK Go.Proofs.Tryz.prog 33 2 = true := by kernel_rfl
noncomputable def f34 : AFunc := by
 refine (fun (_ : Cz zclH zvlH zklH zrlH Go.Proofs.Tryz.prog 0 [0, 1, 4, 5] 34 ?a) => ?a) ?h
 case h =>
 intro zc zv zk zr hc hv hk hr
 conv => lhs; cbv; try simp only [hc, hv, hk, hr, zclH, zvlH, zklH, zrlH]
theorem f34_ok : compF Go.Proofs.Tryz.prog 0 [0, 1, 4, 5] 34 = some f34 := by kernel_rfl
theorem f34_n : argsOK Go.Proofs.Tryz.prog 34 2 = true := by kernel_rfl
end Go.AM.F

set_option maxRecDepth 100000
set_option maxHeartbeats 0
namespace Go.AM.F
def Z256I : List Value := List.replicate 256 (.int .u8 0)
def Z257I : List Value := [(.int .i64 0)] ++ List.replicate 256 (.int .u8 0)
def zclI : TypeId → List Value
 | 40 => [(.int .u8 0), (.slice none 0 0), (.int .i64 0), (.slice none 0 0)]
 | 139 => Z256I
 | 141 => Z257I
 | 114 => [(.int .i64 0), (.int .i64 0)]
 | 124 => [(.int .i64 0), (.slice none 0 0)]
 | _ => []
def zvlI : TypeId → Value
 | 124 => (.agg #[(.int .i64 0), (.slice none 0 0)])
 | _ => undef
def zklI : TypeId → List Nat
 | _ => []
def zrlI : Nat → TypeId → List Value
 | 1, 9 => [(.string ByteArray.empty)]
 | 1, 5 => [(.int .u8 0)]
 | _, _ => []
noncomputable def f35 : AFunc := by
 refine (fun (_ : Cz zclI zvlI zklI zrlI Go.Proofs.Tryz.prog 0 [0, 1, 2, 6, 7, 8, 9, 10, 11, 12, 13, 14, 15, 16, 17, 24, 39, 43, 47, 63, 71, 97, 102, 104, 117, 119, 130, 147, 158] 35 ?a) => ?a) ?h
 case h =>
 intro zc zv zk zr hc hv hk hr
 conv => lhs; cbv; try simp only [hc, hv, hk, hr, zclI, zvlI, zklI, zrlI]
theorem f35_ok : compF Go.Proofs.Tryz.prog 0 [0, 1, 2, 6, 7, 8, 9, 10, 11, 12, 13, 14, 15, 16, 17, 24, 39, 43, 47, 63, 71, 97, 102, 104, 117, 119, 130, 147, 158] 35 = some f35 := by kernel_rfl
theorem f35_n : argsOK Go.Proofs.Tryz.prog 35 3 = true := by kernel_rfl
noncomputable def f36 : AFunc := by
 refine (fun (_ : Cz zclI zvlI zklI zrlI Go.Proofs.Tryz.prog 0 [0, 1, 2, 3, 8, 9, 10, 11, 12, 13, 14, 15, 16, 17, 33, 44, 56, 64, 85, 107, 117] 36 ?a) => ?a) ?h
 case h =>
 intro zc zv zk zr hc hv hk hr
 conv => lhs; cbv; try simp only [hc, hv, hk, hr, zclI, zvlI, zklI, zrlI]
theorem f36_ok : compF Go.Proofs.Tryz.prog 0 [0, 1, 2, 3, 8, 9, 10, 11, 12, 13, 14, 15, 16, 17, 33, 44, 56, 64, 85, 107, 117] 36 = some f36 := by kernel_rfl
theorem f36_n : argsOK Go.Proofs.Tryz.prog 36 4 = true := by kernel_rfl
noncomputable def f64 : AFunc := by
 refine (fun (_ : Cz zclI zvlI zklI zrlI Go.Proofs.Tryz.prog 0 [0, 2, 3, 9] 64 ?a) => ?a) ?h
 case h =>
 intro zc zv zk zr hc hv hk hr
 conv => lhs; cbv; try simp only [hc, hv, hk, hr, zclI, zvlI, zklI, zrlI]
theorem f64_ok : compF Go.Proofs.Tryz.prog 0 [0, 2, 3, 9] 64 = some f64 := by kernel_rfl
theorem f64_n : argsOK Go.Proofs.Tryz.prog 64 1 = true := by kernel_rfl
noncomputable def f65 : AFunc := by
 refine (fun (_ : Cz zclI zvlI zklI zrlI Go.Proofs.Tryz.prog 0 [0, 2, 4] 65 ?a) => ?a) ?h
 case h =>
 intro zc zv zk zr hc hv hk hr
 conv => lhs; cbv; try simp only [hc, hv, hk, hr, zclI, zvlI, zklI, zrlI]
theorem f65_ok : compF Go.Proofs.Tryz.prog 0 [0, 2, 4] 65 = some f65 := by kernel_rfl
theorem f65_n : argsOK Go.Proofs.Tryz.prog 65 1 = true := by kernel_rfl
noncomputable def f66 : AFunc := by
 refine (fun (_ : Cz zclI zvlI zklI zrlI Go.Proofs.Tryz.prog 0 [0, 2] 66 ?a) => ?a) ?h
 case h =>
 intro zc zv zk zr hc hv hk hr
 conv => lhs; cbv; try simp only [hc, hv, hk, hr, zclI, zvlI, zklI, zrlI]
theorem f66_ok : compF Go.Proofs.Tryz.prog 0 [0, 2] 66 = some f66 := by kernel_rfl
theorem f66_n : argsOK Go.Proofs.Tryz.prog 66 1 = true := by kernel_rfl
noncomputable def f67 : AFunc := by
 refine (fun (_ : Cz zclI zvlI zklI zrlI Go.Proofs.Tryz.prog 0 [0, 1, 3, 4, 5, 6, 7, 9, 14, 27, 28, 29, 33] 67 ?a) => ?a) ?h
 case h =>
 intro zc zv zk zr hc hv hk hr
 have e0A := (rfl : rfA Go.Proofs.Tryz.prog 67 0 = rfA Go.Proofs.Tryz.prog 67 0); conv at e0A => rhs; cbv
 have e0B := (rfl : rfB Go.Proofs.Tryz.prog 67 0 = rfB Go.Proofs.Tryz.prog 67 0); conv at e0B => rhs; cbv
 conv => lhs; cbv; try simp only [hc, hv, hk, hr, zclI, zvlI, zklI, zrlI]; simp only [← e0A, ← e0B]
theorem f67_ok : compF Go.Proofs.Tryz.prog 0 [0, 1, 3, 4, 5, 6, 7, 9, 14, 27, 28, 29, 33] 67 = some f67 := by kernel_rfl
theorem f67_n : argsOK Go.Proofs.Tryz.prog 67 2 = true := by kernel_rfl
noncomputable def f67r0a : ACode := by
 refine (fun (_ : CzC zclI zvlI zklI zrlI Go.Proofs.Tryz.prog 0 37 [0, 1, 3, 4, 5, 6, 7, 9, 14, 27, 28, 29, 33] (rfA Go.Proofs.Tryz.prog 67 0) ?a) => ?a) ?h
 case h => intro zc zv zk zr hc hv hk hr; conv => lhs; cbv; try simp only [hc, hv, hk, hr, zclI, zvlI, zklI, zrlI]
theorem f67r0a_ok : compC Go.Proofs.Tryz.prog 0 37 [0, 1, 3, 4, 5, 6, 7, 9, 14, 27, 28, 29, 33] (rfA Go.Proofs.Tryz.prog 67 0) = some f67r0a := by kernel_rfl
noncomputable def f67r0b : ACode := by
 refine (fun (_ : CzC zclI zvlI zklI zrlI Go.Proofs.Tryz.prog 0 37 [0, 1, 3, 4, 5, 6, 7, 9, 14, 27, 28, 29, 33] (rfB Go.Proofs.Tryz.prog 67 0) ?a) => ?a) ?h
 case h => intro zc zv zk zr hc hv hk hr; conv => lhs; cbv; try simp only [hc, hv, hk, hr, zclI, zvlI, zklI, zrlI]
theorem f67r0b_ok : compC Go.Proofs.Tryz.prog 0 37 [0, 1, 3, 4, 5, 6, 7, 9, 14, 27, 28, 29, 33] (rfB Go.Proofs.Tryz.prog 67 0) = some f67r0b := by kernel_rfl
theorem f67r0_n : (noRF (rfA Go.Proofs.Tryz.prog 67 0) && noRF (rfB Go.Proofs.Tryz.prog 67 0)) = true := by kernel_rfl
noncomputable def f68 : AFunc := by
 refine (fun (_ : Cz zclI zvlI zklI zrlI Go.Proofs.Tryz.prog 0 [0, 1, 4, 5, 6, 9, 15, 25] 68 ?a) => ?a) ?h
 case h =>
 intro zc zv zk zr hc hv hk hr
 conv => lhs; cbv; try simp only [hc, hv, hk, hr, zclI, zvlI, zklI, zrlI]
theorem f68_ok : compF Go.Proofs.Tryz.prog 0 [0, 1, 4, 5, 6, 9, 15, 25] 68 = some f68 := by kernel_rfl
theorem f68_n : argsOK Go.Proofs.Tryz.prog 68 2 = true := by kernel_rfl
noncomputable def f69 : AFunc := by
 refine (fun (_ : Cz zclI zvlI zklI zrlI Go.Proofs.Tryz.prog 0 [0, 2, 3, 4, 5, 6, 7, 11, 12, 30, 33, 49, 61] 69 ?a) => ?a) ?h
 case h =>
 intro zc zv zk zr hc hv hk hr
 conv => lhs; cbv; try simp only [hc, hv, hk, hr, zclI, zvlI, zklI, zrlI]
theorem f69_ok : compF Go.Proofs.Tryz.prog 0 [0, 2, 3, 4, 5, 6, 7, 11, 12, 30, 33, 49, 61] 69 = some f69 := by kernel_rfl
theorem f69_n : argsOK Go.Proofs.Tryz.prog 69 1 = true := by kernel_rfl
noncomputable def f70 : AFunc := by
 refine (fun (_ : Cz zclI zvlI zklI zrlI Go.Proofs.Tryz.prog 0 [0, 1, 2, 6, 22] 70 ?a) => ?a) ?h
 case h =>
 intro zc zv zk zr hc hv hk hr
 conv => lhs; cbv; try simp only [hc, hv, hk, hr, zclI, zvlI, zklI, zrlI]
theorem f70_ok : compF Go.Proofs.Tryz.prog 0 [0, 1, 2, 6, 22] 70 = some f70 := by kernel_rfl
theorem f70_n : argsOK Go.Proofs.Tryz.prog 70 3 = true := by kernel_rfl
noncomputable def f71 : AFunc := by
 refine (fun (_ : Cz zclI zvlI zklI zrlI Go.Proofs.Tryz.prog 0 [0, 1, 4, 5, 6, 8, 9] 71 ?a) => ?a) ?h
 case h =>
 intro zc zv zk zr hc hv hk hr
 conv => lhs; cbv; try simp only [hc, hv, hk, hr, zclI, zvlI, zklI, zrlI]
theorem f71_ok : compF Go.Proofs.Tryz.prog 0 [0, 1, 4, 5, 6, 8, 9] 71 = some f71 := by kernel_rfl
theorem f71_n : argsOK Go.Proofs.Tryz.prog 71 2 = true := by kernel_rfl
noncomputable def f72 : AFunc := by
 refine (fun (_ : Cz zclI zvlI zklI zrlI Go.Proofs.Tryz.prog 0 [0, 1, 4, 5, 6, 8, 9, 10, 25] 72 ?a) => ?a) ?h
 case h =>
 intro zc zv zk zr hc hv hk hr
 conv => lhs; cbv; try simp only [hc, hv, hk, hr, zclI, zvlI, zklI, zrlI]
theorem f72_ok : compF Go.Proofs.Tryz.prog 0 [0, 1, 4, 5, 6, 8, 9, 10, 25] 72 = some f72 := by kernel_rfl
theorem f72_n : argsOK Go.Proofs.Tryz.prog 72 2 = true := by kernel_rfl
end Go.AM.F

set_option maxRecDepth 100000
set_option maxHeartbeats 0
namespace Go.AM.F
def zclJ : TypeId → List Value
 | _ => []
def zvlJ : TypeId → Value
 | _ => undef
def zklJ : TypeId → List Nat
 | _ => []
def zrlJ : Nat → TypeId → List Value
 | 0, 9 => []
 | 1, 9 => [(.string ByteArray.empty)]
 | _, _ => []
noncomputable def f73 : AFunc := by
 refine (fun (_ : Cz zclJ zvlJ zklJ zrlJ Go.Proofs.Tryz.prog 0 [0, 1, 4, 5, 6, 7, 12, 21, 33] 73 ?a) => ?a) ?h
 case h =>
 intro zc zv zk zr hc hv hk hr
 conv => lhs; cbv; try simp only [hc, hv, hk, hr, zclJ, zvlJ, zklJ, zrlJ]
theorem f73_ok : compF Go.Proofs.Tryz.prog 0 [0, 1, 4, 5, 6, 7, 12, 21, 33] 73 = some f73 := by kernel_rfl
theorem f73_n : argsOK Go.Proofs.Tryz.prog 73 2 = true := by kernel_rfl
noncomputable def f74 : AFunc := by
 refine (fun (_ : Cz zclJ zvlJ zklJ zrlJ Go.Proofs.Tryz.prog 0 [0, 2, 3, 4, 5, 22] 74 ?a) => ?a) ?h
 case h =>
 intro zc zv zk zr hc hv hk hr
 conv => lhs; cbv; try simp only [hc, hv, hk, hr, zclJ, zvlJ, zklJ, zrlJ]
theorem f74_ok : compF Go.Proofs.Tryz.prog 0 [0, 2, 3, 4, 5, 22] 74 = some f74 := by kernel_rfl
theorem f74_n : argsOK Go.Proofs.Tryz.prog 74 1 = true := by kernel_rfl
noncomputable def f75 : AFunc := by
 refine (fun (_ : Cz zclJ zvlJ zklJ zrlJ Go.Proofs.Tryz.prog 0 [0, 2, 3, 7, 13] 75 ?a) => ?a) ?h
 case h =>
 intro zc zv zk zr hc hv hk hr
 conv => lhs; cbv; try simp only [hc, hv, hk, hr, zclJ, zvlJ, zklJ, zrlJ]
theorem f75_ok : compF Go.Proofs.Tryz.prog 0 [0, 2, 3, 7, 13] 75 = some f75 := by kernel_rfl
theorem f75_n : argsOK Go.Proofs.Tryz.prog 75 1 = true := by kernel_rfl
noncomputable def f76 : AFunc := by
 refine (fun (_ : Cz zclJ zvlJ zklJ zrlJ Go.Proofs.Tryz.prog 0 [0, 2, 3, 11, 18] 76 ?a) => ?a) ?h
 case h =>
 intro zc zv zk zr hc hv hk hr
 conv => lhs; cbv; try simp only [hc, hv, hk, hr, zclJ, zvlJ, zklJ, zrlJ]
theorem f76_ok : compF Go.Proofs.Tryz.prog 0 [0, 2, 3, 11, 18] 76 = some f76 := by kernel_rfl
theorem f76_n : argsOK Go.Proofs.Tryz.prog 76 1 = true := by kernel_rfl
noncomputable def f77 : AFunc := by
 refine (fun (_ : Cz zclJ zvlJ zklJ zrlJ Go.Proofs.Tryz.prog 0 [0, 2] 77 ?a) => ?a) ?h
 case h =>
 intro zc zv zk zr hc hv hk hr
 conv => lhs; cbv; try simp only [hc, hv, hk, hr, zclJ, zvlJ, zklJ, zrlJ]
theorem f77_ok : compF Go.Proofs.Tryz.prog 0 [0, 2] 77 = some f77 := by kernel_rfl
theorem f77_n : argsOK Go.Proofs.Tryz.prog 77 1 = true := by kernel_rfl
noncomputable def f78 : AFunc := by
 refine (fun (_ : Cz zclJ zvlJ zklJ zrlJ Go.Proofs.Tryz.prog 0 [0, 1, 4] 78 ?a) => ?a) ?h
 case h =>
 intro zc zv zk zr hc hv hk hr
 conv => lhs; cbv; try simp only [hc, hv, hk, hr, zclJ, zvlJ, zklJ, zrlJ]
theorem f78_ok : compF Go.Proofs.Tryz.prog 0 [0, 1, 4] 78 = some f78 := by kernel_rfl
theorem f78_n : argsOK Go.Proofs.Tryz.prog 78 2 = true := by kernel_rfl
noncomputable def f79 : AFunc := by
 refine (fun (_ : Cz zclJ zvlJ zklJ zrlJ Go.Proofs.Tryz.prog 0 [0, 2] 79 ?a) => ?a) ?h
 case h =>
 intro zc zv zk zr hc hv hk hr
 conv => lhs; cbv; try simp only [hc, hv, hk, hr, zclJ, zvlJ, zklJ, zrlJ]
theorem f79_ok : compF Go.Proofs.Tryz.prog 0 [0, 2] 79 = some f79 := by kernel_rfl
theorem f79_n : argsOK Go.Proofs.Tryz.prog 79 1 = true := by kernel_rfl
noncomputable def f80 : AFunc := by
 refine (fun (_ : Cz zclJ zvlJ zklJ zrlJ Go.Proofs.Tryz.prog 0 [0, 2, 3, 4, 5, 28] 80 ?a) => ?a) ?h
 case h =>
 intro zc zv zk zr hc hv hk hr
 conv => lhs; cbv; try simp only [hc, hv, hk, hr, zclJ, zvlJ, zklJ, zrlJ]
theorem f80_ok : compF Go.Proofs.Tryz.prog 0 [0, 2, 3, 4, 5, 28] 80 = some f80 := by kernel_rfl
theorem f80_n : argsOK Go.Proofs.Tryz.prog 80 1 = true := by kernel_rfl
noncomputable def f81 : AFunc := by
 refine (fun (_ : Cz zclJ zvlJ zklJ zrlJ Go.Proofs.Tryz.prog 0 [0, 2, 4] 81 ?a) => ?a) ?h
 case h =>
 intro zc zv zk zr hc hv hk hr
 conv => lhs; cbv; try simp only [hc, hv, hk, hr, zclJ, zvlJ, zklJ, zrlJ]
theorem f81_ok : compF Go.Proofs.Tryz.prog 0 [0, 2, 4] 81 = some f81 := by kernel_rfl
theorem f81_n : argsOK Go.Proofs.Tryz.prog 81 1 = true := by kernel_rfl
noncomputable def f82 : AFunc := by
 refine (fun (_ : Cz zclJ zvlJ zklJ zrlJ Go.Proofs.Tryz.prog 0 [0, 2, 4] 82 ?a) => ?a) ?h
 case h =>
 intro zc zv zk zr hc hv hk hr
 conv => lhs; cbv; try simp only [hc, hv, hk, hr, zclJ, zvlJ, zklJ, zrlJ]
theorem f82_ok : compF Go.Proofs.Tryz.prog 0 [0, 2, 4] 82 = some f82 := by kernel_rfl
theorem f82_n : argsOK Go.Proofs.Tryz.prog 82 1 = true := by kernel_rfl
noncomputable def f83 : AFunc := by
 refine (fun (_ : Cz zclJ zvlJ zklJ zrlJ Go.Proofs.Tryz.prog 0 [0, 1, 4, 5, 8, 13] 83 ?a) => ?a) ?h
 case h =>
 intro zc zv zk zr hc hv hk hr
 conv => lhs; cbv; try simp only [hc, hv, hk, hr, zclJ, zvlJ, zklJ, zrlJ]
theorem f83_ok : compF Go.Proofs.Tryz.prog 0 [0, 1, 4, 5, 8, 13] 83 = some f83 := by kernel_rfl
theorem f83_n : argsOK Go.Proofs.Tryz.prog 83 2 = true := by kernel_rfl
noncomputable def f84 : AFunc := by
 refine (fun (_ : Cz zclJ zvlJ zklJ zrlJ Go.Proofs.Tryz.prog 0 [0, 1, 4, 18, 24] 84 ?a) => ?a) ?h
 case h =>
 intro zc zv zk zr hc hv hk hr
 conv => lhs; cbv; try simp only [hc, hv, hk, hr, zclJ, zvlJ, zklJ, zrlJ]
theorem f84_ok : compF Go.Proofs.Tryz.prog 0 [0, 1, 4, 18, 24] 84 = some f84 := by kernel_rfl
theorem f84_n : argsOK Go.Proofs.Tryz.prog 84 2 = true := by kernel_rfl
noncomputable def f85 : AFunc := by
 refine (fun (_ : Cz zclJ zvlJ zklJ zrlJ Go.Proofs.Tryz.prog 0 [] 85 ?a) => ?a) ?h
 case h =>
 intro zc zv zk zr hc hv hk hr
 conv => lhs; cbv; try simp only [hc, hv, hk, hr, zclJ, zvlJ, zklJ, zrlJ]
theorem f85_ok : compF Go.Proofs.Tryz.prog 0 [] 85 = some f85 := by kernel_rfl
theorem f85_n : argsOK Go.Proofs.Tryz.prog 85 0 = true := by kernel_rfl
noncomputable def f86 : AFunc := by
 refine (fun (_ : Cz zclJ zvlJ zklJ zrlJ Go.Proofs.Tryz.prog 0 [0, 1, 4, 8, 19] 86 ?a) => ?a) ?h
 case h =>
 intro zc zv zk zr hc hv hk hr
 conv => lhs; cbv; try simp only [hc, hv, hk, hr, zclJ, zvlJ, zklJ, zrlJ]
theorem f86_ok : compF Go.Proofs.Tryz.prog 0 [0, 1, 4, 8, 19] 86 = some f86 := by kernel_rfl
theorem f86_n : argsOK Go.Proofs.Tryz.prog 86 2 = true := by kernel_rfl
noncomputable def f87 : AFunc := by
 refine (fun (_ : Cz zclJ zvlJ zklJ zrlJ Go.Proofs.Tryz.prog 0 [0, 2, 14, 19] 87 ?a) => ?a) ?h
 case h =>
 intro zc zv zk zr hc hv hk hr
 conv => lhs; cbv; try simp only [hc, hv, hk, hr, zclJ, zvlJ, zklJ, zrlJ]
theorem f87_ok : compF Go.Proofs.Tryz.prog 0 [0, 2, 14, 19] 87 = some f87 := by kernel_rfl
theorem f87_n : argsOK Go.Proofs.Tryz.prog 87 1 = true := by kernel_rfl
noncomputable def f89 : AFunc := by
 refine (fun (_ : Cz zclJ zvlJ zklJ zrlJ Go.Proofs.Tryz.prog 0 [0, 1, 4, 5, 10, 26, 43] 89 ?a) => ?a) ?h
 case h =>
 intro zc zv zk zr hc hv hk hr
 conv => lhs; cbv; try simp only [hc, hv, hk, hr, zclJ, zvlJ, zklJ, zrlJ]
theorem f89_ok : compF Go.Proofs.Tryz.prog 0 [0, 1, 4, 5, 10, 26, 43] 89 = some f89 := by kernel_rfl
theorem f89_n : argsOK Go.Proofs.Tryz.prog 89 2 = true := by kernel_rfl
noncomputable def f90 : AFunc := by
 refine (fun (_ : Cz zclJ zvlJ zklJ zrlJ Go.Proofs.Tryz.prog 0 [0, 1, 4, 5, 10, 17, 25, 37] 90 ?a) => ?a) ?h
 case h =>
 intro zc zv zk zr hc hv hk hr
 conv => lhs; cbv; try simp only [hc, hv, hk, hr, zclJ, zvlJ, zklJ, zrlJ]
theorem f90_ok : compF Go.Proofs.Tryz.prog 0 [0, 1, 4, 5, 10, 17, 25, 37] 90 = some f90 := by kernel_rfl
theorem f90_n : argsOK Go.Proofs.Tryz.prog 90 2 = true := by kernel_rfl
end Go.AM.F

set_option maxRecDepth 100000
set_option maxHeartbeats 0
namespace Go.AM.F
def Z257K : List Value := [(.int .i64 0)] ++ List.replicate 256 (.int .u8 0)
def zclK : TypeId → List Value
 | 210 => [(.slice none 0 0)]
 | 114 => [(.int .i64 0), (.int .i64 0)]
 | 124 => [(.int .i64 0), (.slice none 0 0)]
 | 5 => [(.int .u8 0)]
 | 141 => Z257K
 | _ => []
def zvlK : TypeId → Value
 | 114 => (.agg #[(.int .i64 0), (.int .i64 0)])
 | 124 => (.agg #[(.int .i64 0), (.slice none 0 0)])
 | _ => undef
def zklK : TypeId → List Nat
 | _ => []
def zrlK : Nat → TypeId → List Value
 | 1, 5 => [(.int .u8 0)]
 | 3, 38 => [(.slice none 0 0), (.slice none 0 0), (.slice none 0 0)]
 | _, _ => []
noncomputable def f92 : AFunc := by
 refine (fun (_ : Cz zclK zvlK zklK zrlK Go.Proofs.Tryz.prog 0 [0, 1, 4] 92 ?a) => ?a) ?h
 case h =>
 intro zc zv zk zr hc hv hk hr
 conv => lhs; cbv; try simp only [hc, hv, hk, hr, zclK, zvlK, zklK, zrlK]
theorem f92_ok : compF Go.Proofs.Tryz.prog 0 [0, 1, 4] 92 = some f92 := by kernel_rfl
theorem f92_n : argsOK Go.Proofs.Tryz.prog 92 2 = true := by kernel_rfl
noncomputable def f94 : AFunc := by
 refine (fun (_ : Cz zclK zvlK zklK zrlK Go.Proofs.Tryz.prog 0 [0, 1, 4, 13] 94 ?a) => ?a) ?h
 case h =>
 intro zc zv zk zr hc hv hk hr
 conv => lhs; cbv; try simp only [hc, hv, hk, hr, zclK, zvlK, zklK, zrlK]
theorem f94_ok : compF Go.Proofs.Tryz.prog 0 [0, 1, 4, 13] 94 = some f94 := by kernel_rfl
theorem f94_n : argsOK Go.Proofs.Tryz.prog 94 2 = true := by kernel_rfl
noncomputable def f96 : AFunc := by
 refine (fun (_ : Cz zclK zvlK zklK zrlK Go.Proofs.Tryz.prog 0 [0, 2, 3, 6] 96 ?a) => ?a) ?h
 case h =>
 intro zc zv zk zr hc hv hk hr
 conv => lhs; cbv; try simp only [hc, hv, hk, hr, zclK, zvlK, zklK, zrlK]
theorem f96_ok : compF Go.Proofs.Tryz.prog 0 [0, 2, 3, 6] 96 = some f96 := by kernel_rfl
theorem f96_n : argsOK Go.Proofs.Tryz.prog 96 1 = true := by kernel_rfl
noncomputable def f110 : AFunc := by
 refine (fun (_ : Cz zclK zvlK zklK zrlK Go.Proofs.Tryz.prog 0 [0, 1, 2] 110 ?a) => ?a) ?h
 case h =>
 intro zc zv zk zr hc hv hk hr
 conv => lhs; cbv; try simp only [hc, hv, hk, hr, zclK, zvlK, zklK, zrlK]
theorem f110_ok : compF Go.Proofs.Tryz.prog 0 [0, 1, 2] 110 = some f110 := by kernel_rfl
theorem f110_n : argsOK Go.Proofs.Tryz.prog 110 1 = true := by kernel_rfl
noncomputable def f117 : AFunc := by
 refine (fun (_ : Cz zclK zvlK zklK zrlK Go.Proofs.Tryz.prog 0 [0, 2] 117 ?a) => ?a) ?h
 case h =>
 intro zc zv zk zr hc hv hk hr
 conv => lhs; cbv; try simp only [hc, hv, hk, hr, zclK, zvlK, zklK, zrlK]
theorem f117_ok : compF Go.Proofs.Tryz.prog 0 [0, 2] 117 = some f117 := by kernel_rfl
theorem f117_n : argsOK Go.Proofs.Tryz.prog 117 1 = true := by kernel_rfl
noncomputable def f120 : AFunc := by
 refine (fun (_ : Cz zclK zvlK zklK zrlK Go.Proofs.Tryz.prog 0 [0, 1, 4] 120 ?a) => ?a) ?h
 case h =>
 intro zc zv zk zr hc hv hk hr
 conv => lhs; cbv; try simp only [hc, hv, hk, hr, zclK, zvlK, zklK, zrlK]
theorem f120_ok : compF Go.Proofs.Tryz.prog 0 [0, 1, 4] 120 = some f120 := by kernel_rfl
theorem f120_n : argsOK Go.Proofs.Tryz.prog 120 2 = true := by kernel_rfl
noncomputable def f121 : AFunc := by
 refine (fun (_ : Cz zclK zvlK zklK zrlK Go.Proofs.Tryz.prog 0 [0, 2, 3, 4, 5, 6, 7, 8, 14] 121 ?a) => ?a) ?h
 case h =>
 intro zc zv zk zr hc hv hk hr
 conv => lhs; cbv; try simp only [hc, hv, hk, hr, zclK, zvlK, zklK, zrlK]
theorem f121_ok : compF Go.Proofs.Tryz.prog 0 [0, 2, 3, 4, 5, 6, 7, 8, 14] 121 = some f121 := by kernel_rfl
theorem f121_n : argsOK Go.Proofs.Tryz.prog 121 1 = true := by kernel_rfl
noncomputable def f122 : AFunc := by
 refine (fun (_ : Cz zclK zvlK zklK zrlK Go.Proofs.Tryz.prog 0 [0, 1, 4, 5, 18] 122 ?a) => ?a) ?h
 case h =>
 intro zc zv zk zr hc hv hk hr
 conv => lhs; cbv; try simp only [hc, hv, hk, hr, zclK, zvlK, zklK, zrlK]
theorem f122_ok : compF Go.Proofs.Tryz.prog 0 [0, 1, 4, 5, 18] 122 = some f122 := by kernel_rfl
theorem f122_n : argsOK Go.Proofs.Tryz.prog 122 2 = true := by kernel_rfl
noncomputable def f124 : AFunc := by
 refine (fun (_ : Cz zclK zvlK zklK zrlK Go.Proofs.Tryz.prog 0 [0, 1, 2, 6, 7, 16] 124 ?a) => ?a) ?h
 case h =>
 intro zc zv zk zr hc hv hk hr
 conv => lhs; cbv; try simp only [hc, hv, hk, hr, zclK, zvlK, zklK, zrlK]
theorem f124_ok : compF Go.Proofs.Tryz.prog 0 [0, 1, 2, 6, 7, 16] 124 = some f124 := by kernel_rfl
theorem f124_n : argsOK Go.Proofs.Tryz.prog 124 3 = true := by kernel_rfl
noncomputable def f126 : AFunc := by
 refine (fun (_ : Cz zclK zvlK zklK zrlK Go.Proofs.Tryz.prog 0 [0, 3, 7, 8, 9, 10] 126 ?a) => ?a) ?h
 case h =>
 intro zc zv zk zr hc hv hk hr
 conv => lhs; cbv; try simp only [hc, hv, hk, hr, zclK, zvlK, zklK, zrlK]
theorem f126_ok : compF Go.Proofs.Tryz.prog 0 [0, 3, 7, 8, 9, 10] 126 = some f126 := by kernel_rfl
theorem f126_n : argsOK Go.Proofs.Tryz.prog 126 1 = true := by kernel_rfl
noncomputable def f141 : AFunc := by
 refine (fun (_ : Cz zclK zvlK zklK zrlK Go.Proofs.Tryz.prog 0 [0, 1, 3, 8, 18] 141 ?a) => ?a) ?h
 case h =>
 intro zc zv zk zr hc hv hk hr
 conv => lhs; cbv; try simp only [hc, hv, hk, hr, zclK, zvlK, zklK, zrlK]
theorem f141_ok : compF Go.Proofs.Tryz.prog 0 [0, 1, 3, 8, 18] 141 = some f141 := by kernel_rfl
theorem f141_n : argsOK Go.Proofs.Tryz.prog 141 2 = true := by kernel_rfl
noncomputable def f156 : AFunc := by
 refine (fun (_ : Cz zclK zvlK zklK zrlK Go.Proofs.Tryz.prog 0 [0, 2, 3, 5, 6, 8, 9, 10, 11, 12, 20, 25, 26, 27, 28] 156 ?a) => ?a) ?h
 case h =>
 intro zc zv zk zr hc hv hk hr
 conv => lhs; cbv; try simp only [hc, hv, hk, hr, zclK, zvlK, zklK, zrlK]
theorem f156_ok : compF Go.Proofs.Tryz.prog 0 [0, 2, 3, 5, 6, 8, 9, 10, 11, 12, 20, 25, 26, 27, 28] 156 = some f156 := by kernel_rfl
theorem f156_n : argsOK Go.Proofs.Tryz.prog 156 1 = true := by kernel_rfl
noncomputable def f168 : AFunc := by
 refine (fun (_ : Cz zclK zvlK zklK zrlK Go.Proofs.Tryz.prog 0 [0, 1, 4, 6, 16] 168 ?a) => ?a) ?h
 case h =>
 intro zc zv zk zr hc hv hk hr
 conv => lhs; cbv; try simp only [hc, hv, hk, hr, zclK, zvlK, zklK, zrlK]
theorem f168_ok : compF Go.Proofs.Tryz.prog 0 [0, 1, 4, 6, 16] 168 = some f168 := by kernel_rfl
theorem f168_n : argsOK Go.Proofs.Tryz.prog 168 2 = true := by kernel_rfl
end Go.AM.F

set_option maxRecDepth 100000
set_option maxHeartbeats 0
namespace Go.AM.TWk
open Go.Proofs Go.AM.F Go.AM.Ev
noncomputable def RT : List RDef := [⟨133, [0, 2, 3, 4, 5, 6, 7, 9, 10, 11, 12, 13, 14, 15, 18, 22, 28, 29, 62, 80, 82, 89, 93, 94, 95, 111, 125, 126, 131], #[126], rfA Go.Proofs.Tryz.prog 13 0, rfB Go.Proofs.Tryz.prog 13 0, f13r0a, f13r0b⟩,
 ⟨37, [0, 1, 3, 4, 5, 6, 7, 9, 14, 27, 28, 29, 33], #[28, 29], rfA Go.Proofs.Tryz.prog 67 0, rfB Go.Proofs.Tryz.prog 67 0, f67r0a, f67r0b⟩]
theorem RT_ok : RTok Go.Proofs.Tryz.prog 0 RT := by
 intro d hd
 simp only [RT, List.mem_cons, List.not_mem_nil, or_false] at hd
 rcases hd with rfl | rfl
 · exact ⟨f13r0a_ok, f13r0b_ok, f13r0_n, by decide, by kernel_rfl, by kernel_rfl⟩
 · exact ⟨f67r0a_ok, f67r0b_ok, f67r0_n, by decide, by kernel_rfl, by kernel_rfl⟩
noncomputable def e3 : EF := ⟨2, f3.sl, f3.res, simpC f3.body⟩
theorem e3_ok : EFok RT Go.Proofs.Tryz.prog 0 3 e3 := ok_sf f3_ok rfl f3_n
noncomputable def e4 : EF := ⟨0, f4.sl, f4.res, simpC f4.body⟩
theorem e4_ok : EFok RT Go.Proofs.Tryz.prog 0 4 e4 := ok_sf f4_ok rfl f4_n
noncomputable def e9 : EF := ⟨1, f9.sl, f9.res, simpC f9.body⟩
theorem e9_ok : EFok RT Go.Proofs.Tryz.prog 0 9 e9 := ok_sf f9_ok rfl f9_n
noncomputable def e10 : EF := ⟨0, f10.sl, f10.res, simpC f10.body⟩
theorem e10_ok : EFok RT Go.Proofs.Tryz.prog 0 10 e10 := ok_sf f10_ok rfl f10_n
noncomputable def e11 : EF := ⟨1, f11.sl, f11.res, simpC f11.body⟩
theorem e11_ok : EFok RT Go.Proofs.Tryz.prog 0 11 e11 := ok_sf f11_ok rfl f11_n
noncomputable def e12 : EF := ⟨1, f12.sl, f12.res, simpC f12.body⟩
theorem e12_ok : EFok RT Go.Proofs.Tryz.prog 0 12 e12 := ok_sf f12_ok rfl f12_n
noncomputable def e13 : EF := ⟨1, f13.sl, f13.res, encC f13.body 0⟩
theorem e13_ok : EFok RT Go.Proofs.Tryz.prog 0 13 e13 := ok_rf f13_ok rfl f13_n (by kernel_rfl)
noncomputable def e14 : EF := ⟨1, f14.sl, f14.res, simpC f14.body⟩
theorem e14_ok : EFok RT Go.Proofs.Tryz.prog 0 14 e14 := ok_sf f14_ok rfl f14_n
noncomputable def e15 : EF := ⟨2, f15.sl, f15.res, simpC f15.body⟩
theorem e15_ok : EFok RT Go.Proofs.Tryz.prog 0 15 e15 := ok_sf f15_ok rfl f15_n
noncomputable def e16 : EF := ⟨2, f16.sl, f16.res, simpC f16.body⟩
theorem e16_ok : EFok RT Go.Proofs.Tryz.prog 0 16 e16 := ok_sf f16_ok rfl f16_n
noncomputable def e17 : EF := ⟨2, f17.sl, f17.res, simpC f17.body⟩
theorem e17_ok : EFok RT Go.Proofs.Tryz.prog 0 17 e17 := ok_sf f17_ok rfl f17_n
noncomputable def e18 : EF := ⟨2, f18.sl, f18.res, simpC f18.body⟩
theorem e18_ok : EFok RT Go.Proofs.Tryz.prog 0 18 e18 := ok_sf f18_ok rfl f18_n
noncomputable def e19 : EF := ⟨1, f19.sl, f19.res, simpC f19.body⟩
theorem e19_ok : EFok RT Go.Proofs.Tryz.prog 0 19 e19 := ok_sf f19_ok rfl f19_n
noncomputable def e20 : EF := ⟨1, f20.sl, f20.res, simpC f20.body⟩
theorem e20_ok : EFok RT Go.Proofs.Tryz.prog 0 20 e20 := ok_sf f20_ok rfl f20_n
noncomputable def e21 : EF := ⟨2, f21.sl, f21.res, simpC f21.body⟩
theorem e21_ok : EFok RT Go.Proofs.Tryz.prog 0 21 e21 := ok_sf f21_ok rfl f21_n
noncomputable def e22 : EF := ⟨2, f22.sl, f22.res, simpC f22.body⟩
theorem e22_ok : EFok RT Go.Proofs.Tryz.prog 0 22 e22 := ok_sf f22_ok rfl f22_n
noncomputable def e23 : EF := ⟨3, f23.sl, f23.res, simpC f23.body⟩
theorem e23_ok : EFok RT Go.Proofs.Tryz.prog 0 23 e23 := ok_sf f23_ok rfl f23_n
noncomputable def e24 : EF := ⟨3, f24.sl, f24.res, simpC f24.body⟩
theorem e24_ok : EFok RT Go.Proofs.Tryz.prog 0 24 e24 := ok_sf f24_ok rfl f24_n
noncomputable def e25 : EF := ⟨3, f25.sl, f25.res, simpC f25.body⟩
theorem e25_ok : EFok RT Go.Proofs.Tryz.prog 0 25 e25 := ok_sf f25_ok rfl f25_n
noncomputable def e26 : EF := ⟨2, f26.sl, f26.res, simpC f26.body⟩
theorem e26_ok : EFok RT Go.Proofs.Tryz.prog 0 26 e26 := ok_sf f26_ok rfl f26_n
noncomputable def e27 : EF := ⟨1, f27.sl, f27.res, simpC f27.body⟩
theorem e27_ok : EFok RT Go.Proofs.Tryz.prog 0 27 e27 := ok_sf f27_ok rfl f27_n
noncomputable def e28 : EF := ⟨1, f28.sl, f28.res, simpC f28.body⟩
theorem e28_ok : EFok RT Go.Proofs.Tryz.prog 0 28 e28 := ok_sf f28_ok rfl f28_n
noncomputable def e29 : EF := ⟨1, f29.sl, f29.res, simpC f29.body⟩
theorem e29_ok : EFok RT Go.Proofs.Tryz.prog 0 29 e29 := ok_sf f29_ok rfl f29_n
noncomputable def e30 : EF := ⟨1, f30.sl, f30.res, simpC f30.body⟩
theorem e30_ok : EFok RT Go.Proofs.Tryz.prog 0 30 e30 := ok_sf f30_ok rfl f30_n
noncomputable def e31 : EF := ⟨2, f31.sl, f31.res, simpC f31.body⟩
theorem e31_ok : EFok RT Go.Proofs.Tryz.prog 0 31 e31 := ok_sf f31_ok rfl f31_n
noncomputable def e32 : EF := ⟨2, f32.sl, f32.res, simpC f32.body⟩
theorem e32_ok : EFok RT Go.Proofs.Tryz.prog 0 32 e32 := ok_sf f32_ok rfl f32_n
noncomputable def e33 : EF := ⟨2, f33.sl, f33.res, simpC f33.body⟩
theorem e33_ok : EFok RT Go.Proofs.Tryz.prog 0 33 e33 := ok_sf f33_ok rfl f33_n
noncomputable def e34 : EF := ⟨2, f34.sl, f34.res, simpC f34.body⟩
theorem e34_ok : EFok RT Go.Proofs.Tryz.prog 0 34 e34 := ok_sf f34_ok rfl f34_n
noncomputable def e35 : EF := ⟨3, f35.sl, f35.res, simpC f35.body⟩
theorem e35_ok : EFok RT Go.Proofs.Tryz.prog 0 35 e35 := ok_sf f35_ok rfl f35_n
noncomputable def e36 : EF := ⟨4, f36.sl, f36.res, simpC f36.body⟩
theorem e36_ok : EFok RT Go.Proofs.Tryz.prog 0 36 e36 := ok_sf f36_ok rfl f36_n
noncomputable def e64 : EF := ⟨1, f64.sl, f64.res, simpC f64.body⟩
theorem e64_ok : EFok RT Go.Proofs.Tryz.prog 0 64 e64 := ok_sf f64_ok rfl f64_n
noncomputable def e65 : EF := ⟨1, f65.sl, f65.res, simpC f65.body⟩
theorem e65_ok : EFok RT Go.Proofs.Tryz.prog 0 65 e65 := ok_sf f65_ok rfl f65_n
noncomputable def e66 : EF := ⟨1, f66.sl, f66.res, simpC f66.body⟩
theorem e66_ok : EFok RT Go.Proofs.Tryz.prog 0 66 e66 := ok_sf f66_ok rfl f66_n
noncomputable def e67 : EF := ⟨2, f67.sl, f67.res, encC f67.body 1⟩
theorem e67_ok : EFok RT Go.Proofs.Tryz.prog 0 67 e67 := ok_rf f67_ok rfl f67_n (by kernel_rfl)
noncomputable def e68 : EF := ⟨2, f68.sl, f68.res, simpC f68.body⟩
theorem e68_ok : EFok RT Go.Proofs.Tryz.prog 0 68 e68 := ok_sf f68_ok rfl f68_n
noncomputable def e69 : EF := ⟨1, f69.sl, f69.res, simpC f69.body⟩
theorem e69_ok : EFok RT Go.Proofs.Tryz.prog 0 69 e69 := ok_sf f69_ok rfl f69_n
noncomputable def e70 : EF := ⟨3, f70.sl, f70.res, simpC f70.body⟩
theorem e70_ok : EFok RT Go.Proofs.Tryz.prog 0 70 e70 := ok_sf f70_ok rfl f70_n
noncomputable def e71 : EF := ⟨2, f71.sl, f71.res, simpC f71.body⟩
theorem e71_ok : EFok RT Go.Proofs.Tryz.prog 0 71 e71 := ok_sf f71_ok rfl f71_n
noncomputable def e72 : EF := ⟨2, f72.sl, f72.res, simpC f72.body⟩
theorem e72_ok : EFok RT Go.Proofs.Tryz.prog 0 72 e72 := ok_sf f72_ok rfl f72_n
noncomputable def e73 : EF := ⟨2, f73.sl, f73.res, simpC f73.body⟩
theorem e73_ok : EFok RT Go.Proofs.Tryz.prog 0 73 e73 := ok_sf f73_ok rfl f73_n
noncomputable def e74 : EF := ⟨1, f74.sl, f74.res, simpC f74.body⟩
theorem e74_ok : EFok RT Go.Proofs.Tryz.prog 0 74 e74 := ok_sf f74_ok rfl f74_n
noncomputable def e75 : EF := ⟨1, f75.sl, f75.res, simpC f75.body⟩
theorem e75_ok : EFok RT Go.Proofs.Tryz.prog 0 75 e75 := ok_sf f75_ok rfl f75_n
noncomputable def e76 : EF := ⟨1, f76.sl, f76.res, simpC f76.body⟩
theorem e76_ok : EFok RT Go.Proofs.Tryz.prog 0 76 e76 := ok_sf f76_ok rfl f76_n
noncomputable def e77 : EF := ⟨1, f77.sl, f77.res, simpC f77.body⟩
theorem e77_ok : EFok RT Go.Proofs.Tryz.prog 0 77 e77 := ok_sf f77_ok rfl f77_n
noncomputable def e78 : EF := ⟨2, f78.sl, f78.res, simpC f78.body⟩
theorem e78_ok : EFok RT Go.Proofs.Tryz.prog 0 78 e78 := ok_sf f78_ok rfl f78_n
noncomputable def e79 : EF := ⟨1, f79.sl, f79.res, simpC f79.body⟩
theorem e79_ok : EFok RT Go.Proofs.Tryz.prog 0 79 e79 := ok_sf f79_ok rfl f79_n
noncomputable def e80 : EF := ⟨1, f80.sl, f80.res, simpC f80.body⟩
theorem e80_ok : EFok RT Go.Proofs.Tryz.prog 0 80 e80 := ok_sf f80_ok rfl f80_n
noncomputable def e81 : EF := ⟨1, f81.sl, f81.res, simpC f81.body⟩
theorem e81_ok : EFok RT Go.Proofs.Tryz.prog 0 81 e81 := ok_sf f81_ok rfl f81_n
noncomputable def e82 : EF := ⟨1, f82.sl, f82.res, simpC f82.body⟩
theorem e82_ok : EFok RT Go.Proofs.Tryz.prog 0 82 e82 := ok_sf f82_ok rfl f82_n
noncomputable def e83 : EF := ⟨2, f83.sl, f83.res, simpC f83.body⟩
theorem e83_ok : EFok RT Go.Proofs.Tryz.prog 0 83 e83 := ok_sf f83_ok rfl f83_n
noncomputable def e84 : EF := ⟨2, f84.sl, f84.res, simpC f84.body⟩
theorem e84_ok : EFok RT Go.Proofs.Tryz.prog 0 84 e84 := ok_sf f84_ok rfl f84_n
noncomputable def e85 : EF := ⟨0, f85.sl, f85.res, simpC f85.body⟩
theorem e85_ok : EFok RT Go.Proofs.Tryz.prog 0 85 e85 := ok_sf f85_ok rfl f85_n
noncomputable def e86 : EF := ⟨2, f86.sl, f86.res, simpC f86.body⟩
theorem e86_ok : EFok RT Go.Proofs.Tryz.prog 0 86 e86 := ok_sf f86_ok rfl f86_n
noncomputable def e87 : EF := ⟨1, f87.sl, f87.res, simpC f87.body⟩
theorem e87_ok : EFok RT Go.Proofs.Tryz.prog 0 87 e87 := ok_sf f87_ok rfl f87_n
noncomputable def e88 : EF := ⟨2, f88.sl, f88.res, simpC f88.body⟩
theorem e88_ok : EFok RT Go.Proofs.Tryz.prog 0 88 e88 := ok_sf f88_ok rfl f88_n
noncomputable def e89 : EF := ⟨2, f89.sl, f89.res, simpC f89.body⟩
theorem e89_ok : EFok RT Go.Proofs.Tryz.prog 0 89 e89 := ok_sf f89_ok rfl f89_n
noncomputable def e90 : EF := ⟨2, f90.sl, f90.res, simpC f90.body⟩
theorem e90_ok : EFok RT Go.Proofs.Tryz.prog 0 90 e90 := ok_sf f90_ok rfl f90_n
noncomputable def e91 : EF := ⟨1, f91.sl, f91.res, simpC f91.body⟩
theorem e91_ok : EFok RT Go.Proofs.Tryz.prog 0 91 e91 := ok_sf f91_ok rfl f91_n
noncomputable def e92 : EF := ⟨2, f92.sl, f92.res, simpC f92.body⟩
theorem e92_ok : EFok RT Go.Proofs.Tryz.prog 0 92 e92 := ok_sf f92_ok rfl f92_n
noncomputable def e93 : EF := ⟨2, f93.sl, f93.res, simpC f93.body⟩
theorem e93_ok : EFok RT Go.Proofs.Tryz.prog 0 93 e93 := ok_sf f93_ok rfl f93_n
noncomputable def e94 : EF := ⟨2, f94.sl, f94.res, simpC f94.body⟩
theorem e94_ok : EFok RT Go.Proofs.Tryz.prog 0 94 e94 := ok_sf f94_ok rfl f94_n
noncomputable def e95 : EF := ⟨3, f95.sl, f95.res, simpC f95.body⟩
theorem e95_ok : EFok RT Go.Proofs.Tryz.prog 0 95 e95 := ok_sf f95_ok rfl f95_n
noncomputable def e96 : EF := ⟨1, f96.sl, f96.res, simpC f96.body⟩
theorem e96_ok : EFok RT Go.Proofs.Tryz.prog 0 96 e96 := ok_sf f96_ok rfl f96_n
noncomputable def e110 : EF := ⟨1, f110.sl, f110.res, simpC f110.body⟩
theorem e110_ok : EFok RT Go.Proofs.Tryz.prog 0 110 e110 := ok_sf f110_ok rfl f110_n
noncomputable def e114 : EF := ⟨1, f114.sl, f114.res, simpC f114.body⟩
theorem e114_ok : EFok RT Go.Proofs.Tryz.prog 0 114 e114 := ok_sf f114_ok rfl f114_n
noncomputable def e115 : EF := ⟨1, f115.sl, f115.res, simpC f115.body⟩
theorem e115_ok : EFok RT Go.Proofs.Tryz.prog 0 115 e115 := ok_sf f115_ok rfl f115_n
noncomputable def e116 : EF := ⟨1, f116.sl, f116.res, simpC f116.body⟩
theorem e116_ok : EFok RT Go.Proofs.Tryz.prog 0 116 e116 := ok_sf f116_ok rfl f116_n
noncomputable def e117 : EF := ⟨1, f117.sl, f117.res, simpC f117.body⟩
theorem e117_ok : EFok RT Go.Proofs.Tryz.prog 0 117 e117 := ok_sf f117_ok rfl f117_n
noncomputable def e118 : EF := ⟨1, f118.sl, f118.res, simpC f118.body⟩
theorem e118_ok : EFok RT Go.Proofs.Tryz.prog 0 118 e118 := ok_sf f118_ok rfl f118_n
noncomputable def e119 : EF := ⟨2, f119.sl, f119.res, simpC f119.body⟩
theorem e119_ok : EFok RT Go.Proofs.Tryz.prog 0 119 e119 := ok_sf f119_ok rfl f119_n
noncomputable def e120 : EF := ⟨2, f120.sl, f120.res, simpC f120.body⟩
theorem e120_ok : EFok RT Go.Proofs.Tryz.prog 0 120 e120 := ok_sf f120_ok rfl f120_n
noncomputable def e121 : EF := ⟨1, f121.sl, f121.res, simpC f121.body⟩
theorem e121_ok : EFok RT Go.Proofs.Tryz.prog 0 121 e121 := ok_sf f121_ok rfl f121_n
noncomputable def e122 : EF := ⟨2, f122.sl, f122.res, simpC f122.body⟩
theorem e122_ok : EFok RT Go.Proofs.Tryz.prog 0 122 e122 := ok_sf f122_ok rfl f122_n
noncomputable def e123 : EF := ⟨1, f123.sl, f123.res, simpC f123.body⟩
theorem e123_ok : EFok RT Go.Proofs.Tryz.prog 0 123 e123 := ok_sf f123_ok rfl f123_n
noncomputable def e124 : EF := ⟨3, f124.sl, f124.res, simpC f124.body⟩
theorem e124_ok : EFok RT Go.Proofs.Tryz.prog 0 124 e124 := ok_sf f124_ok rfl f124_n
noncomputable def e126 : EF := ⟨1, f126.sl, f126.res, simpC f126.body⟩
theorem e126_ok : EFok RT Go.Proofs.Tryz.prog 0 126 e126 := ok_sf f126_ok rfl f126_n
noncomputable def e141 : EF := ⟨2, f141.sl, f141.res, simpC f141.body⟩
theorem e141_ok : EFok RT Go.Proofs.Tryz.prog 0 141 e141 := ok_sf f141_ok rfl f141_n
noncomputable def e147 : EF := ⟨2, f147.sl, f147.res, simpC f147.body⟩
theorem e147_ok : EFok RT Go.Proofs.Tryz.prog 0 147 e147 := ok_sf f147_ok rfl f147_n
noncomputable def e148 : EF := ⟨2, f148.sl, f148.res, simpC f148.body⟩
theorem e148_ok : EFok RT Go.Proofs.Tryz.prog 0 148 e148 := ok_sf f148_ok rfl f148_n
noncomputable def e149 : EF := ⟨2, f149.sl, f149.res, simpC f149.body⟩
theorem e149_ok : EFok RT Go.Proofs.Tryz.prog 0 149 e149 := ok_sf f149_ok rfl f149_n
noncomputable def e150 : EF := ⟨2, f150.sl, f150.res, simpC f150.body⟩
theorem e150_ok : EFok RT Go.Proofs.Tryz.prog 0 150 e150 := ok_sf f150_ok rfl f150_n
noncomputable def e151 : EF := ⟨2, f151.sl, f151.res, simpC f151.body⟩
theorem e151_ok : EFok RT Go.Proofs.Tryz.prog 0 151 e151 := ok_sf f151_ok rfl f151_n
noncomputable def e152 : EF := ⟨2, f152.sl, f152.res, simpC f152.body⟩
theorem e152_ok : EFok RT Go.Proofs.Tryz.prog 0 152 e152 := ok_sf f152_ok rfl f152_n
noncomputable def e153 : EF := ⟨2, f153.sl, f153.res, simpC f153.body⟩
theorem e153_ok : EFok RT Go.Proofs.Tryz.prog 0 153 e153 := ok_sf f153_ok rfl f153_n
noncomputable def e155 : EF := ⟨1, f155.sl, f155.res, simpC f155.body⟩
theorem e155_ok : EFok RT Go.Proofs.Tryz.prog 0 155 e155 := ok_sf f155_ok rfl f155_n
noncomputable def e156 : EF := ⟨1, f156.sl, f156.res, simpC f156.body⟩
theorem e156_ok : EFok RT Go.Proofs.Tryz.prog 0 156 e156 := ok_sf f156_ok rfl f156_n
noncomputable def e164 : EF := ⟨2, f164.sl, f164.res, simpC f164.body⟩
theorem e164_ok : EFok RT Go.Proofs.Tryz.prog 0 164 e164 := ok_sf f164_ok rfl f164_n
noncomputable def e165 : EF := ⟨2, f165.sl, f165.res, simpC f165.body⟩
theorem e165_ok : EFok RT Go.Proofs.Tryz.prog 0 165 e165 := ok_sf f165_ok rfl f165_n
noncomputable def e168 : EF := ⟨2, f168.sl, f168.res, simpC f168.body⟩
theorem e168_ok : EFok RT Go.Proofs.Tryz.prog 0 168 e168 := ok_sf f168_ok rfl f168_n
noncomputable def e172 : EF := ⟨1, f172.sl, f172.res, simpC f172.body⟩
theorem e172_ok : EFok RT Go.Proofs.Tryz.prog 0 172 e172 := ok_sf f172_ok rfl f172_n
noncomputable def tab : Ev.FT := (.node 80 e80 (.node 30 e30 (.node 18 e18 (.node 12 e12 (.node 9 e9 (.node 4 e4 (.node 3 e3 .leaf .leaf) .leaf) (.node 11 e11 (.node 10 e10 .leaf .leaf) .leaf)) (.node 15 e15 (.node 14 e14 (.node 13 e13 .leaf .leaf) .leaf) (.node 17 e17 (.node 16 e16 .leaf .leaf) .leaf))) (.node 24 e24 (.node 21 e21 (.node 20 e20 (.node 19 e19 .leaf .leaf) .leaf) (.node 23 e23 (.node 22 e22 .leaf .leaf) .leaf)) (.node 27 e27 (.node 26 e26 (.node 25 e25 .leaf .leaf) .leaf) (.node 29 e29 (.node 28 e28 .leaf .leaf) .leaf)))) (.node 69 e69 (.node 36 e36 (.node 33 e33 (.node 32 e32 (.node 31 e31 .leaf .leaf) .leaf) (.node 35 e35 (.node 34 e34 .leaf .leaf) .leaf)) (.node 66 e66 (.node 65 e65 (.node 64 e64 .leaf .leaf) .leaf) (.node 68 e68 (.node 67 e67 .leaf .leaf) .leaf))) (.node 75 e75 (.node 72 e72 (.node 71 e71 (.node 70 e70 .leaf .leaf) .leaf) (.node 74 e74 (.node 73 e73 .leaf .leaf) .leaf)) (.node 78 e78 (.node 77 e77 (.node 76 e76 .leaf .leaf) .leaf) (.node 79 e79 .leaf .leaf))))) (.node 119 e119 (.node 92 e92 (.node 86 e86 (.node 83 e83 (.node 82 e82 (.node 81 e81 .leaf .leaf) .leaf) (.node 85 e85 (.node 84 e84 .leaf .leaf) .leaf)) (.node 89 e89 (.node 88 e88 (.node 87 e87 .leaf .leaf) .leaf) (.node 91 e91 (.node 90 e90 .leaf .leaf) .leaf))) (.hook 112 cntH (.node 95 e95 (.node 94 e94 (.node 93 e93 .leaf .leaf) .leaf) (.node 110 e110 (.node 96 e96 .leaf .leaf) .leaf)) (.node 116 e116 (.node 115 e115 (.node 114 e114 .leaf .leaf) .leaf) (.node 118 e118 (.node 117 e117 .leaf .leaf) .leaf)))) (.node 150 e150 (.hook 125 sumH (.node 122 e122 (.node 121 e121 (.node 120 e120 .leaf .leaf) .leaf) (.node 124 e124 (.node 123 e123 .leaf .leaf) .leaf)) (.node 147 e147 (.node 141 e141 (.node 126 e126 .leaf .leaf) .leaf) (.node 149 e149 (.node 148 e148 .leaf .leaf) .leaf))) (.node 156 e156 (.node 153 e153 (.node 152 e152 (.node 151 e151 .leaf .leaf) .leaf) (.node 155 e155 (.hook 154 sumH .leaf .leaf) .leaf)) (.node 168 e168 (.node 165 e165 (.node 164 e164 .leaf .leaf) .leaf) (.node 172 e172 .leaf .leaf))))))
theorem tab_ok : tab.ok RT Go.Proofs.Tryz.prog 0 := ⟨e80_ok, ⟨e30_ok, ⟨e18_ok, ⟨e12_ok, ⟨e9_ok, ⟨e4_ok, ⟨e3_ok, trivial, trivial⟩, trivial⟩, ⟨e11_ok, ⟨e10_ok, trivial, trivial⟩, trivial⟩⟩, ⟨e15_ok, ⟨e14_ok, ⟨e13_ok, trivial, trivial⟩, trivial⟩, ⟨e17_ok, ⟨e16_ok, trivial, trivial⟩, trivial⟩⟩⟩, ⟨e24_ok, ⟨e21_ok, ⟨e20_ok, ⟨e19_ok, trivial, trivial⟩, trivial⟩, ⟨e23_ok, ⟨e22_ok, trivial, trivial⟩, trivial⟩⟩, ⟨e27_ok, ⟨e26_ok, ⟨e25_ok, trivial, trivial⟩, trivial⟩, ⟨e29_ok, ⟨e28_ok, trivial, trivial⟩, trivial⟩⟩⟩⟩, ⟨e69_ok, ⟨e36_ok, ⟨e33_ok, ⟨e32_ok, ⟨e31_ok, trivial, trivial⟩, trivial⟩, ⟨e35_ok, ⟨e34_ok, trivial, trivial⟩, trivial⟩⟩, ⟨e66_ok, ⟨e65_ok, ⟨e64_ok, trivial, trivial⟩, trivial⟩, ⟨e68_ok, ⟨e67_ok, trivial, trivial⟩, trivial⟩⟩⟩, ⟨e75_ok, ⟨e72_ok, ⟨e71_ok, ⟨e70_ok, trivial, trivial⟩, trivial⟩, ⟨e74_ok, ⟨e73_ok, trivial, trivial⟩, trivial⟩⟩, ⟨e78_ok, ⟨e77_ok, ⟨e76_ok, trivial, trivial⟩, trivial⟩, ⟨e79_ok, trivial, trivial⟩⟩⟩⟩⟩, ⟨e119_ok, ⟨e92_ok, ⟨e86_ok, ⟨e83_ok, ⟨e82_ok, ⟨e81_ok, trivial, trivial⟩, trivial⟩, ⟨e85_ok, ⟨e84_ok, trivial, trivial⟩, trivial⟩⟩, ⟨e89_ok, ⟨e88_ok, ⟨e87_ok, trivial, trivial⟩, trivial⟩, ⟨e91_ok, ⟨e90_ok, trivial, trivial⟩, trivial⟩⟩⟩, ⟨cnt112, ⟨e95_ok, ⟨e94_ok, ⟨e93_ok, trivial, trivial⟩, trivial⟩, ⟨e110_ok, ⟨e96_ok, trivial, trivial⟩, trivial⟩⟩, ⟨e116_ok, ⟨e115_ok, ⟨e114_ok, trivial, trivial⟩, trivial⟩, ⟨e118_ok, ⟨e117_ok, trivial, trivial⟩, trivial⟩⟩⟩⟩, ⟨e150_ok, ⟨sum125, ⟨e122_ok, ⟨e121_ok, ⟨e120_ok, trivial, trivial⟩, trivial⟩, ⟨e124_ok, ⟨e123_ok, trivial, trivial⟩, trivial⟩⟩, ⟨e147_ok, ⟨e141_ok, ⟨e126_ok, trivial, trivial⟩, trivial⟩, ⟨e149_ok, ⟨e148_ok, trivial, trivial⟩, trivial⟩⟩⟩, ⟨e156_ok, ⟨e153_ok, ⟨e152_ok, ⟨e151_ok, trivial, trivial⟩, trivial⟩, ⟨e155_ok, ⟨sum154, trivial, trivial⟩, trivial⟩⟩, ⟨e168_ok, ⟨e165_ok, ⟨e164_ok, trivial, trivial⟩, trivial⟩, ⟨e172_ok, trivial, trivial⟩⟩⟩⟩⟩⟩
end Go.AM.TWk

set_option linter.unusedSimpArgs false
set_option linter.unusedVariables false
namespace Go.AM
namespace Ev
variable {RT : List RDef} {P : Program}
theorem closed_at {f : FuncId} {args : List Value} {H0 H H0' : AHeap} (h : ARun P 0 f args H0 (.bool true) H0') (hn : H0.n = H.n) (hno : ∀ b o, H0.get b = some o → o.own = false)
    (hsub : ∀ b o, H.get b = some o → ∃ o0, H0.get b = some o0 ∧ ∀ (σ : Sg) (w : World) (i : BI), OR σ w i o → OR σ w i o0) : ARun P 0 f args H (.bool true) H := by
  obtain ⟨h0, _, h1⟩ := h
  refine ⟨h0, Nat.le_refl _, fun σ w args' hr ha => ?_⟩
  have hr0 : HR 0 σ H0.get w := by
    refine ⟨fun b i hb => ?_, fun b1 b2 i1 i2 o1 o2 hne h1 h2 h3 h4 h5 h6 => ?_, hr.lt, fun g hg => absurd hg (Nat.not_lt_zero g)⟩
    · obtain ⟨o, a1, a2⟩ := hr.obj b i hb
      obtain ⟨o0, a3, a4⟩ := hsub b o a1
      exact ⟨o0, a3, a4 σ w i a2⟩
    · rw [hno b1 o1 h3] at h5; cases h5
  refine (h1 σ w args' hr0 ha).mono ?_
  rintro e w' ⟨v', σ', rfl, k1, k2, k3⟩
  have hk : ∀ k, k < w.heap.size → w'.heap[k]? = w.heap[k]? := fun k hk => k2.keep k hk (fun b i o hb ho hown => by rw [hno b o ho] at hown; cases hown)
  have hsz := k2.size
  refine ⟨v', σ, rfl, ⟨fun b i hb => ?_, hr.inj, fun b i hb => Nat.lt_of_lt_of_le (hr.lt b i hb) hsz, hr.glob⟩, ⟨Sg.le.refl σ, (fun b i h1 h2 => by rw [h1] at h2; cases h2), fun _ _ o' _ a b => ⟨o', a, b⟩, fun _ _ o' _ a b => ⟨o', a, b⟩, fun k a _ => hk k a, hsz, Nat.le_refl _, k2.os, k2.tape, k2.output⟩, ?_⟩
  · obtain ⟨o, a1, a2⟩ := hr.obj b i hb
    exact ⟨o, a1, a2.congr (fun _ => hk _ (hr.lt b i hb))⟩
  · rw [k3.bool_inv]; exact .bool _
noncomputable def allocs (l : List AO) : Nat → HT → (Nat → HT → Bool) → Bool :=
  List.rec (motive := fun _ => Nat → HT → (Nat → HT → Bool) → Bool) (fun n t K => K n t) (fun o _ ih n t K => allocT o n t fun n t => ih n t K) l
def notLoop : AO → Bool
  | .loop .. => false
  | _ => true
theorem dec_notLoop {o : AO} (h : notLoop o = true) : dec RT o = o := by cases o <;> first | rfl | cases h
theorem allocs_true : ∀ {l : List AO} {n : Nat} {t : HT} {K : Nat → HT → Bool} {H : AHeap}, allocs l n t K = true → l.all notLoop = true → Rp RT n t H → ∃ n' t', K n' t' = true ∧ Rp RT n' t' (l.foldl AHeap.alloc H)
  | [], n, t, K, H, h, _, r => ⟨n, t, h, r⟩
  | o :: l, n, t, K, H, h, hl, r => by
    simp only [List.all_cons, Bool.and_eq_true] at hl
    have h' : allocT o n t (fun n t => allocs l n t K) = true := h
    obtain ⟨n', t', h1, h2⟩ := r.allocT h' (dec_notLoop hl.1)
    exact allocs_true (l := l) h1 hl.2 h2
theorem foldl_alloc_get : ∀ (l : List AO) (H : AHeap), (l.foldl AHeap.alloc H).n = H.n + l.length ∧ ∀ b, (l.foldl AHeap.alloc H).get b = if b < H.n then H.get b else l[b - H.n]?
  | [], H => ⟨rfl, fun b => by
      simp only [List.foldl_nil, List.getElem?_nil]
      split
      · rfl
      · rename_i hb
        simp only [AHeap.get, if_neg hb]⟩
  | o :: l, H => by
    obtain ⟨h1, h2⟩ := foldl_alloc_get l (H.alloc o)
    refine ⟨by simp only [List.foldl_cons, h1, alloc_n, List.length_cons]; omega, fun b => ?_⟩
    simp only [List.foldl_cons, h2, alloc_n, alloc_get]
    by_cases hb : b < H.n
    · rw [if_pos (by omega), if_neg (by omega), if_pos hb]
    · rw [if_neg hb]
      by_cases hb2 : b = H.n
      · subst hb2
        rw [if_pos (by omega), if_pos rfl]; simp
      · rw [if_neg (by omega)]
        have : b - H.n = (b - (H.n + 1)) + 1 := by omega
        rw [this, List.getElem?_cons_succ]
def likeB (o : AO) : AO → Bool
  | .dead => true
  | .cells false room esz c e => match o with
    | .cells _ room' esz' c' e' => match room == room', Nat.beq esz esz', Nat.beq e e' with
      | true, true, true => valsEq c c'
      | _, _, _ => false
    | _ => false
  | _ => false
theorem likeB_true {o s : AO} (h : likeB o s = true) (σ : Sg) (w : World) (i : BI) (k : OR σ w i o) : OR σ w i s := by
  unfold likeB at h
  split at h
  · trivial
  · split at h
    · split at h
      · rename_i e1 e2 e3
        have := eq_of_beq e1
        have := Nat.eq_of_beq_eq_true e2
        have := Nat.eq_of_beq_eq_true e3
        have := valsEq_true h
        subst_vars
        exact OR.unown k
      · cases h
    · cases h
  · cases h
noncomputable def chkT (l : List AO) : Nat → HT → Bool → Bool :=
  List.rec (motive := fun _ => Nat → HT → Bool → Bool) (fun _ _ K => K) (fun s _ ih b t K => asT (t.getK b fun _ => true) (match s with
    | .dead => forceN (b + 1) fun b => ih b t K
    | s => asT (t.getK b fun o => likeB o s) (forceN (b + 1) fun b => ih b t K))) l
theorem chkT_true {n : Nat} {t : HT} {H : AHeap} (r : Rp RT n t H) : ∀ {l : List AO} {b : Nat} {K : Bool}, chkT l b t K = true → K = true ∧ ∀ (j : Nat) (s : AO), l[j]? = some s → ∃ o, H.get (b + j) = some o ∧ ∀ (σ : Sg) (w : World) (i : BI), OR σ w i o → OR σ w i s
  | [], b, K, h => ⟨h, fun j s hs => by simp at hs⟩
  | s :: l, b, K, h => by
    obtain ⟨h1, h2⟩ := asT_true h
    obtain ⟨o, g1, _⟩ := r.getd h1
    have key : (∀ (σ : Sg) (w : World) (i : BI), OR σ w i (dec RT o) → OR σ w i s) ∧ chkT l (b + 1) t K = true := by
      by_cases hd : s = .dead
      · subst hd
        simp only [forceN_eq] at h2
        exact ⟨fun _ _ _ _ => trivial, h2⟩
      · have h3 : (t.getK b fun o => likeB o s) = true ∧ chkT l (b + 1) t K = true := by
          cases s <;> first | exact absurd rfl hd | (simp only [forceN_eq] at h2; exact asT_true h2)
        obtain ⟨o2, g2, g3⟩ := r.getK h3.1 (fun own st pe L => by cases s <;> first | exact absurd rfl hd | rfl | (rename_i own' _ _ _ _; cases own' <;> rfl))
        rw [g1] at g2
        cases g2
        exact ⟨fun σ w i k => likeB_true g3 σ w i k, h3.2⟩
    obtain ⟨k1, k2⟩ := chkT_true r (l := l) key.2
    refine ⟨k1, fun j s' hs => ?_⟩
    cases j with
    | zero => simp at hs; subst hs; exact ⟨_, g1, key.1⟩
    | succ j =>
      obtain ⟨o', q1, q2⟩ := k2 j s' (by simpa using hs)
      exact ⟨o', by rw [← q1]; congr 1; omega, q2⟩
noncomputable def partH (spec : List AO) (args : List Value) : HF := fun xs n t K => asT (valsEq xs args) (asT (Nat.beq n spec.length) (chkT spec 0 t (K (.bool true) n t)))
theorem part_ok {k : Nat} {spec : List AO} {args : List Value} {H0' : AHeap} (h : ARun P 0 k args (spec.foldl AHeap.alloc ⟨0, []⟩) (.bool true) H0') (hno : (spec.all fun o => !o.own) = true) : HFok RT P 0 k (partH spec args) := HFok.of fun xs n t K h1 H r => by
  obtain ⟨h2, h3⟩ := asT_true h1
  obtain ⟨h4, h5⟩ := asT_true h3
  obtain ⟨h6, h7⟩ := chkT_true r h5
  have hx := valsEq_true h2
  subst hx
  have hl := Nat.eq_of_beq_eq_true h4
  obtain ⟨f1, f2⟩ := foldl_alloc_get spec ⟨0, []⟩
  have hget : ∀ b, (spec.foldl AHeap.alloc ⟨0, []⟩).get b = spec[b]? := fun b => by rw [f2 b]; simp
  refine ⟨_, closed_at h ?_ ?_ ?_, h6⟩
  · rw [f1, r.n, hl]; simp
  · intro b o hb
    rw [hget] at hb
    have := List.all_eq_true.1 hno o (List.mem_of_getElem? hb)
    simpa using this
  · intro b o hb
    have hlt : b < spec.length := by
      have := AHeap.get_lt hb
      rw [r.n] at this; omega
    refine ⟨spec[b], by rw [hget, List.getElem?_eq_getElem hlt], ?_⟩
    obtain ⟨o', q1, q2⟩ := h7 b spec[b] (List.getElem?_eq_getElem hlt)
    rw [Nat.zero_add, hb] at q1
    cases q1
    exact q2
theorem part_run {ng : Nat} {T : FT} (hT : T.ok RT P 0) (hR : RTok P 0 RT) {spec : List AO} {args : List Value} {fuel k : Nat} (h : allocs spec 0 .leaf (fun n t => runF T RT fuel k args n t isTrue) = true) (hl : spec.all notLoop = true) :
    ∃ H0', ARun P 0 k args (spec.foldl AHeap.alloc ⟨0, []⟩) (.bool true) H0' := by
  obtain ⟨n, t, h1, h2⟩ := allocs_true h hl Rp.empty
  obtain ⟨v, H', h3, n', t', _, h4⟩ := runF_sound hT hR h1 h2
  have hv : v = .bool true := by
    unfold isTrue at h4
    split at h4
    · cases h4; rfl
    · cases h4
  subst hv
  exact ⟨_, h3⟩
theorem part_hook {T : FT} (hT : T.ok RT P 0) (hR : RTok P 0 RT) {spec : List AO} {args : List Value} {fuel k : Nat} (h : allocs spec 0 .leaf (fun n t => runF T RT fuel k args n t isTrue) = true) (hl : spec.all notLoop = true) (hno : (spec.all fun o => !o.own) = true) : HFok RT P 0 k (partH spec args) := by
  obtain ⟨_, h2⟩ := part_run (ng := 0) hT hR h hl
  exact part_ok h2 hno
noncomputable def orH (a b : HF) : HF := fun xs n t K => Bool.rec (motive := fun _ => Bool) (b xs n t K) true (a xs n t K)
theorem orH_ok {k : Nat} {a b : HF} (ha : HFok RT P 0 k a) (hb : HFok RT P 0 k b) : HFok RT P 0 k (orH a b) := fun xs n t K h H r => by
  unfold orH at h
  cases e : a xs n t K
  · rw [e] at h; exact hb xs n t K h H r
  · exact ha xs n t K e H r
end Ev
end Go.AM
