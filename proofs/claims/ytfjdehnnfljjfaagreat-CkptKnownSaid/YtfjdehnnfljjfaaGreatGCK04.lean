/- Part of the proof. -/
import Derived.Test.YtfjdehnnfljjfaaGreatGCK03
import Derived.Laws.Externs
import Derived.RangeFuncLeaves
import Derived.WalkLawsBesides
import Derived.Defers
import Derived.Recover
set_option linter.unusedSimpArgs false
set_option linter.unusedVariables false
set_option linter.unusedSimpArgs false
set_option linter.unusedVariables false
namespace Go.AM
namespace Ev
variable {RT : List RDef}
abbrev YC := Nat → List Value → Nat → HT → CK → Bool
noncomputable def stepX (call : Caller) (yc : YC) (op : AOp AX) (fr tm : List Value) (n : Nat) (t : HT) (K : CK) : Bool := match op with
  | .mov x => evX x fr tm fun v => K v n t
  | .pick c a b => evX c fr tm fun c => evX a fr tm fun a => evX b fr tm fun b => stepT (.pick c a b) n t K
  | .new e s z => stepT (.new e s z) n t K
  | .box e s x => evX x fr tm fun x => stepT (.box e s x) n t K
  | .build z ps => evPs ps fr tm fun ps => stepT (.build z ps) n t K
  | .bslice e s m z ps => evPs ps fr tm fun ps => stepT (.bslice e s m z ps) n t K
  | .load1 x => evX x fr tm fun x => stepT (.load1 x) n t K
  | .loadn m x => evX x fr tm fun x => stepT (.loadn m x) n t K
  | .store1 a x => evX a fr tm fun a => evX x fr tm fun x => stepT (.store1 a x) n t K
  | .storen m a x => evX a fr tm fun a => evX x fr tm fun x => stepT (.storen m a x) n t K
  | .nilck x => evX x fr tm fun x => stepT (.nilck x) n t K
  | .bin op x y => evX x fr tm fun x => evX y fr tm fun y => binT op x y fun v => K v n t
  | .eqv k m x y => evX x fr tm fun x => evX y fr tm fun y => stepT (.eqv k m x y) n t K
  | .un op x => evX x fr tm fun x => stepT (.un op x) n t K
  | .i2i k x => evX x fr tm fun x => stepT (.i2i k x) n t K
  | .s2s x => evX x fr tm fun x => stepT (.s2s x) n t K
  | .s2b e x => evX x fr tm fun x => stepT (.s2b e x) n t K
  | .b2s x => evX x fr tm fun x => stepT (.b2s x) n t K
  | .iface u x => evX x fr tm fun x => K (.iface u x) n t
  | .mkfn fn xs ys => evXs xs fr tm fun xs => evXs ys fr tm fun ys => stepT (.mkfn fn xs ys) n t K
  | .mksl e s b z l c => evX l fr tm fun l => evX c fr tm fun c => stepT (.mksl e s b z l c) n t K
  | .slstr x lo hi => evX x fr tm fun x => evO lo fr tm fun lo => evO hi fr tm fun hi => stepT (.slstr x lo hi) n t K
  | .slsl s x lo hi mx => evX x fr tm fun x => evO lo fr tm fun lo => evO hi fr tm fun hi => evO mx fr tm fun mx => stepT (.slsl s x lo hi mx) n t K
  | .faddr o x => evX x fr tm fun x => stepT (.faddr o x) n t K
  | .fld1 o x => evX x fr tm fun x => stepT (.fld1 o x) n t K
  | .fldn o m x => evX x fr tm fun x => stepT (.fldn o m x) n t K
  | .iaddr s x i => evX x fr tm fun x => evX i fr tm fun i => stepT (.iaddr s x i) n t K
  | .idxs x i => evX x fr tm fun x => evX i fr tm fun i => stepT (.idxs x i) n t K
  | .assert u z ok x => evX x fr tm fun x => stepT (.assert u z ok x) n t K
  | .extract x i => evX x fr tm fun x => stepT (.extract x i) n t K
  | .len s x => evX x fr tm fun x => stepT (.len s x) n t K
  | .app e s b x y => evX x fr tm fun x => evX y fr tm fun y => stepT (.app e s b x y) n t K
  | .mark x => evX x fr tm fun x => stepT (.mark x) n t K
  | .iaddrp s m x i => evX x fr tm fun x => evX i fr tm fun i => stepT (.iaddrp s m x i) n t K
  | .idxa a s m x i => evX x fr tm fun x => evX i fr tm fun i => stepT (.idxa a s m x i) n t K
  | .slarr s m x lo hi mx => evX x fr tm fun x => evO lo fr tm fun lo => evO hi fr tm fun hi => evO mx fr tm fun mx => stepT (.slarr s m x lo hi mx) n t K
  | .eqs cs m x y => evX x fr tm fun x => evX y fr tm fun y => stepT (.eqs cs m x y) n t K
  | .mm m x y => evX x fr tm fun x => evX y fr tm fun y => stepT (.mm m x y) n t K
  | .i2str x => evX x fr tm fun x => stepT (.i2str x) n t K
  | .rng x => evX x fr tm fun x => stepT (.rng x) n t K
  | .next x => evX x fr tm fun x => stepT (.next x) n t K
  | .copy s d x => evX d fr tm fun d => evX x fr tm fun x => stepT (.copy s d x) n t K
  | .clr s z x => evX x fr tm fun x => stepT (.clr s z x) n t K
  | .apps e b x y => evX x fr tm fun x => evX y fr tm fun y => stepT (.apps e b x y) n t K
  | .callf f xs => evXs xs fr tm fun xs => call f xs n t K
  | .callv f xs => evX f fr tm fun f => evXs xs fr tm fun xs => match f with
    | .func (.func g) first cap => call g (first.toList ++ xs ++ cap.toList) n t K
    | .chan (some b) => yc b xs n t K
    | _ => false
  | .mm4 m x y z w => evX x fr tm fun x => evX y fr tm fun y => evX z fr tm fun z => evX w fr tm fun w => stepT (.mm4 m x y z w) n t K
  | .mkmap => stepT .mkmap n t K
  | .mget kk z ok m k => evX m fr tm fun m => evX k fr tm fun k => stepT (.mget kk z ok m k) n t K
  | .mset kk m k x => evX m fr tm fun m => evX k fr tm fun k => evX x fr tm fun x => stepT (.mset kk m k x) n t K
  | .cap x => evX x fr tm fun x => stepT (.cap x) n t K
  | .inv .. => false
  | .appz e s b z x y => evX x fr tm fun x => evX y fr tm fun y => stepT (.appz e s b z x y) n t K
  | .bad => false
def CallOK (RT : List RDef) (P : Program) (ng : Nat) (call : Caller) : Prop := ∀ f xs n t K, call f xs n t K = true → ∀ H, Rp RT n t H → ∃ v H', ARun P ng f xs H v H' ∧ KP RT K v H'
def YOK (RT : List RDef) (P : Program) (ng : Nat) (yc : YC) : Prop := ∀ b xs n t K, yc b xs n t K = true → ∀ H, Rp RT n t H → ∃ v H', AYield P ng b xs H v H' ∧ KP RT K v H'
theorem stepX_sound {P : Program} {ng : Nat} {call : Caller} {yc : YC} (hc : CallOK RT P ng call) (hy : YOK RT P ng yc) {op : AOp AX} {fr tm : List Value} {n : Nat} {t : HT} {K : CK} (h : stepX call yc op fr tm n t K = true) {H : AHeap} (r : Rp RT n t H) :
    stepA P ng (op.map (AX.ev fr tm)) H (KP RT K) := by
  have fin : ∀ {o : AOp Value}, stepT o n t K = true → stepA P ng o H (KP RT K) := by
    intro o ho
    obtain ⟨v, H', h1, h2⟩ := stepT_sound r ho
    exact stepA_of h1 h2
  cases op <;> simp only [stepX, evX_eq, evXs_eq, evO_eq, evPs_eq] at h <;> simp only [AOp.map] <;> try exact fin h
  case callf f xs => exact hc _ _ _ _ _ h H r
  case callv f xs =>
    simp only [stepA]
    split at h
    · rename_i g first cap hf
      rw [hf]
      exact hc _ _ _ _ _ h H r
    · rename_i b hf
      rw [hf]
      exact hy _ _ _ _ _ h H r
    · cases h
noncomputable def runOps (call : Caller) (yc : YC) (ops : List AOper) : List Value → List Value → Nat → HT → FK → Bool :=
  List.rec (motive := fun _ => List Value → List Value → Nat → HT → FK → Bool) (fun fr _ n t K => K fr n t)
    (fun o _ ih fr tm n t K => wantK o.g fr tm fun b => Bool.rec (motive := fun _ => Bool)
      (dstK o.dst undef fr tm fun fr tm => ih fr tm n t K)
      (stepX call yc o.op fr tm n t fun v n t => dstK o.dst v fr tm fun fr tm => ih fr tm n t K) b) ops
theorem runOps_cons (call : Caller) (yc : YC) (o : AOper) (l : List AOper) (fr tm : List Value) (n : Nat) (t : HT) (K : FK) : runOps call yc (o :: l) fr tm n t K = wantK o.g fr tm fun b => Bool.rec (motive := fun _ => Bool)
      (dstK o.dst undef fr tm fun fr tm => runOps call yc l fr tm n t K)
      (stepX call yc o.op fr tm n t fun v n t => dstK o.dst v fr tm fun fr tm => runOps call yc l fr tm n t K) b := rfl
def FP (RT : List RDef) (K : FK) : List Value → AHeap → Prop := fun fr H => ∃ n t, Rp RT n t H ∧ K fr n t = true
theorem runOps_sound {P : Program} {ng : Nat} {call : Caller} {yc : YC} (hc : CallOK RT P ng call) (hy : YOK RT P ng yc) : ∀ {l : List AOper} {fr tm : List Value} {n : Nat} {t : HT} {K : FK}, runOps call yc l fr tm n t K = true → ∀ {H : AHeap}, Rp RT n t H → RW P ng l fr tm H (FP RT K)
  | [], fr, tm, n, t, K, h, H, r => ⟨n, t, r, h⟩
  | o :: l, fr, tm, n, t, K, h, H, r => by
    rw [runOps_cons, wantK_eq] at h
    simp only [RW]
    cases hw : wantA o.g fr tm
    · rw [hw] at h
      rw [dstK_eq] at h
      simp only [Bool.false_eq_true, if_false]
      exact runOps_sound hc hy h r
    · rw [hw] at h
      simp only [if_true]
      refine stepA_mono ?_ (stepX_sound hc hy h r)
      rintro v H' ⟨n', t', r', h'⟩
      simp only [dstK_eq] at h'
      exact runOps_sound hc hy h' r'
theorem keepsT_true {n n' : Nat} {t t' : HT} {H H' : AHeap} (r : Rp RT n t H) (r' : Rp RT n' t' H') : ∀ {l : List Nat}, keepsT l t t' = true → keepsB l H H'
  | [], _ => trivial
  | b :: l, h => by
    obtain ⟨h1, h2⟩ := asT_true h
    obtain ⟨o, h3, h4⟩ := r.getK h1 (fun own st pe L => by rw [HT.getK_spec]; split <;> first | rfl | (rename_i x _; cases x <;> rfl))
    obtain ⟨o', h5, h6⟩ := r'.getK h4
    exact ⟨by rw [h3, h5, aoEq_true h6], keepsT_true r r' h2⟩
inductive TrR RT : List TT → List TE → Prop
  | nil : TrR RT [] []
  | cons {e : TT} {x : TE} {l : List TT} {m : List TE} (hk : x.k = e.k) (hb : x.bs = e.bs) (h1 : Rp RT e.n e.t x.H) (h2 : ∃ n', Rp RT n' e.t' x.H') (h : TrR RT l m) : TrR RT (e :: l) (x :: m)
theorem TrR.snoc {l : List TT} {m : List TE} (h : TrR RT l m) {e : TT} {x : TE} (hk : x.k = e.k) (hb : x.bs = e.bs) (h1 : Rp RT e.n e.t x.H) (h2 : ∃ n', Rp RT n' e.t' x.H') : TrR RT (l ++ [e]) (m ++ [x]) := by
  induction h with
  | nil => exact .cons hk hb h1 h2 .nil
  | cons a b c d _ ih => exact .cons a b c d ih
theorem TrR.get {l : List TT} {m : List TE} (h : TrR RT l m) : ∀ {i : Nat} {e : TT}, l[i]? = some e → ∃ x, m[i]? = some x ∧ x.k = e.k ∧ x.bs = e.bs ∧ Rp RT e.n e.t x.H ∧ ∃ n', Rp RT n' e.t' x.H' := by
  induction h with
  | nil => intro i e h; simp at h
  | cons a b c d _ ih =>
    intro i e h
    cases i with
    | zero => simp at h; subst h; exact ⟨_, rfl, a, b, c, d⟩
    | succ i => simp at h; simpa using ih h
theorem oblT_true {k : Nat} {bs : List Nat} {n n' : Nat} {t t' : HT} {H H' : AHeap} (r : Rp RT n t H) (r' : Rp RT n' t' H') {tr : List TT} {tr' : List TE} (ht : TrR RT tr tr') : ∀ {un : List Nat}, oblT k bs t t' tr un = true → oblA k bs H H' tr' un
  | [], _ => trivial
  | i :: un, h => by
    simp only [oblT] at h
    split at h
    · rename_i e he
      obtain ⟨x, h1, h2, h3, h4, n2, h5⟩ := ht.get he
      simp only [oblA, h1]
      split at h
      · rename_i e1
        obtain ⟨a1, a2⟩ := asT_true h
        obtain ⟨a3, a4⟩ := asT_true a2
        rw [Bool.and_eq_true] at e1
        have q1 := Nat.eq_of_beq_eq_true e1.1
        have q2 := Nat.eq_of_beq_eq_true e1.2
        refine ⟨?_, oblT_true r r' ht a4⟩
        rw [if_pos ⟨q1, by rw [h2]; exact q2⟩]
        exact ⟨olderT_true h4.n a1, keepsT_true h4 h5 a3⟩
      · rename_i e1 e2
        obtain ⟨a1, a2⟩ := asT_true h
        rw [Bool.and_eq_true, Bool.or_eq_true] at e2
        have q1 := Nat.eq_of_beq_eq_true e2.1
        refine ⟨?_, oblT_true r r' ht a2⟩
        rw [if_neg (by rw [q1]; simp), if_pos ⟨q1, by rw [h2]; rcases e2.2 with q | q; exact .inl (Nat.eq_of_beq_eq_true q); exact .inr (Nat.eq_of_beq_eq_true q)⟩]
        rw [h3]
        exact keepsT_true r r' a1
      · rename_i e1 e2
        refine ⟨?_, oblT_true r r' ht h⟩
        split
        · rename_i hh
          rw [h2] at hh
          rw [hh.1, hh.2] at e1
          cases e1
        · split
          · rename_i hh
            rw [h2] at hh
            rw [hh.1] at e2
            rcases hh.2 with q | q <;> rw [q] at e2 <;> cases e2
          · trivial
    · cases h
noncomputable def runD (call : Caller) (yc : YC) (ops : List (AOper × List Nat)) : List Value → List Value → Nat → HT → List TT → FK → Bool :=
  List.rec (motive := fun _ => List Value → List Value → Nat → HT → List TT → FK → Bool) (fun fr _ n t _ K => K fr n t)
    (fun o _ ih fr tm n t tr K => wantK o.1.g fr tm fun b => Bool.rec (motive := fun _ => Bool)
      (dstK o.1.dst undef fr tm fun fr' tm' => ih fr' tm' n t (tr ++ [⟨9, [], n, t, t⟩]) K)
      (stepX call yc o.1.op fr tm n t fun v n' t' => asT (oblT (clsA o.1.op) (if clsA o.1.op = 1 then readsA (o.1.op.map (AX.ev fr tm)) else if clsA o.1.op = 2 then [n] else []) t t' tr o.2)
        (dstK o.1.dst v fr tm fun fr' tm' => ih fr' tm' n' t' (tr ++ [⟨clsA o.1.op, (if clsA o.1.op = 1 then readsA (o.1.op.map (AX.ev fr tm)) else if clsA o.1.op = 2 then [n] else []), n, t, t'⟩]) K)) b) ops
theorem runD_cons (call : Caller) (yc : YC) (o : AOper × List Nat) (l : List (AOper × List Nat)) (fr tm : List Value) (n : Nat) (t : HT) (tr : List TT) (K : FK) : runD call yc (o :: l) fr tm n t tr K = wantK o.1.g fr tm fun b => Bool.rec (motive := fun _ => Bool)
      (dstK o.1.dst undef fr tm fun fr' tm' => runD call yc l fr' tm' n t (tr ++ [⟨9, [], n, t, t⟩]) K)
      (stepX call yc o.1.op fr tm n t fun v n' t' => asT (oblT (clsA o.1.op) (if clsA o.1.op = 1 then readsA (o.1.op.map (AX.ev fr tm)) else if clsA o.1.op = 2 then [n] else []) t t' tr o.2)
        (dstK o.1.dst v fr tm fun fr' tm' => runD call yc l fr' tm' n' t' (tr ++ [⟨clsA o.1.op, (if clsA o.1.op = 1 then readsA (o.1.op.map (AX.ev fr tm)) else if clsA o.1.op = 2 then [n] else []), n, t, t'⟩]) K)) b := rfl
theorem runD_sound {P : Program} {ng : Nat} {call : Caller} {yc : YC} (hc : CallOK RT P ng call) (hy : YOK RT P ng yc) : ∀ {l : List (AOper × List Nat)} {fr tm : List Value} {n : Nat} {t : HT} {tr : List TT} {tr' : List TE} {K : FK}, runD call yc l fr tm n t tr K = true → TrR RT tr tr' → ∀ {H : AHeap}, Rp RT n t H → RD P ng l fr tm H tr' (FP RT K)
  | [], fr, tm, n, t, tr, tr', K, h, _, H, r => ⟨n, t, r, h⟩
  | (o, un) :: l, fr, tm, n, t, tr, tr', K, h, ht, H, r => by
    rw [runD_cons, wantK_eq] at h
    simp only [RD]
    cases hw : wantA o.g fr tm
    · simp only [hw] at h
      rw [dstK_eq] at h
      simp only [Bool.false_eq_true, if_false]
      exact runD_sound hc hy h (ht.snoc rfl rfl r ⟨n, r⟩) r
    · simp only [hw] at h
      simp only [if_true]
      refine stepA_mono ?_ (stepX_sound hc hy h r)
      rintro v H' ⟨n', t', r', h'⟩
      obtain ⟨h1, h2⟩ := asT_true h'
      rw [dstK_eq] at h2
      have e : touchA (o.op.map (AX.ev fr tm)) H = (if clsA o.op = 1 then readsA (o.op.map (AX.ev fr tm)) else if clsA o.op = 2 then [n] else []) := by
        unfold touchA
        rw [cls_map, r.n]
      rw [e]
      exact ⟨oblT_true r r' ht h1, runD_sound hc hy h2 (ht.snoc rfl rfl r ⟨n', r'⟩) r'⟩
theorem cell1K_true {n : Nat} {t : HT} {H : AHeap} (r : Rp RT n t H) {v : Value} {K : Value → Bool} (h : cell1K v t K = true) : ∃ u, cell1 v H = some u ∧ K u = true := by
  unfold cell1K at h
  split at h
  · obtain ⟨o, h1, h2⟩ := r.getK h
    split at h2
    · rw [nthO_eq] at h2
      split at h2
      · rename_i u hu
        exact ⟨u, by simp only [cell1, cellA, h1]; exact hu, h2⟩
      · cases h2
    · cases h2
  · cases h
theorem cellnK_true {n m : Nat} {t : HT} {H : AHeap} (r : Rp RT n t H) {v : Value} {K : Value → Bool} (h : cellnK m v t K = true) : ∃ u, celln m v H = some u ∧ K u = true := by
  unfold cellnK at h
  split at h
  · obtain ⟨o, h1, h2⟩ := r.getK h
    split at h2
    · obtain ⟨h3, h4⟩ := asT_true h2
      exact ⟨_, by simp only [celln, rangeA, h1]; rw [if_pos (Nat.le_of_ble_eq_true h3)]; rfl, h4⟩
    · cases h2
  · cases h
theorem rxsK_true {n : Nat} {t : HT} {H : AHeap} (r : Rp RT n t H) {fr : List Value} : ∀ {l : List RX} {K : List Value → Bool}, rxsK l fr t K = true → ∃ us, resVs fr H l = some us ∧ K us = true
  | [], K, h => ⟨[], rfl, h⟩
  | x :: l, K, h => by
    have h' : rxK x fr t (fun v => rxsK l fr t fun vs => K (v :: vs)) = true := h
    have : ∃ v, x.get fr H = some v ∧ rxsK l fr t (fun vs => K (v :: vs)) = true := by
      cases x with
      | t i => simp only [rxK, nthK_eq] at h'; exact ⟨_, rfl, h'⟩
      | c1 i => simp only [rxK, nthK_eq] at h'; exact cell1K_true r h'
      | cn m i => simp only [rxK, nthK_eq] at h'; exact cellnK_true r h'
    obtain ⟨v, h1, h2⟩ := this
    obtain ⟨us, h3, h4⟩ := rxsK_true r h2
    exact ⟨_, by simp only [resVs, h1, h3], h4⟩
theorem resK_true {n : Nat} {t : HT} {H : AHeap} (r : Rp RT n t H) {res : List RX} {fr : List Value} {K : Value → Bool} (h : resK res fr t K = true) : ∃ v, resO res fr H = some v ∧ K v = true := by
  obtain ⟨us, h1, h2⟩ := rxsK_true r h
  exact ⟨_, by simp only [resO, h1, Option.map_some], h2⟩
noncomputable def rfK (RT : List RDef) : Nat → (RDef → Bool) → Bool :=
  List.rec (motive := fun _ => Nat → (RDef → Bool) → Bool) (fun _ _ => false) (fun d _ ih r K => Nat.rec (motive := fun _ => Bool) (K d) (fun m _ => ih m K) r) RT
theorem rfK_true : ∀ {RT : List RDef} {r : Nat} {K : RDef → Bool}, rfK RT r K = true → ∃ d, RT[r]? = some d ∧ K d = true
  | [], _, _, h => by cases h
  | d :: RT, 0, K, h => ⟨d, rfl, h⟩
  | d :: RT, r + 1, K, h => by
    obtain ⟨x, h1, h2⟩ := rfK_true (RT := RT) (r := r) (K := K) h
    exact ⟨x, by simpa using h1, h2⟩
noncomputable def setPsK (sl : List Nat) : List Nat → List Value → List Value → (List Value → Bool) → Bool
  | [], fr, _, K => K fr
  | _ :: _, fr, [], K => K fr
  | p :: ps, fr, v :: vs, K => match posOf sl p with
    | some i => updK v fr i fun fr => setPsK sl ps fr vs K
    | none => setPsK sl ps fr vs K
theorem setPsK_eq (sl : List Nat) : ∀ (ps : List Nat) (fr vs : List Value) (K : List Value → Bool), setPsK sl ps fr vs K = K (setPs sl fr ps vs)
  | [], fr, _, K => by simp only [setPsK, setPs]
  | _ :: _, fr, [], K => by simp only [setPsK, setPs]
  | p :: ps, fr, v :: vs, K => by
    simp only [setPsK, setPs]
    split
    · rename_i i hi; rw [updK_eq, setPsK_eq sl ps, hi]
    · rename_i hi; rw [setPsK_eq sl ps, hi]
def noRA : ACode → Bool
  | .seq a b => noRA a && noRA b
  | .cond _ a b => noRA a && noRA b
  | .block _ a => noRA a
  | .loop a => noRA a
  | .rangeF .. => false
  | _ => true
def decC (RT : List RDef) : ACode → ACode
  | .seq a b => .seq (decC RT a) (decC RT b)
  | .cond c a b => .cond c (decC RT a) (decC RT b)
  | .block id a => .block id (decC RT a)
  | .loop a => .loop (decC RT a)
  | .rangeF g r sl ps a b => match RT[r]? with
    | some d => .rangeF g d.N d.sl d.ps d.assign d.body
    | none => .rangeF g r sl ps a b
  | c => c
theorem decC_no : ∀ {c : ACode}, noRA c = true → decC RT c = c := by
  intro c
  induction c with
  | seq a b ia ib => intro h; simp only [noRA, Bool.and_eq_true] at h; simp only [decC, ia h.1, ib h.2]
  | cond c a b ia ib => intro h; simp only [noRA, Bool.and_eq_true] at h; simp only [decC, ia h.1, ib h.2]
  | block id a ia => intro h; simp only [noRA] at h; simp only [decC, ia h]
  | loop a ia => intro h; simp only [noRA] at h; simp only [decC, ia h]
  | rangeF => intro h; cases h
  | _ => intro _; rfl
def nrf : ACode → Nat
  | .seq a b => nrf a + nrf b
  | .cond _ a b => nrf a + nrf b
  | .block _ a => nrf a
  | .loop a => nrf a
  | .rangeF .. => 1
  | _ => 0
def encC : ACode → Nat → ACode
  | .seq a b, r => .seq (encC a r) (encC b (r + nrf a))
  | .cond c a b, r => .cond c (encC a r) (encC b (r + nrf a))
  | .block id a, r => .block id (encC a r)
  | .loop a, r => .loop (encC a r)
  | .rangeF g _ _ _ _ _, r => .rangeF g r [] #[] .skip .skip
  | c, _ => c
def RTok (P : Program) (ng : Nat) (RT : List RDef) : Prop := ∀ d ∈ RT, compC P ng d.N d.sl d.assign = some d.aa ∧ compC P ng d.N d.sl d.body = some d.ab ∧ (noRF d.assign && noRF d.body) = true ∧ (nodupB d.sl && d.sl.all (· < d.N)) = true ∧ noRA d.aa = true ∧ noRA d.ab = true
abbrev HF := List Value → Nat → HT → CK → Bool
def HFok (RT : List RDef) (P : Program) (ng k : Nat) (h : HF) : Prop := ∀ xs n t K, h xs n t K = true → ∀ H, Rp RT n t H → ∃ v H', ARun P ng k xs H v H' ∧ KP RT K v H'
theorem HFok.of {P : Program} {ng k : Nat} {h : HF} (hk : ∀ xs n t K, h xs n t K = true → ∀ H, Rp RT n t H → ∃ v, ARun P ng k xs H v H ∧ K v n t = true) : HFok RT P ng k h := fun xs n t K h1 H r => by
  obtain ⟨v, h2, h3⟩ := hk xs n t K h1 H r
  exact ⟨v, H, h2, n, t, r, h3⟩
def EFok (RT : List RDef) (P : Program) (ng k : Nat) (f : EF) : Prop := ∃ af, compF P ng f.sl k = some af ∧ af.sl = f.sl ∧ af.res = f.res ∧ (af.body = decC RT f.body ∨ simpC af.body = decC RT f.body) ∧ argsOK P k f.na = true
theorem ok_sf {P : Program} {ng k na : Nat} {sl : List Nat} {af : AFunc} (h : compF P ng sl k = some af) (hs : af.sl = sl) (ha : argsOK P k na = true) (hn : noRA (simpC af.body) = true := by kernel_rfl) : EFok RT P ng k ⟨na, af.sl, af.res, simpC af.body⟩ := by
  subst hs
  exact ⟨af, h, rfl, rfl, .inr (decC_no hn).symm, ha⟩
theorem ok_rf {P : Program} {ng k na : Nat} {sl : List Nat} {af : AFunc} {r : Nat} (h : compF P ng sl k = some af) (hs : af.sl = sl) (ha : argsOK P k na = true) (hn : decC RT (encC af.body r) = af.body) : EFok RT P ng k ⟨na, af.sl, af.res, encC af.body r⟩ := by
  subst hs
  exact ⟨af, h, rfl, rfl, .inl hn.symm, ha⟩
abbrev Rec := ACode → List Value → Nat → HT → EK → Bool
def QP (RT : List RDef) (K : EK) : AQ := fun e fr H => ∃ n t, Rp RT n t H ∧ K e fr n t = true
def RecOK (RT : List RDef) (P : Program) (ng : Nat) (rec : Rec) : Prop := ∀ c fr n t K, rec c fr n t K = true → ∀ H, Rp RT n t H → W P ng (decC RT c) (QP RT K) fr H
inductive FT
  | leaf
  | node (k : Nat) (f : EF) (l r : FT)
  | hook (k : Nat) (h : HF) (l r : FT)
  | hookR (k : Nat) (h : Caller → YC → Rec → HF) (l r : FT)
noncomputable def FT.find (T : FT) (k : Nat) (K : EF → Bool) (KH : HF → Bool) (KR : (Caller → YC → Rec → HF) → Bool) : Bool :=
  FT.rec (motive := fun _ => Bool) false (fun k' f _ _ l r => Bool.rec (motive := fun _ => Bool) (Bool.rec (motive := fun _ => Bool) r l (Nat.ble k k')) (K f) (Nat.beq k k'))
    (fun k' h _ _ l r => Bool.rec (motive := fun _ => Bool) (Bool.rec (motive := fun _ => Bool) r l (Nat.ble k k')) (KH h) (Nat.beq k k'))
    (fun k' h _ _ l r => Bool.rec (motive := fun _ => Bool) (Bool.rec (motive := fun _ => Bool) r l (Nat.ble k k')) (KR h) (Nat.beq k k')) T
def HRok (RT : List RDef) (P : Program) (ng k : Nat) (h : Caller → YC → Rec → HF) : Prop := ∀ call yc rec, CallOK RT P ng call → YOK RT P ng yc → RecOK RT P ng rec → HFok RT P ng k (h call yc rec)
def FT.ok (RT : List RDef) (P : Program) (ng : Nat) : FT → Prop
  | .leaf => True
  | .node k f l r => EFok RT P ng k f ∧ l.ok RT P ng ∧ r.ok RT P ng
  | .hook k h l r => HFok RT P ng k h ∧ l.ok RT P ng ∧ r.ok RT P ng
  | .hookR k h l r => HRok RT P ng k h ∧ l.ok RT P ng ∧ r.ok RT P ng
theorem FT.find_true {P : Program} {ng : Nat} {k : Nat} {K : EF → Bool} {KH : HF → Bool} {KR : (Caller → YC → Rec → HF) → Bool} : ∀ {T : FT}, T.ok RT P ng → T.find k K KH KR = true → (∃ f, EFok RT P ng k f ∧ K f = true) ∨ (∃ h, HFok RT P ng k h ∧ KH h = true) ∨ ∃ h, HRok RT P ng k h ∧ KR h = true
  | .leaf, _, h => by cases h
  | .node k' f l r, hT, h => by
    have e : (FT.node k' f l r).find k K KH KR = Bool.rec (motive := fun _ => Bool) (Bool.rec (motive := fun _ => Bool) (r.find k K KH KR) (l.find k K KH KR) (Nat.ble k k')) (K f) (Nat.beq k k') := rfl
    rw [e] at h
    cases e1 : Nat.beq k k'
    · rw [e1] at h
      cases e2 : Nat.ble k k'
      · rw [e2] at h; exact FT.find_true hT.2.2 h
      · rw [e2] at h; exact FT.find_true hT.2.1 h
    · rw [e1] at h
      have := Nat.eq_of_beq_eq_true e1
      subst this
      exact .inl ⟨f, hT.1, h⟩
  | .hook k' f l r, hT, h => by
    have e : (FT.hook k' f l r).find k K KH KR = Bool.rec (motive := fun _ => Bool) (Bool.rec (motive := fun _ => Bool) (r.find k K KH KR) (l.find k K KH KR) (Nat.ble k k')) (KH f) (Nat.beq k k') := rfl
    rw [e] at h
    cases e1 : Nat.beq k k'
    · rw [e1] at h
      cases e2 : Nat.ble k k'
      · rw [e2] at h; exact FT.find_true hT.2.2 h
      · rw [e2] at h; exact FT.find_true hT.2.1 h
    · rw [e1] at h
      have := Nat.eq_of_beq_eq_true e1
      subst this
      exact .inr <| .inl ⟨f, hT.1, h⟩
  | .hookR k' f l r, hT, h => by
    have e : (FT.hookR k' f l r).find k K KH KR = Bool.rec (motive := fun _ => Bool) (Bool.rec (motive := fun _ => Bool) (r.find k K KH KR) (l.find k K KH KR) (Nat.ble k k')) (KR f) (Nat.beq k k') := rfl
    rw [e] at h
    cases e1 : Nat.beq k k'
    · rw [e1] at h
      cases e2 : Nat.ble k k'
      · rw [e2] at h; exact FT.find_true hT.2.2 h
      · rw [e2] at h; exact FT.find_true hT.2.1 h
    · rw [e1] at h
      have := Nat.eq_of_beq_eq_true e1
      subst this
      exact .inr <| .inr ⟨f, hT.1, h⟩
noncomputable def roundK (b : Nat) (K : CK) : EK := fun e _ n t => t.getK b fun ao => match ao with
  | .loop true _ _ L => match e with
    | .normal => t.setK b (.loop true .ready none L) fun t' => K (.bool true) n t'
    | .ret => t.setK b (.loop true .done (some .ret) L) fun t' => K (.bool false) n t'
    | .exit id => t.setK b (.loop true .done (some (.exit id)) L) fun t' => K (.bool false) n t'
    | _ => false
  | _ => false
noncomputable def busyK (rec : Rec) (ab : ACode) (b : Nat) (K : CK) : EK := fun e fr n t => match e with
  | .normal => t.getK b fun ao => match ao with
    | .loop true .ready pe L => t.setK b (.loop true .busy pe L) fun t' => rec ab fr n t' (roundK b K)
    | _ => false
  | _ => false
noncomputable def yieldE (RT : List RDef) (rec : Rec) : YC := fun b xs n t K => t.getK b fun ao => match ao with
  | .loop true .ready pe L => rfK RT L.N fun d => asT (Nat.beq d.ps.size xs.length) (setPsK d.sl d.ps.toList L.fr xs fun fr0 => rec d.aa fr0 n t (busyK rec d.ab b K))
  | _ => false
noncomputable def callB (T : FT) (rec : Rec) : Caller := fun f xs n t K => T.find f (fun ef => asT (Nat.beq xs.length ef.na) (initK ef.sl xs fun fr => rec ef.body fr n t fun e fr n t => match e with
  | .normal => resK ef.res fr t fun v => K v n t
  | .ret => resK ef.res fr t fun v => K v n t
  | _ => false)) (fun h => h xs n t K) (fun _ => false)
noncomputable def callE (T : FT) (RT : List RDef) (rec : Rec) : Caller := fun f xs n t K => T.find f (fun ef => asT (Nat.beq xs.length ef.na) (initK ef.sl xs fun fr => rec ef.body fr n t fun e fr n t => match e with
  | .normal => resK ef.res fr t fun v => K v n t
  | .ret => resK ef.res fr t fun v => K v n t
  | _ => false)) (fun h => h xs n t K) (fun h => h (callB T rec) (yieldE RT rec) rec xs n t K)
noncomputable def outK (b : Nat) (fr : List Value) (K : EK) : CK := fun _ n t => t.getK b fun ao => match ao with
  | .loop true st pe _ => match st with
    | .busy => false
    | _ => match pe with
      | none => t.setK b .dead fun t3 => K .normal fr n t3
      | some .ret => t.setK b .dead fun t3 => K .ret fr n t3
      | some (.exit id) => t.setK b .dead fun t3 => K (.exit id) fr n t3
      | _ => false
  | _ => false
noncomputable def rangeE (T : FT) (RT : List RDef) (call : Caller) (g : AX) (ri : Nat) (fr : List Value) (n : Nat) (t : HT) (K : EK) : Bool := evX g fr [] fun v => match v with
  | .func (.func gf) first cap => asT (T.find gf (fun _ => true) (fun _ => false) (fun _ => false)) (rfK RT ri fun _ => t.setK n (.loop true .ready none ⟨ri, [], fr, #[], .skip, .skip⟩) fun t1 => forceN (n + 1) fun n1 =>
      call gf (first.toList ++ [.chan (some n)] ++ cap.toList) n1 t1 (outK n fr K))
  | _ => false
noncomputable def runS (T : FT) (RT : List RDef) (rec : Rec) (c : ACode) : List Value → Nat → HT → EK → Bool :=
  ACode.rec (motive := fun _ => List Value → Nat → HT → EK → Bool)
    (fun fr n t K => K .normal fr n t)
    (fun ops fr n t K => runOps (callE T RT rec) (yieldE RT rec) ops fr [] n t fun fr n t => K .normal fr n t)
    (fun ops fr n t K => runD (callE T RT rec) (yieldE RT rec) ops fr [] n t [] fun fr n t => K .normal fr n t)
    (fun _ _ iha ihb fr n t K => iha fr n t (seqK ihb K))
    (fun c _ _ iht ihe fr n t K => evX c fr [] fun v => condK v (iht fr n t K) (ihe fr n t K))
    (fun id _ ih fr n t K => ih fr n t (blockK id K))
    (fun c ih fr n t K => ih fr n t (seqK (rec (.loop c)) K))
    (fun id fr n t K => K (.exit id) fr n t)
    (fun fr n t K => K .ret fr n t)
    (fun g ri _ _ _ _ => rangeE T RT (callE T RT rec) g ri) c
noncomputable def run (T : FT) (RT : List RDef) (fuel : Nat) : Rec :=
  Nat.rec (motive := fun _ => Rec) (fun _ _ _ _ _ => false) (fun _ ih => runS T RT ih) fuel
theorem QP_seq {P : Program} {ng : Nat} {c : ACode} {K : EK} {ihb : List Value → Nat → HT → EK → Bool} (hb : ∀ fr n t, ihb fr n t K = true → ∀ H, Rp RT n t H → W P ng c (QP RT K) fr H) (e : Exit) (fr : List Value) (H : AHeap) (h : QP RT (seqK ihb K) e fr H) : AQ.andThen (QP RT K) (W P ng c (QP RT K)) e fr H := by
  obtain ⟨n, t, r, h⟩ := h
  cases e with
  | normal => exact hb fr n t h H r
  | exit id => exact ⟨n, t, r, h⟩
  | ret => exact ⟨n, t, r, h⟩
  | goto l => exact ⟨n, t, r, h⟩
  | panic ch => exact ⟨n, t, r, h⟩
  | outgrown => exact ⟨n, t, r, h⟩
section
variable {P : Program} {ng : Nat} {T : FT}
theorem node_ok {rec : Rec} (hr : RecOK RT P ng rec) {f : FuncId} {xs : List Value} {n : Nat} {t : HT} {K : CK} {ef : EF} (he : EFok RT P ng f ef) (h6 : asT (Nat.beq xs.length ef.na) (initK ef.sl xs fun fr => rec ef.body fr n t fun e fr n t => match e with
  | .normal => resK ef.res fr t fun v => K v n t
  | .ret => resK ef.res fr t fun v => K v n t
  | _ => false) = true) {H : AHeap} (r : Rp RT n t H) : ∃ v H', ARun P ng f xs H v H' ∧ KP RT K v H' := by
  obtain ⟨af, h1, h2, h3, h4, h5⟩ := he
  obtain ⟨h7, h8⟩ := asT_true h6
  have hlen := Nat.eq_of_beq_eq_true h7
  rw [initK_eq] at h8
  have hw := hr _ _ _ _ _ h8 H r
  have hw2 : W P ng af.body (QP RT fun e fr n t => match e with
    | .normal => resK ef.res fr t fun v => K v n t
    | .ret => resK ef.res fr t fun v => K v n t
    | _ => false) (initFr ef.sl xs) H := by
    rcases h4 with h4 | h4
    · rw [h4]; exact hw
    · rw [← h4] at hw; exact W_simp af.body hw
  refine walk h1 (by rw [hlen]; exact h5) ?_
  rw [h2]
  refine W_mono ?_ hw2
  rintro e fr H' ⟨n', t', r', h'⟩
  cases e with
  | normal => obtain ⟨v, h9, h10⟩ := resK_true r' h'; rw [h3]; exact ⟨v, h9, n', t', r', h10⟩
  | ret => obtain ⟨v, h9, h10⟩ := resK_true r' h'; rw [h3]; exact ⟨v, h9, n', t', r', h10⟩
  | exit id => cases h'
  | goto l => cases h'
  | panic ch => cases h'
  | outgrown => cases h'
theorem callB_ok (hT : T.ok RT P ng) {rec : Rec} (hr : RecOK RT P ng rec) : CallOK RT P ng (callB T rec) := by
  intro f xs n t K h H r
  rcases FT.find_true hT h with ⟨ef, he, h6⟩ | ⟨hf, h1, h2⟩ | ⟨hf, h1, h2⟩
  · exact node_ok hr he h6 r
  · exact h1 xs n t K h2 H r
  · cases h2
theorem roundK_ok {b : Nat} {K : CK} (e : Exit) (fr : List Value) (H : AHeap) (h : QP RT (roundK b K) e fr H) : roundQ b (KP RT K) e fr H := by
  obtain ⟨n, t, r, h⟩ := h
  obtain ⟨o, h1, h2⟩ := r.getd h
  split at h2
  · rename_i x y L
    unfold roundQ
    rw [h1]
    simp only [dec]
    have hs : (H.get b).isSome = true := by rw [h1]; rfl
    split at h2
    · obtain ⟨t', h3, h4⟩ := r.setd hs h2; exact ⟨n, t', h4, h3⟩
    · obtain ⟨t', h3, h4⟩ := r.setd hs h2; exact ⟨n, t', h4, h3⟩
    · obtain ⟨t', h3, h4⟩ := r.setd hs h2; exact ⟨n, t', h4, h3⟩
    · cases h2
  · cases h2
theorem yieldE_ok (hR : RTok P ng RT) {rec : Rec} (hr : RecOK RT P ng rec) : YOK RT P ng (yieldE RT rec) := by
  intro b xs n t K h H r
  obtain ⟨o, h1, h2⟩ := r.getd h
  split at h2
  · rename_i pe L
    obtain ⟨d, h3, h4⟩ := rfK_true h2
    obtain ⟨h5, h6⟩ := asT_true h4
    rw [setPsK_eq] at h6
    obtain ⟨q1, q2, q3, q4, q5, q6⟩ := hR d (List.mem_of_getElem? h3)
    have hd : decL RT L = ⟨d.N, d.sl, L.fr, d.ps, d.assign, d.body⟩ := by unfold decL; rw [h3]
    simp only [dec, hd] at h1
    refine yield_of h1 q1 q2 q3 q4 (Nat.eq_of_beq_eq_true h5) ?_
    have hw := hr _ _ _ _ _ h6 H r
    rw [decC_no q5] at hw
    refine W_mono ?_ hw
    rintro e fr1 H1 ⟨n1, t1, r1, h7⟩
    unfold busyK at h7
    split at h7
    · refine ⟨rfl, ?_⟩
      obtain ⟨o1, g1, g2⟩ := r1.getd h7
      split at g2
      · rename_i pe1 L1
        refine ⟨pe1, decL RT L1, g1, ?_⟩
        obtain ⟨t2, g3, g4⟩ := r1.setd (by rw [g1]; rfl) g2
        have hw2 := hr _ _ _ _ _ g3 _ g4
        rw [decC_no q6] at hw2
        exact W_mono (fun e fr H h => roundK_ok e fr H h) hw2
      · cases g2
    · cases h7
  · cases h2
theorem callE_ok (hT : T.ok RT P ng) (hR : RTok P ng RT) {rec : Rec} (hr : RecOK RT P ng rec) : CallOK RT P ng (callE T RT rec) := by
  intro f xs n t K h H r
  rcases FT.find_true hT h with ⟨ef, he, h6⟩ | ⟨hf, h1, h2⟩ | ⟨hf, h1, h2⟩
  · exact node_ok hr he h6 r
  · exact h1 xs n t K h2 H r
  · exact h1 _ _ _ (callB_ok hT hr) (yieldE_ok hR hr) hr xs n t K h2 H r
theorem bodied_find (hT : T.ok RT P ng) {g : FuncId} (h : T.find g (fun _ => true) (fun _ => false) (fun _ => false) = true) : Bodied P g := by
  rcases FT.find_true hT h with ⟨ef, ⟨af, h1, _⟩, _⟩ | ⟨hf, h1, h2⟩ | ⟨hf, h1, h2⟩
  · unfold compF at h1
    split at h1
    · cases h1
    · rename_i fn hfn
      split at h1
      · cases h1
      · rename_i c hb
        split at h1
        · rename_i hcond
          simp only [Bool.and_eq_true, Bool.not_eq_true'] at hcond
          exact ⟨fn, hfn, by simp [hb], hcond.2⟩
        · cases h1
  · cases h2
  · cases h2
theorem outK_ok {b : Nat} {fr : List Value} {K : EK} {v : Value} {H : AHeap} (h : KP RT (outK b fr K) v H) : afterR (QP RT K) fr b H := by
  obtain ⟨n, t, r, h⟩ := h
  obtain ⟨o, h1, h2⟩ := r.getd h
  split at h2
  · rename_i st pe L
    unfold afterR
    rw [h1]
    simp only [dec]
    have hs : (H.get b).isSome = true := by rw [h1]; rfl
    split at h2
    · cases h2
    · rename_i hst
      refine ⟨hst, ?_⟩
      split at h2
      · obtain ⟨t', h3, h4⟩ := r.set hs h2; exact ⟨n, t', h4, h3⟩
      · obtain ⟨t', h3, h4⟩ := r.set hs h2; exact ⟨n, t', h4, h3⟩
      · obtain ⟨t', h3, h4⟩ := r.set hs h2; exact ⟨n, t', h4, h3⟩
      · cases h2
  · cases h2
theorem rangeE_ok (hT : T.ok RT P ng) {call : Caller} (hc : CallOK RT P ng call) {g : AX} {ri : Nat} {sl : List Nat} {ps : Array Tmp} {a b : Code} {fr : List Value} {n : Nat} {t : HT} {K : EK} (h : rangeE T RT call g ri fr n t K = true) {H : AHeap} (r : Rp RT n t H) : W P ng (decC RT (.rangeF g ri sl ps a b)) (QP RT K) fr H := by
  unfold rangeE at h
  rw [evX_eq] at h
  split at h
  · rename_i gf first cap hg
    obtain ⟨h1, h2⟩ := asT_true h
    obtain ⟨d, h3, h4⟩ := rfK_true h2
    obtain ⟨t1, h5, h6⟩ := r.allocd h4
    rw [forceN_eq] at h5
    simp only [decC, h3]
    refine W_rangeF hg (bodied_find hT h1) ?_
    have hn := r.n
    have hd : dec RT (.loop true .ready none ⟨ri, [], fr, #[], .skip, .skip⟩) = .loop true .ready none ⟨d.N, d.sl, fr, d.ps, d.assign, d.body⟩ := by
      simp only [dec, decL, h3]
    rw [hd] at h6
    rw [hn]
    obtain ⟨v, H1, h7, h8⟩ := hc _ _ _ _ _ h5 _ h6
    exact ⟨v, H1, h7, outK_ok h8⟩
  · cases h
theorem runS_sound (hT : T.ok RT P ng) (hR : RTok P ng RT) {rec : Rec} (hr : RecOK RT P ng rec) : RecOK RT P ng (runS T RT rec) := by
  have hcall := callE_ok hT hR hr
  have hy := yieldE_ok hR hr
  intro c
  induction c with
  | skip => intro fr n t K h H r; exact ⟨n, t, r, h⟩
  | reg ops => intro fr n t K h H r; exact runOps_sound hcall hy (K := fun fr n t => K .normal fr n t) h r
  | dreg ops => intro fr n t K h H r; exact runD_sound hcall hy (K := fun fr n t => K .normal fr n t) h .nil r
  | seq a b iha ihb =>
    intro fr n t K h H r
    show W P ng (decC RT a) (AQ.andThen (QP RT K) (W P ng (decC RT b) (QP RT K))) fr H
    exact W_mono (QP_seq (fun fr n t h H r => ihb fr n t K h H r)) (iha fr n t _ h H r)
  | cond c a b iha ihb =>
    intro fr n t K h H r
    have e : runS T RT rec (.cond c a b) fr n t K = evX c fr [] fun v => condK v (runS T RT rec a fr n t K) (runS T RT rec b fr n t K) := rfl
    rw [e, evX_eq] at h
    simp only [decC, W]
    unfold condK at h
    split at h
    · rename_i tt ht
      rw [ht]
      cases tt
      · exact ihb fr n t K h H r
      · exact iha fr n t K h H r
    · cases h
  | block id c ih =>
    intro fr n t K h H r
    show W P ng (decC RT c) (AQ.inBlock (QP RT K) id) fr H
    refine W_mono ?_ (ih fr n t _ h H r)
    rintro e fr' H' ⟨n', t', r', h'⟩
    cases e with
    | exit id' =>
      simp only [blockK] at h'
      simp only [AQ.inBlock]
      cases e : Nat.beq id' id
      · rw [e] at h'
        rw [if_neg (fun hh => by subst hh; rw [Nat.beq_refl] at e; cases e)]
        exact ⟨n', t', r', h'⟩
      · rw [e] at h'
        rw [if_pos (Nat.eq_of_beq_eq_true e)]
        exact ⟨n', t', r', h'⟩
    | normal => exact ⟨n', t', r', h'⟩
    | ret => exact ⟨n', t', r', h'⟩
    | goto l => exact ⟨n', t', r', h'⟩
    | panic ch => exact ⟨n', t', r', h'⟩
    | outgrown => exact ⟨n', t', r', h'⟩
  | loop c ih =>
    intro fr n t K h H r
    exact W_again (W_mono (QP_seq (c := .loop (decC RT c)) (fun fr n t h H r => hr (.loop c) fr n t K h H r)) (ih fr n t _ h H r))
  | exit id => intro fr n t K h H r; exact ⟨n, t, r, h⟩
  | ret => intro fr n t K h H r; exact ⟨n, t, r, h⟩
  | rangeF g N sl ps a b => intro fr n t K h H r; exact rangeE_ok hT hcall h r
theorem run_sound (hT : T.ok RT P ng) (hR : RTok P ng RT) : ∀ (fuel : Nat), RecOK RT P ng (run T RT fuel)
  | 0 => fun c fr n t K h => by cases h
  | m + 1 => runS_sound hT hR (rec := run T RT m) (run_sound hT hR m)
noncomputable def runF (T : FT) (RT : List RDef) (fuel : Nat) (f : FuncId) (xs : List Value) (n : Nat) (t : HT) (K : CK) : Bool := callE T RT (run T RT fuel) f xs n t K
theorem runF_sound (hT : T.ok RT P ng) (hR : RTok P ng RT) {fuel : Nat} {f : FuncId} {xs : List Value} {n : Nat} {t : HT} {K : CK} (h : runF T RT fuel f xs n t K = true) {H : AHeap} (r : Rp RT n t H) : ∃ v H', ARun P ng f xs H v H' ∧ KP RT K v H' :=
  callE_ok hT hR (run_sound hT hR fuel) f xs n t K h H r
end
theorem Rp.empty : Rp RT 0 .leaf ⟨0, []⟩ := ⟨rfl, fun b => rfl⟩
theorem closed_any {P : Program} {T : FT} (hT : T.ok RT P 0) (hR : RTok P 0 RT) {fuel : Nat} {f : FuncId} (h : runF T RT fuel f [] 0 .leaf isTrue = true) (H : AHeap) : ARun P 0 f [] H (.bool true) H := by
  obtain ⟨v, H', ⟨h0, _, h1⟩, h2⟩ := runF_sound hT hR h Rp.empty
  obtain ⟨n, t, _, h2⟩ := h2
  have hv : v = .bool true := by
    unfold isTrue at h2
    split at h2
    · cases h2; rfl
    · cases h2
  subst hv
  refine ⟨h0, Nat.le_refl _, fun σ w args' hr ha => ?_⟩
  cases ha
  refine (h1 (fun _ => none) w [] (HR.empty w) .nil).mono ?_
  rintro e w' ⟨v', σ', rfl, k1, k2, k3⟩
  have hk : ∀ k, k < w.heap.size → w'.heap[k]? = w.heap[k]? := fun k hk => k2.keep k hk (fun b i o hb => by cases hb)
  have hsz := k2.size
  refine ⟨v', σ, rfl, ⟨fun b i hb => ?_, hr.inj, fun b i hb => Nat.lt_of_lt_of_le (hr.lt b i hb) hsz, hr.glob⟩, ⟨Sg.le.refl σ, (fun b i h1 h2 => by rw [h1] at h2; cases h2), fun _ _ o' _ a b => ⟨o', a, b⟩, fun _ _ o' _ a b => ⟨o', a, b⟩, fun k a _ => hk k a, hsz, Nat.le_refl _, k2.os, k2.tape, k2.output⟩, ?_⟩
  · obtain ⟨o, a1, a2⟩ := hr.obj b i hb
    exact ⟨o, a1, a2.congr (fun _ => hk _ (hr.lt b i hb))⟩
  · rw [k3.bool_inv]; exact .bool _
end Ev
end Go.AM

set_option linter.unusedSimpArgs false
set_option linter.unusedVariables false
namespace Go.AM
def WR (H : AHeap) (e esz : Nat) (v : Value) (n : Nat) (c : List Value) : Prop :=
  (v = .slice none 0 0 ∧ n = 0 ∧ c = []) ∨ ∃ b k room d, v = slc b 0 n k ∧ n ≤ k ∧ d.length = k * esz ∧ d.take (n * esz) = c ∧ H.get b = some (.cells true room esz d e)
section
variable {H H' : AHeap} {e esz : Nat} {v : Value} {n : Nat} {c : List Value}
theorem AP.wr (h : AP H e esz v n c) : WR H e esz v n c := by
  rcases h with h | ⟨b, room, rfl, h1, h2⟩
  · exact .inl h
  · exact .inr ⟨b, n, room, c, rfl, Nat.le_refl _, h1, by rw [← h1, List.take_length], h2⟩
theorem WR.len (h : WR H e esz v n c) : c.length = n * esz := by
  rcases h with ⟨rfl, rfl, rfl⟩ | ⟨b, k, room, d, rfl, h1, h2, rfl, h4⟩
  · simp
  · have := Nat.mul_le_mul_right esz h1
    rw [List.length_take, h2]; omega
theorem WR.elems (h : WR H e esz v n c) : elemsA H esz v = some c := by
  rcases h with ⟨rfl, rfl, rfl⟩ | ⟨b, k, room, d, rfl, h1, h2, rfl, h4⟩
  · rfl
  · have := Nat.mul_le_mul_right esz h1
    simp only [elemsA, slc, h4]
    rw [if_pos (by omega), List.drop_zero]
theorem WR.shape (h : WR H e esz v n c) : ∃ a k, v = .slice a n k := by
  rcases h with ⟨rfl, rfl, rfl⟩ | ⟨b, k, room, d, rfl, h1, h2, h3, h4⟩
  · exact ⟨_, _, rfl⟩
  · exact ⟨_, _, rfl⟩
theorem WR.is (h : WR H e esz v n c) : isS v = true := by obtain ⟨a, k, rfl⟩ := h.shape; rfl
theorem WR.lenS (h : WR H e esz v n c) : Go.AM.lenS v = n := by obtain ⟨a, k, rfl⟩ := h.shape; rfl
theorem WR.one (h : WR H e esz v n c) : v.oneCell' = true := by obtain ⟨a, k, rfl⟩ := h.shape; rfl
theorem WR.lt (h : WR H e esz v n c) {b : Nat} (hb : blk v = some b) : b < H.n := by
  rcases h with ⟨rfl, rfl, rfl⟩ | ⟨b', k, room, d, rfl, h1, h2, h3, h4⟩
  · cases hb
  · cases hb; exact AHeap.get_lt h4
theorem WR.chg {S : List Nat} (h : WR H e esz v n c) (k : Chg S H H') (hS : ∀ x ∈ blkL v, x ∉ S) : WR H' e esz v n c := by
  rcases h with h | ⟨b, m, room, d, rfl, h1, h2, h3, h4⟩
  · exact .inl h
  · exact .inr ⟨b, m, room, d, rfl, h1, h2, h3, k.at_ h4 (hS b (mem_blkL.2 rfl))⟩
theorem WR.keeps (h : WR H e esz v n c) (k : Keeps H H') : WR H' e esz v n c := h.chg (k.chg []) (by simp)
theorem WR.sl {rows : List (List Value)} (h : WR H e esz v n rows.flatten) (hr : ∀ r ∈ rows, r.length = esz) (hn : n = rows.length) : Sl H esz v rows := by
  obtain ⟨a, k, rfl⟩ := h.shape
  exact ⟨⟨a, k, by rw [hn]⟩, hr, h.elems⟩
theorem WR.app {bytes m : Nat} {news : List Value} (h : WR H e esz v n c) (hm : news.length = m * esz) (hs : (n + m) * bytes ≤ 140737488355328 ∧ n + m ≤ 140737488355328) :
    ∃ v' H', appA H e esz bytes v m news = some (v', H') ∧ WR H' e esz v' (n + m) (c ++ news) ∧ Chg (blkL v) H H' ∧ (blk v' = blk v ∨ blk v' = some H.n) := by
  rcases h with ⟨rfl, rfl, rfl⟩ | ⟨b, k, room, d, rfl, h1, h2, h3, h4⟩
  · obtain ⟨v', H', a, b, d⟩ := AP.app (H := H) (e := e) (esz := esz) (v := .slice none 0 0) (n := 0) (c := []) (.inl ⟨rfl, rfl, rfl⟩) hm hs
    exact ⟨v', H', a, b.wr, d⟩
  · simp only [appA, slc]
    by_cases hm0 : m = 0
    · subst hm0
      have : news = [] := by rw [← List.length_eq_zero_iff]; omega
      subst this
      rw [if_pos rfl]
      exact ⟨_, _, rfl, .inr ⟨b, k, room, d, rfl, h1, h2, by simpa using h3, h4⟩, Chg.refl _ _, .inl rfl⟩
    · have hle := Nat.mul_le_mul_right esz h1
      have hc : c.length = n * esz := by rw [← h3, List.length_take, h2]; omega
      have hnm : (n + m) * esz = n * esz + m * esz := Nat.add_mul _ _ _
      rw [if_neg hm0, if_pos hs]
      simp only [h4, true_and]
      rw [if_pos (show 0 + k * esz ≤ d.length by omega)]
      by_cases hk : n + m ≤ k
      · have hle2 := Nat.mul_le_mul_right esz hk
        rw [if_pos hk]
        simp only [if_true]
        refine ⟨_, _, rfl, .inr ⟨b, k, room, _, rfl, hk, ?_, ?_, AHeap.get_set_same h4 _⟩, Chg.set H (AHeap.get_lt h4) _, .inl rfl⟩
        · rw [List.length_append, List.length_append, List.length_take, List.length_drop, hm]; omega
        · rw [Nat.zero_add, h3, List.take_append_of_le_length (by rw [List.length_append, hc, hm]; omega), List.take_of_length_le (by rw [List.length_append, hc, hm]; omega)]
      · rw [if_neg hk, List.drop_zero, h3]
        have hlen : (c ++ news).length = (n + m) * esz := by rw [List.length_append, hc, hm, Nat.add_mul]
        split
        · exact ⟨_, _, rfl, .inr ⟨H.n, n + m, true, _, rfl, Nat.le_refl _, hlen, by rw [← hlen, List.take_length], AHeap.get_alloc_new H _⟩, (Chg.refl _ _).alloc _, .inr rfl⟩
        · exact ⟨_, _, rfl, .inr ⟨H.n, n + m, true, _, rfl, Nat.le_refl _, hlen, by rw [← hlen, List.take_length], AHeap.get_alloc_new (H.set b .dead) _⟩, (Chg.set H (AHeap.get_lt h4) _).alloc _, .inr rfl⟩
end
section
variable {P : Program} {ng : Nat} {H : AHeap} {KF : List Value → AHeap → Prop} {fr tm : List Value} {tr : List TE} {e esz : Nat} {v : Value} {n : Nat} {c : List Value}
end
end Go.AM

set_option linter.unusedSimpArgs false
set_option linter.unusedVariables false
namespace Go.AM
structure SepH (H K : AHeap) (ts : List Th) : Prop where
  sep : Sep K ts
  k : Keeps H K
  ge : ∀ t ∈ ts, ∀ y ∈ t.F, H.n ≤ y
section
variable {H K K' : AHeap} {t t' a b c d : Th} {r ts : List Th}
theorem SepH.keeps (h : SepH H K ts) (k : Keeps K K') : SepH H K' ts := ⟨h.sep.keeps k, h.k.trans k, h.ge⟩
theorem SepH.upd {l : List Th} (h : SepH H K (l ++ t :: r)) (c : Chg t.F K K') (hp : t'.P K') (hf : ∀ y ∈ t'.F, y ∈ t.F ∨ K.n ≤ y) : SepH H K' (l ++ t' :: r) := by
  refine ⟨h.sep.upd c hp hf, h.k.chg_trans c (fun y hy => h.ge t (by simp) y hy), fun x hx y hy => ?_⟩
  rcases List.mem_append.1 hx with hx | hx
  · exact h.ge x (by simp [hx]) y hy
  · rcases List.mem_cons.1 hx with rfl | hx
    · rcases hf y hy with e | e
      · exact h.ge t (by simp) y e
      · have := h.k.n; omega
    · exact h.ge x (by simp [hx]) y hy
theorem SepH.at_ (h : SepH H K ts) (i : Nat) (hi : ts[i]? = some t) : t.P K := h.sep.get i hi
theorem SepH.apart (h : SepH H K ts) (i j : Nat) (hij : i < j) (hi : ts[i]? = some a) (hj : ts[j]? = some b) {y : Nat} (hy : y ∈ a.F) : y ∉ b.F := h.sep.apart i j hij hi hj y hy
theorem SepH.lt (h : SepH H K ts) (i : Nat) (hi : ts[i]? = some t) {y : Nat} (hy : y ∈ t.F) : y < K.n := t.lt K (h.at_ i hi) y hy
theorem SepH.gei (h : SepH H K ts) (i : Nat) (hi : ts[i]? = some t) {y : Nat} (hy : y ∈ t.F) : H.n ≤ y := h.ge t (List.mem_of_getElem? hi) y hy
theorem SepH.old (h : SepH H K ts) (i : Nat) (hi : ts[i]? = some t) {y : Nat} (hy : y < H.n) : y ∉ t.F := fun hf => by have := h.gei i hi hf; omega
theorem SepH.add (h : SepH H K ts) (k : Keeps K K') (hp : t.P K') (hf : ∀ y ∈ t.F, K.n ≤ y) : SepH H K' (t :: ts) :=
  ⟨h.sep.add k hp hf, h.k.trans k, fun x hx y hy => by
    rcases List.mem_cons.1 hx with rfl | hx
    · have := hf y hy; have := h.k.n; omega
    · exact h.ge x hx y hy⟩
theorem SepH.nil (H : AHeap) : SepH H H [] := ⟨Sep.nil H, Keeps.refl H, by simp⟩
end
end Go.AM

set_option linter.unusedSimpArgs false
set_option linter.unusedVariables false
namespace Go.AM
section
variable {P : Program} {ng : Nat} {H : AHeap} {Q : AQ} {fr tm : List Value}
end
theorem blen (ba : ByteArray) : ba.data.toList.length = ba.size := Array.length_toList
theorem bloop {β : Type} (f : β → UInt8 → β) (ba : ByteArray) : ∀ (i j : Nat) (b : β), j + i = ba.size →
    ByteArray.foldlM.loop (m := _root_.Id) (fun b x => pure (f b x)) ba ba.size (Nat.le_refl _) i j b = (ba.data.toList.drop j).foldl f b := by
  intro i
  induction i with
  | zero =>
    intro j b h
    unfold ByteArray.foldlM.loop
    rw [dif_neg (by omega), List.drop_of_length_le (by rw [blen]; omega)]
    rfl
  | succ i ih =>
    intro j b h
    unfold ByteArray.foldlM.loop
    have hj : j < ba.size := by omega
    rw [dif_pos hj]
    have hl : j < ba.data.toList.length := by rw [blen]; exact hj
    rw [List.drop_eq_getElem_cons hl, List.foldl_cons]
    exact ih (j + 1) _ (by omega)
theorem bfold {β : Type} (f : β → UInt8 → β) (ba : ByteArray) (b : β) : ba.foldl f b = ba.data.toList.foldl f b := by
  unfold ByteArray.foldl ByteArray.foldlM
  rw [dif_pos (Nat.le_refl _)]
  exact bloop f ba ba.size 0 b (by omega)
def cB (c : UInt8) : List UInt8 → Nat
  | [] => 0
  | x :: l => if x = c then cB c l + 1 else cB c l
theorem cB_fold (c : UInt8) : ∀ (l : List UInt8) (n : Int), l.foldl (fun (n : Int) x => if x == c then n + 1 else n) n = n + (cB c l : Int)
  | [], n => by simp [cB]
  | x :: l, n => by
    rw [List.foldl_cons, cB_fold]
    by_cases h : x = c
    · have e : cB c (x :: l) = cB c l + 1 := by simp [cB, h]
      rw [e, if_pos (by simpa using h)]; push_cast; omega
    · have e : cB c (x :: l) = cB c l := by simp [cB, h]
      rw [e, if_neg (by simpa using h)]
end Go.AM

set_option linter.unusedSimpArgs false
set_option linter.unusedVariables false
namespace Go.AM
namespace Ev
variable {RT : List RDef} {P : Program} {ng : Nat}
theorem arun_extH {H : AHeap} {f : FuncId} {fn : Func} {e : Array Value → Sem Value} (hf : P.funcs[f]? = some fn) (hname : (fn.name == "runtime.NumGoroutine") = false) (hb : fn.body.isNone = true) (hn : Extern.findNext fn = none) (he : Extern.find fn = some e)
    {args : List Value} {v : Value} (hv : ∀ σ, VR σ v v) (h : ∀ σ w args', HR ng σ H.get w → VL σ args args' → (e args'.toArray).run P w = .ok v w) : ARun P ng f args H v H := by
  refine ⟨⟨fn, hf⟩, Nat.le_refl _, fun σ w args' hr ha => ?_⟩
  refine .ext v w ?_ ⟨v, σ, rfl, hr, Ext.refl _ _ _ _, hv σ⟩
  rw [run_callFunc_extern hf hname hb hn he, h σ w args' hr ha]
  rfl
theorem run_lbytes {w : World} : ∀ (zs : List Int) (a : Addr) (acc : ByteArray), (∀ (j : Nat) (v : Value), (zs.map (Value.int .u8))[j]? = some v → w.cell? (a.add j) = some v) →
    (Extern.Bytes.loadBytes a zs.length acc).run P w = .ok (zs.foldl (fun r n => r.push (UInt8.ofNat n.toNat)) acc) w
  | [], a, acc, _ => by simp [Extern.Bytes.loadBytes]
  | z :: zs, a, acc, h => by
    have h0 : w.cell? a = some (.int .u8 z) := by
      have := h 0 _ rfl
      simpa [Addr.add] using this
    have ih := run_lbytes zs (a.add 1) (acc.push z.toNat.toUInt8) (fun j v hv => by
      have := h (j + 1) v (by simpa using hv)
      have e : (a.add 1).add j = a.add (j + 1) := by
        unfold Addr.add
        by_cases hj : j = 0
        · subst hj; simp
        · simp [hj]; omega
      rw [e]; exact this)
    simp only [List.length_cons, Extern.Bytes.loadBytes, Sem.run_bind, run_load, h0, Result.andThen]
    exact ih
theorem run_count_slice {σ : Sg} {H : AHeap} {w : World} (hr : HR ng σ H.get w) {a a' : Value} (ha : VR σ a a') {c : List Value} {l : List UInt8} (hel : elemsA H 1 a = some c) (hb : bytesOf c = some l) (ch : Int) :
    (Extern.BytealgCount.count #[a', .int .u8 ch]).run P w = .ok (.int .i64 ((cB ch.toNat.toUInt8 l : Nat) : Int)) w := by
  have key : (Extern.Bytes.bytesOf a').run P w = .ok ⟨l.toArray⟩ w := by
    obtain ⟨zs, rfl, rfl⟩ := bytesOf_some hb
    obtain ⟨x', n, k', l', rfl, _, e3, e4, _, e6⟩ := elemsA_sound hr ha hel
    have := VL.ints_inv e3
    subst this
    rw [Nat.mul_one] at e4
    rcases e6 with ⟨rfl, rfl⟩ | ⟨ad, rfl, hc⟩
    · have : zs = [] := List.eq_nil_of_length_eq_zero (by simpa using e4)
      subst this
      rfl
    · have h2 := run_lbytes (P := P) zs ad .empty hc
      rw [foldl_push_bytes] at h2
      have e : n = zs.length := by simpa using e4.symm
      subst e
      exact h2.trans (by simp)
  change Sem.run P (do
    let b ← Extern.Bytes.bytesOf a'
    let c' ← Extern.Bytes.asByte (.int .u8 ch)
    pure (goInt (b.foldl (fun n x => if x == c' then n + 1 else n) ((0 : Nat) : Int)))) w = _
  simp only [Extern.Bytes.asByte, Sem.run_bind, key, Sem.run_pure, Result.andThen_ok, bfold, cB_fold]
  simp [goInt]
noncomputable def cntK (c : UInt8) (l : List UInt8) : Nat → (Nat → Bool) → Bool :=
  List.rec (motive := fun _ => Nat → (Nat → Bool) → Bool) (fun k K => K k) (fun x _ ih k K => Bool.rec (motive := fun _ => Bool) (ih k K) (forceN (k + 1) fun k => ih k K) (Nat.beq x.toNat c.toNat)) l
theorem cntK_eq (c : UInt8) : ∀ (l : List UInt8) (k : Nat) (K : Nat → Bool), cntK c l k K = K (k + cB c l)
  | [], k, K => rfl
  | x :: l, k, K => by
    have e : cntK c (x :: l) k K = Bool.rec (motive := fun _ => Bool) (cntK c l k K) (forceN (k + 1) fun k => cntK c l k K) (Nat.beq x.toNat c.toNat) := rfl
    rw [e]
    cases h : Nat.beq x.toNat c.toNat
    · have : x ≠ c := fun hh => by subst hh; rw [Nat.beq_refl] at h; cases h
      show cntK c l k K = _
      rw [cntK_eq c l, cB, if_neg this]
    · have : x = c := UInt8.toNat_inj.1 (Nat.eq_of_beq_eq_true h)
      show forceN (k + 1) (fun k => cntK c l k K) = _
      rw [forceN_eq, cntK_eq c l, cB, if_pos this]
      congr 1; omega
noncomputable def cntH : HF := fun xs n t K => match xs with
  | [v, .int .u8 (.ofNat c)] => elemsT t 1 v fun cs => match bytesOf cs with
    | some l => cntK (c.toUInt8) l 0 fun m => K (.int .i64 (.ofNat m)) n t
    | none => false
  | _ => false
theorem cnt_ok {f : FuncId} {fn : Func} (hf : P.funcs[f]? = some fn) (hname : (fn.name == "runtime.NumGoroutine") = false) (hb : fn.body.isNone = true) (hn : Extern.findNext fn = none) (he : Extern.find fn = some Extern.BytealgCount.count) : HFok RT P ng f cntH := HFok.of fun xs n t K h H r => by
  unfold cntH at h
  split at h
  · rename_i v c
    obtain ⟨cs, h1, h2⟩ := elemsT_true r h
    split at h2
    · rename_i l hl
      rw [cntK_eq, Nat.zero_add] at h2
      refine ⟨_, arun_extH hf hname hb hn he (fun σ => .int _ _) ?_, h2⟩
      intro σ w args' hr hv
      cases hv with
      | cons a hv =>
        cases hv with
        | cons b hv =>
          cases hv
          cases b
          exact run_count_slice hr a h1 hl c
    · cases h2
  · cases h
end Ev
end Go.AM

set_option linter.unusedSimpArgs false
set_option linter.unusedVariables false
namespace Go.AM
namespace Ev
open Go.Proofs Go.AM.F Go.AM.Fd
variable {RT : List RDef}
theorem bqK_true {n : Nat} {t : HT} {H : AHeap} (r : Rp RT n t H) {v : Value} {K : List UInt8 → Bool} (h : Hk.bqK v t K = true) : ∃ l, BQ H v l ∧ K l = true := by
  unfold Hk.bqK at h
  split at h
  · obtain ⟨h1, h2⟩ := asT_true h
    obtain ⟨h3, h4⟩ := asT_true h2
    have := Nat.eq_of_beq_eq_true h1
    have := Nat.eq_of_beq_eq_true h3
    subst_vars
    exact ⟨[], .inl ⟨rfl, rfl⟩, h4⟩
  · rename_i b o n k
    obtain ⟨ob, h1, h2⟩ := r.getK h
    split at h2
    · rename_i own room esz c e
      obtain ⟨h3, h4⟩ := asT_true h2
      obtain ⟨h5, h6⟩ := asT_true h4
      obtain ⟨h7, h8⟩ := asT_true h6
      rw [Hk.dropK_eq, Hk.takeK_eq] at h8
      obtain ⟨l, h9, h10⟩ := Hk.byK_true h8
      have h3 := Nat.eq_of_beq_eq_true h3
      have h5 := Nat.le_of_ble_eq_true h5
      have h7 : o + n ≤ c.length := Nat.le_of_ble_eq_true h7
      have hl : l.length = n := by
        have := congrArg List.length h9
        rw [cellsOf_length, List.length_take, List.length_drop] at this; omega
      subst hl
      exact ⟨l, .inr (.inr ⟨b, o, k, own, room, esz, c, e, rfl, h5, h1, .inl h3, h9, h7⟩), h10⟩
    · cases h2
  · cases h
noncomputable def eiK (n : Nat) : Nat → (Nat → Bool) → Bool := Nat.rec (motive := fun _ => Nat → (Nat → Bool) → Bool) (fun r K => K r) (fun _ ih r K => forceN (ah r) fun r' => ih r' K) n
theorem eiK_eq : ∀ (n r : Nat) (K : Nat → Bool), eiK n r K = K (ei n r)
  | 0, r, K => rfl
  | n + 1, r, K => by
    show forceN (ah r) (fun r' => eiK n r' K) = _
    rw [forceN_eq, eiK_eq n]; rfl
noncomputable def crcK (l : List UInt8) : Nat → (Nat → Bool) → Bool := List.rec (motive := fun _ => Nat → (Nat → Bool) → Bool) (fun r K => K r) (fun c _ ih r K => forceN (Nat.xor r c.toNat) fun r1 => eiK 8 r1 fun r2 => ih r2 K) l
theorem crcK_eq : ∀ (l : List UInt8) (r : Nat) (K : Nat → Bool), crcK l r K = K (l.foldl crcS r)
  | [], r, K => rfl
  | c :: l, r, K => by
    show forceN (Nat.xor r c.toNat) (fun r1 => eiK 8 r1 fun r2 => crcK l r2 K) = _
    rw [forceN_eq, eiK_eq, crcK_eq l]; rfl
noncomputable def sumH : HF := fun xs n t K => match xs with
  | [v] => Hk.bqK v t fun l => asT (Nat.ble l.length 1000000) (crcK l 4294967295 fun r => forceN (Nat.xor 4294967295 r) fun r => K (.int .u32 (.ofNat r)) n t)
  | _ => false
theorem sumH_true {xs : List Value} {n : Nat} {t : HT} {K : CK} (h : sumH xs n t K = true) {H : AHeap} (r : Rp RT n t H) : ∃ v l, xs = [v] ∧ BQ H v l ∧ l.length ≤ 1000000 ∧ K (.int .u32 (crc l : Nat)) n t = true := by
  unfold sumH at h
  split at h
  · rename_i v
    obtain ⟨l, h1, h2⟩ := bqK_true r h
    obtain ⟨h3, h4⟩ := asT_true h2
    rw [crcK_eq, forceN_eq] at h4
    exact ⟨v, l, rfl, h1, Nat.le_of_ble_eq_true h3, h4⟩
  · cases h
theorem sum154 : HFok RT Tryz.prog 0 154 sumH := HFok.of fun xs n t K h H r => by
  obtain ⟨v, l, rfl, h1, h2, h3⟩ := sumH_true h r
  obtain ⟨w, H', a, rfl, rfl⟩ := t154 h1.bs (by omega)
  exact ⟨_, a, h3⟩
theorem sum125 : HFok RT Tryz.prog 0 125 sumH := HFok.of fun xs n t K h H r => by
  obtain ⟨v, l, rfl, h1, h2, h3⟩ := sumH_true h r
  obtain ⟨w, H', a, rfl, k⟩ := t125 h1.bs (by omega)
  exact ⟨_, a.gc0 k (.inr (.int _ _)), h3⟩
noncomputable def cntF : Func := (Tryz.prog.funcs[112]?).getD default
theorem cntF_f : Tryz.prog.funcs[112]? = some cntF := by kernel_rfl
theorem cnt112 : HFok RT Tryz.prog 0 112 cntH := cnt_ok cntF_f (by kernel_rfl) (by kernel_rfl) (by kernel_rfl) (by kernel_rfl)
end Ev
end Go.AM

set_option linter.unusedSimpArgs false
set_option linter.unusedVariables false
namespace Go.AM
namespace Ev
variable {RT : List RDef} {P : Program}
theorem closed_at {f : FuncId} {args : List Value} {H0 H H0' : AHeap} (h : ARun P 0 f args H0 (.bool true) H0') (hn : H0.n = H.n) (hno : ∀ b o, H0.get b = some o → o.own = false)
    (hsub : ∀ b o, H.get b = some o → ∃ o0, H0.get b = some o0 ∧ ∀ (σ : Sg) (w : World) (i : BI), OR σ w i o → OR σ w i o0) : ARun P 0 f args H (.bool true) H := by
  obtain ⟨h0, _, h1⟩ := h
  refine ⟨h0, Nat.le_refl _, fun σ w args' hr ha => ?_⟩
  have hr0 : HR 0 σ H0.get w := by
    refine ⟨fun b i hb => ?_, fun b1 b2 i1 i2 o1 o2 hne h1 h2 h3 h4 h5 h6 => ?_, hr.lt, fun g hg => absurd hg (Nat.not_lt_zero g)⟩
    · obtain ⟨o, a1, a2⟩ := hr.obj b i hb
      obtain ⟨o0, a3, a4⟩ := hsub b o a1
      exact ⟨o0, a3, a4 σ w i a2⟩
    · rw [hno b1 o1 h3] at h5; cases h5
  refine (h1 σ w args' hr0 ha).mono ?_
  rintro e w' ⟨v', σ', rfl, k1, k2, k3⟩
  have hk : ∀ k, k < w.heap.size → w'.heap[k]? = w.heap[k]? := fun k hk => k2.keep k hk (fun b i o hb ho hown => by rw [hno b o ho] at hown; cases hown)
  have hsz := k2.size
  refine ⟨v', σ, rfl, ⟨fun b i hb => ?_, hr.inj, fun b i hb => Nat.lt_of_lt_of_le (hr.lt b i hb) hsz, hr.glob⟩, ⟨Sg.le.refl σ, (fun b i h1 h2 => by rw [h1] at h2; cases h2), fun _ _ o' _ a b => ⟨o', a, b⟩, fun _ _ o' _ a b => ⟨o', a, b⟩, fun k a _ => hk k a, hsz, Nat.le_refl _, k2.os, k2.tape, k2.output⟩, ?_⟩
  · obtain ⟨o, a1, a2⟩ := hr.obj b i hb
    exact ⟨o, a1, a2.congr (fun _ => hk _ (hr.lt b i hb))⟩
  · rw [k3.bool_inv]; exact .bool _
noncomputable def allocs (l : List AO) : Nat → HT → (Nat → HT → Bool) → Bool :=
  List.rec (motive := fun _ => Nat → HT → (Nat → HT → Bool) → Bool) (fun n t K => K n t) (fun o _ ih n t K => allocT o n t fun n t => ih n t K) l
def notLoop : AO → Bool
  | .loop .. => false
  | _ => true
theorem dec_notLoop {o : AO} (h : notLoop o = true) : dec RT o = o := by cases o <;> first | rfl | cases h
theorem allocs_true : ∀ {l : List AO} {n : Nat} {t : HT} {K : Nat → HT → Bool} {H : AHeap}, allocs l n t K = true → l.all notLoop = true → Rp RT n t H → ∃ n' t', K n' t' = true ∧ Rp RT n' t' (l.foldl AHeap.alloc H)
  | [], n, t, K, H, h, _, r => ⟨n, t, h, r⟩
  | o :: l, n, t, K, H, h, hl, r => by
    simp only [List.all_cons, Bool.and_eq_true] at hl
    have h' : allocT o n t (fun n t => allocs l n t K) = true := h
    obtain ⟨n', t', h1, h2⟩ := r.allocT h' (dec_notLoop hl.1)
    exact allocs_true (l := l) h1 hl.2 h2
theorem foldl_alloc_get : ∀ (l : List AO) (H : AHeap), (l.foldl AHeap.alloc H).n = H.n + l.length ∧ ∀ b, (l.foldl AHeap.alloc H).get b = if b < H.n then H.get b else l[b - H.n]?
  | [], H => ⟨rfl, fun b => by
      simp only [List.foldl_nil, List.getElem?_nil]
      split
      · rfl
      · rename_i hb
        simp only [AHeap.get, if_neg hb]⟩
  | o :: l, H => by
    obtain ⟨h1, h2⟩ := foldl_alloc_get l (H.alloc o)
    refine ⟨by simp only [List.foldl_cons, h1, alloc_n, List.length_cons]; omega, fun b => ?_⟩
    simp only [List.foldl_cons, h2, alloc_n, alloc_get]
    by_cases hb : b < H.n
    · rw [if_pos (by omega), if_neg (by omega), if_pos hb]
    · rw [if_neg hb]
      by_cases hb2 : b = H.n
      · subst hb2
        rw [if_pos (by omega), if_pos rfl]; simp
      · rw [if_neg (by omega)]
        have : b - H.n = (b - (H.n + 1)) + 1 := by omega
        rw [this, List.getElem?_cons_succ]
def likeB (o : AO) : AO → Bool
  | .dead => true
  | .cells false room esz c e => match o with
    | .cells _ room' esz' c' e' => match room == room', Nat.beq esz esz', Nat.beq e e' with
      | true, true, true => valsEq c c'
      | _, _, _ => false
    | _ => false
  | _ => false
theorem likeB_true {o s : AO} (h : likeB o s = true) (σ : Sg) (w : World) (i : BI) (k : OR σ w i o) : OR σ w i s := by
  unfold likeB at h
  split at h
  · trivial
  · split at h
    · split at h
      · rename_i e1 e2 e3
        have := eq_of_beq e1
        have := Nat.eq_of_beq_eq_true e2
        have := Nat.eq_of_beq_eq_true e3
        have := valsEq_true h
        subst_vars
        exact OR.unown k
      · cases h
    · cases h
  · cases h
noncomputable def chkT (l : List AO) : Nat → HT → Bool → Bool :=
  List.rec (motive := fun _ => Nat → HT → Bool → Bool) (fun _ _ K => K) (fun s _ ih b t K => asT (t.getK b fun _ => true) (match s with
    | .dead => forceN (b + 1) fun b => ih b t K
    | s => asT (t.getK b fun o => likeB o s) (forceN (b + 1) fun b => ih b t K))) l
theorem chkT_true {n : Nat} {t : HT} {H : AHeap} (r : Rp RT n t H) : ∀ {l : List AO} {b : Nat} {K : Bool}, chkT l b t K = true → K = true ∧ ∀ (j : Nat) (s : AO), l[j]? = some s → ∃ o, H.get (b + j) = some o ∧ ∀ (σ : Sg) (w : World) (i : BI), OR σ w i o → OR σ w i s
  | [], b, K, h => ⟨h, fun j s hs => by simp at hs⟩
  | s :: l, b, K, h => by
    obtain ⟨h1, h2⟩ := asT_true h
    obtain ⟨o, g1, _⟩ := r.getd h1
    have key : (∀ (σ : Sg) (w : World) (i : BI), OR σ w i (dec RT o) → OR σ w i s) ∧ chkT l (b + 1) t K = true := by
      by_cases hd : s = .dead
      · subst hd
        simp only [forceN_eq] at h2
        exact ⟨fun _ _ _ _ => trivial, h2⟩
      · have h3 : (t.getK b fun o => likeB o s) = true ∧ chkT l (b + 1) t K = true := by
          cases s <;> first | exact absurd rfl hd | (simp only [forceN_eq] at h2; exact asT_true h2)
        obtain ⟨o2, g2, g3⟩ := r.getK h3.1 (fun own st pe L => by cases s <;> first | exact absurd rfl hd | rfl | (rename_i own' _ _ _ _; cases own' <;> rfl))
        rw [g1] at g2
        cases g2
        exact ⟨fun σ w i k => likeB_true g3 σ w i k, h3.2⟩
    obtain ⟨k1, k2⟩ := chkT_true r (l := l) key.2
    refine ⟨k1, fun j s' hs => ?_⟩
    cases j with
    | zero => simp at hs; subst hs; exact ⟨_, g1, key.1⟩
    | succ j =>
      obtain ⟨o', q1, q2⟩ := k2 j s' (by simpa using hs)
      exact ⟨o', by rw [← q1]; congr 1; omega, q2⟩
noncomputable def partH (spec : List AO) (args : List Value) : HF := fun xs n t K => asT (valsEq xs args) (asT (Nat.beq n spec.length) (chkT spec 0 t (K (.bool true) n t)))
theorem part_ok {k : Nat} {spec : List AO} {args : List Value} {H0' : AHeap} (h : ARun P 0 k args (spec.foldl AHeap.alloc ⟨0, []⟩) (.bool true) H0') (hno : (spec.all fun o => !o.own) = true) : HFok RT P 0 k (partH spec args) := HFok.of fun xs n t K h1 H r => by
  obtain ⟨h2, h3⟩ := asT_true h1
  obtain ⟨h4, h5⟩ := asT_true h3
  obtain ⟨h6, h7⟩ := chkT_true r h5
  have hx := valsEq_true h2
  subst hx
  have hl := Nat.eq_of_beq_eq_true h4
  obtain ⟨f1, f2⟩ := foldl_alloc_get spec ⟨0, []⟩
  have hget : ∀ b, (spec.foldl AHeap.alloc ⟨0, []⟩).get b = spec[b]? := fun b => by rw [f2 b]; simp
  refine ⟨_, closed_at h ?_ ?_ ?_, h6⟩
  · rw [f1, r.n, hl]; simp
  · intro b o hb
    rw [hget] at hb
    have := List.all_eq_true.1 hno o (List.mem_of_getElem? hb)
    simpa using this
  · intro b o hb
    have hlt : b < spec.length := by
      have := AHeap.get_lt hb
      rw [r.n] at this; omega
    refine ⟨spec[b], by rw [hget, List.getElem?_eq_getElem hlt], ?_⟩
    obtain ⟨o', q1, q2⟩ := h7 b spec[b] (List.getElem?_eq_getElem hlt)
    rw [Nat.zero_add, hb] at q1
    cases q1
    exact q2
theorem part_run {ng : Nat} {T : FT} (hT : T.ok RT P 0) (hR : RTok P 0 RT) {spec : List AO} {args : List Value} {fuel k : Nat} (h : allocs spec 0 .leaf (fun n t => runF T RT fuel k args n t isTrue) = true) (hl : spec.all notLoop = true) :
    ∃ H0', ARun P 0 k args (spec.foldl AHeap.alloc ⟨0, []⟩) (.bool true) H0' := by
  obtain ⟨n, t, h1, h2⟩ := allocs_true h hl Rp.empty
  obtain ⟨v, H', h3, n', t', _, h4⟩ := runF_sound hT hR h1 h2
  have hv : v = .bool true := by
    unfold isTrue at h4
    split at h4
    · cases h4; rfl
    · cases h4
  subst hv
  exact ⟨_, h3⟩
theorem part_hook {T : FT} (hT : T.ok RT P 0) (hR : RTok P 0 RT) {spec : List AO} {args : List Value} {fuel k : Nat} (h : allocs spec 0 .leaf (fun n t => runF T RT fuel k args n t isTrue) = true) (hl : spec.all notLoop = true) (hno : (spec.all fun o => !o.own) = true) : HFok RT P 0 k (partH spec args) := by
  obtain ⟨_, h2⟩ := part_run (ng := 0) hT hR h hl
  exact part_ok h2 hno
noncomputable def orH (a b : HF) : HF := fun xs n t K => Bool.rec (motive := fun _ => Bool) (b xs n t K) true (a xs n t K)
theorem orH_ok {k : Nat} {a b : HF} (ha : HFok RT P 0 k a) (hb : HFok RT P 0 k b) : HFok RT P 0 k (orH a b) := fun xs n t K h H r => by
  unfold orH at h
  cases e : a xs n t K
  · rw [e] at h; exact hb xs n t K h H r
  · exact ha xs n t K e H r
end Ev
end Go.AM

set_option linter.unusedSimpArgs false
set_option linter.unusedVariables false
namespace Go.AM
def QL (R : Act → World → Prop) (Q : Exit → Act → World → Prop) : Exit → Act → World → Prop
  | .normal, a, w => R a w
  | .exit id, a, w => Q (.exit id) a w
  | .goto l, a, w => Q (.goto l) a w
  | .ret, a, w => Q .ret a w
  | .panic ch, a, w => Q (.panic ch) a w
  | .outgrown, a, w => Q .outgrown a w
section
variable {F : Fence} {m : Nat} {P : Program} {R : Act → World → Prop} {Q : Exit → Act → World → Prop}
theorem wpIn_QL {o : Oper} {a : Act} {w : World} {K K2 : Act → World → Prop} (hh : o.wpIn F m P a w K (QL R Q)) (h : ∀ a w, K a w → K2 a w) : o.wpIn F m P a w K2 Q := by
  unfold Oper.wpIn at *
  refine ⟨hh.1, ?_⟩
  have hh := hh.2
  generalize (o.semAt F.round a.eval).run P w = r at *
  cases r with
  | ok x w' =>
    cases x <;> simp only [Oper.uponIn] at hh ⊢ <;>
      first
        | exact h _ _ hh
        | exact ⟨hh.1, CallsIn.mono hh.2 (fun e w'' he => by cases e <;> first | exact h _ _ he | exact he)⟩
        | exact ⟨hh.1, RowsIn.mono hh.2 (fun _ _ he => h _ _ he)⟩
        | exact ⟨hh.1, RoundIn.mono hh.2 (fun e w'' he => by cases e <;> first | exact h _ _ he | exact he)⟩
  | halt x w' => cases x <;> simp only [Oper.uponIn] at hh ⊢ <;> exact hh
structure Like (ops ops' : Array Oper) (j : Nat) (o : Oper) (v0 : Value) : Prop where
  size : ops'.size = ops.size
  same : ∀ i, i ≠ j → ops'[i]? = ops[i]?
  at_ : ops[j]? = some o
  at' : ops'[j]? = some { o with op := .move (.const v0) }
  guard : o.guard = none
variable {ops ops' : Array Oper} {j : Nat} {o : Oper} {v0 : Value}
theorem Like.map {α : Type} (L : Like ops ops' j o v0) (f : Oper → α) (hf : ∀ o op, f { o with op := op } = f o) (i : Nat) : (ops'[i]?).map f = (ops[i]?).map f := by
  by_cases h : i = j
  · subst h; rw [L.at_, L.at']; simp only [Option.map_some, hf]
  · rw [L.same i h]
theorem Like.yielded (L : Like ops ops' j o v0) (t : Array Value) : Go.yielded ops' t = Go.yielded ops t := by
  funext k
  unfold Go.yielded
  have h : (ops'[k]?).bind (·.dst) = (ops[k]?).bind (·.dst) := by
    by_cases h : k = j
    · subst h; rw [L.at_, L.at']; rfl
    · rw [L.same k h]
  rw [h]
theorem Like.ready (L : Like ops ops' j o v0) (l : Array Bool) : Region.ready .any ops' l = Region.ready .any ops l := by
  unfold Region.ready
  rw [L.size]
  congr 1
  funext i
  rw [L.map (fun o => o.after.all fun e => !Region.binds .any e || l.getD e.on false) (fun _ _ => rfl) i]
theorem Like.wanted (L : Like ops ops' j o v0) (y : Nat → Option Bool) : Region.wanted o y = true := by
  unfold Region.wanted; rw [L.guard]
theorem Like.wanted' (L : Like ops ops' j o v0) (op : Op) (y : Nat → Option Bool) : Region.wanted { o with op := op } y = true := by
  unfold Region.wanted; simp only [L.guard]
theorem move_wp (hF : IsW F) {a : Act} {w : World} {K : Act → World → Prop} {Q : Exit → Act → World → Prop} (h : ({ o with op := .move (.const v0) } : Oper).wpIn F m P a w K Q) : K (a.put o.dst v0) w := by
  have h := h.2
  rw [Oper.semAt_eq _ _ _ (by intro c; simp)] at h
  simpa [execOp, Oper.uponIn, Act.eval] using h
theorem list_last (hF : IsW F) (L : Like ops ops' j o v0) (hP : ∀ a w, R (a.put o.dst v0) w → o.wpIn F m P a w (fun a' w' => Q .normal a' w') Q) : ∀ (l : List Oper) (a : Act) (w : World),
    wpListIn F m P ops' (QL R Q) (l ++ [{ o with op := .move (.const v0) }]) a w → wpListIn F m P ops Q (l ++ [o]) a w
  | [], a, w, h => by
    simp only [List.nil_append, wpListIn, L.wanted, L.wanted', if_true] at h ⊢
    exact hP a w (move_wp hF h)
  | p :: l, a, w, h => by
    simp only [List.cons_append, wpListIn, L.yielded] at h ⊢
    split
    · rename_i hw
      rw [if_pos hw] at h
      exact wpIn_QL h (fun a w => list_last hF L hP l a w)
    · rename_i hw
      rw [if_neg hw] at h
      exact ⟨h.1, list_last hF L hP l _ w h.2⟩
theorem mem_ready' {l : Array Bool} {i : Nat} : i ∈ Region.ready .any ops l ↔ i < ops.size ∧ l.getD i true = false ∧ ∃ o, ops[i]? = some o ∧ ∀ e ∈ o.after, Region.binds .any e = true → l.getD e.on false = true := by
  unfold Region.ready
  rw [List.mem_filter, List.mem_range]
  constructor
  · rintro ⟨h1, h2⟩
    simp only [Bool.and_eq_true, Bool.not_eq_true'] at h2
    refine ⟨h1, h2.1, ?_⟩
    cases ho : ops[i]? with
    | none => rw [ho] at h2; simp at h2
    | some o =>
      rw [ho] at h2
      refine ⟨o, rfl, fun e he hb => ?_⟩
      have := h2.2
      simp only [Option.map_some, Option.getD_some] at this
      rw [Array.all_eq_true'] at this
      have := this e he
      simpa [hb] using this
  · rintro ⟨h1, h2, o, h3, h4⟩
    refine ⟨h1, ?_⟩
    simp only [Bool.and_eq_true, Bool.not_eq_true']
    refine ⟨h2, ?_⟩
    rw [h3]
    simp only [Option.map_some, Option.getD_some]
    rw [Array.all_eq_true']
    intro e he
    by_cases hb : Region.binds .any e = true
    · rw [h4 e he hb]; simp
    · simp [hb]
theorem any_last (hF : IsW F) (L : Like ops ops' j o v0) (hjs : j < ops.size) (hlast : ∀ i, i < ops.size → i ≠ j → ordB (anc ops) i j = true) (hedge : ∀ i o e, ops[i]? = some o → e ∈ o.after → Region.binds .any e = true → e.on < i)
    (hP : ∀ a w, R (a.put o.dst v0) w → o.wpIn F m P a w (fun a' w' => Q .normal a' w') Q) :
    ∀ (fuel : Nat) (S : Nat → Bool) (l : Array Bool) (a : Act) (w : World), l.size = ops.size → (∀ i, i < ops.size → l[i]? = some (S i)) → cntU ops.size S = fuel → Closed ops S → S j = false →
      wpAnyIn F m P .any ops' (QL R Q) fuel l a w → wpAnyIn F m P .any ops Q fuel l a w
  | 0, S, l, a, w, hsz, hl, hc, hS, hj, h => by
    rw [cntU_zero hc j hjs] at hj; cases hj
  | fuel + 1, S, l, a, w, hsz, hl, hc, hS, hj, h => by
    have rd : ∀ i, i ∈ Region.ready .any ops l → i < ops.size ∧ Ready ops S i := by
      intro i hi
      obtain ⟨h1, h2, o1, h3, h4⟩ := mem_ready'.1 hi
      refine ⟨h1, ?_, fun o2 ho e he hb => ?_⟩
      · rw [Array.getD_eq_getD_getElem?, hl i h1] at h2; simpa using h2
      · rw [h3] at ho; cases ho
        have h5 := h4 e he hb
        have := hedge i o1 e h3 he hb
        rw [Array.getD_eq_getD_getElem?, hl e.on (by omega)] at h5
        simpa using h5
    refine ⟨fun hnil => ?_, fun i hi => ?_⟩
    · exfalso
      have all : ∀ k i, i < k → i < ops.size → S i = true := by
        intro k
        induction k with
        | zero => intro i h; omega
        | succ k ih =>
          intro i hik his
          cases hs : S i with
          | true => rfl
          | false =>
            exfalso
            have : i ∈ Region.ready .any ops l := mem_ready'.2 ⟨his, by rw [Array.getD_eq_getD_getElem?, hl i his, hs]; rfl, ops[i], Array.getElem?_eq_getElem his, fun e he hb => by
              have := hedge i _ e (Array.getElem?_eq_getElem his) he hb
              rw [Array.getD_eq_getD_getElem?, hl e.on (by omega), ih e.on (by omega) (by omega)]; rfl⟩
            rw [hnil] at this
            simp at this
      rw [all (j + 1) j (by omega) hjs] at hj; cases hj
    · obtain ⟨his, hr⟩ := rd i hi
      have h2 := h.2 i (by rw [L.ready]; exact hi)
      by_cases e : i = j
      · subst e
        have hoth : ∀ k, k < ops.size → k ≠ i → S k = true := by
          intro k hk hne
          have := anc_spec (hS.add hr) (hlast k hk hne) (addS_same ..)
          rwa [addS_ne hne] at this
        have hnil : Region.ready .any ops (l.setIfInBounds i true) = [] := by
          rw [List.eq_nil_iff_forall_not_mem]
          intro k hk
          obtain ⟨h1, h2, _⟩ := mem_ready'.1 hk
          by_cases e : k = i
          · subst e
            rw [Array.getD_eq_getD_getElem?, Array.getElem?_setIfInBounds_self_of_lt (by omega)] at h2
            cases h2
          · rw [Array.getD_eq_getD_getElem?, Array.getElem?_setIfInBounds_ne (Ne.symm e), hl k h1, hoth k h1 e] at h2
            cases h2
        unfold wpOpIn at h2 ⊢
        rw [L.at'] at h2
        rw [L.at_]
        simp only [L.wanted, L.wanted', if_true] at h2 ⊢
        have h3 := move_wp hF h2
        have h4 : R (a.put o.dst v0) w := by
          cases fuel with
          | zero => exact h3.2
          | succ f => exact h3.1 (by rw [L.ready]; exact hnil)
        refine Oper.wpIn_mono ?_ (hP a w h4)
        intro a' w' hq
        cases fuel with
        | zero => exact ⟨hnil, hq⟩
        | succ f => exact ⟨fun _ => hq, fun k hk => by rw [hnil] at hk; simp at hk⟩
      · have next : ∀ a w, wpAnyIn F m P .any ops' (QL R Q) fuel (l.setIfInBounds i true) a w → wpAnyIn F m P .any ops Q fuel (l.setIfInBounds i true) a w := by
          intro a w hh
          refine any_last hF L hjs hlast hedge hP fuel (addS S i) _ a w (by simpa using hsz) ?_ ?_ (hS.add hr) (by rw [addS_ne (Ne.symm e)]; exact hj) hh
          · intro k hk
            by_cases e : i = k
            · subst e
              rw [addS_same]
              simp [hsz, hk]
            · rw [Array.getElem?_setIfInBounds_ne e, addS_ne (Ne.symm e)]
              exact hl k hk
          · have := (cntU_add (S := S) hr.1 (n := ops.size)).1 his
            omega
        unfold wpOpIn at h2 ⊢
        rw [L.same i e] at h2
        split
        · rename_i hn; rw [hn] at h2; exact next _ _ h2
        · rename_i o1 ho
          rw [ho] at h2
          simp only [L.yielded] at h2
          split
          · rename_i hw; rw [if_pos hw] at h2; exact wpIn_QL h2 next
          · rename_i hw; rw [if_neg hw] at h2; exact ⟨h2.1, next _ _ h2.2⟩
end
end Go.AM

set_option linter.unusedSimpArgs false
set_option linter.unusedVariables false
namespace Go.AM
inductive PC
  | plain (c : ACode)
  | seq (a b : PC)
  | cond (c : AX) (a b : PC)
  | lastR (al : List AOper) (e : AX)
  | lastD (al : List (AOper × List Nat)) (e : AX)
abbrev KPan := Int → AHeap → Prop
def lastK (e : AX) (Q : AQ) (KP : KPan) (fr : List Value) (H : AHeap) : Prop := ∃ k : Int, e.ev fr [] = .int .i64 k ∧ if k = 0 then Q .normal fr H else KP k H
def WX (P : Program) (ng : Nat) : PC → AQ → KPan → List Value → AHeap → Prop
  | .plain c, Q, _, fr, H => W P ng c Q fr H
  | .seq a b, Q, KP, fr, H => WX P ng a (Q.andThen (WX P ng b Q KP)) KP fr H
  | .cond c x y, Q, KP, fr, H => match c.ev fr [] with
    | .bool b => if b then WX P ng x Q KP fr H else WX P ng y Q KP fr H
    | _ => False
  | .lastR al e, Q, KP, fr, H => RW P ng al fr [] H (lastK e Q KP)
  | .lastD al e, Q, KP, fr, H => RD P ng al fr [] H [] (lastK e Q KP)
def mustOp (mf : FuncId) (o : Oper) : Option Operand := match o.op with
  | .call c => match c.callee, c.args.toList with
    | .value (.func f), [x] => if f = mf ∧ o.guard = none then some x else none
    | _, _ => none
  | _ => none
theorem mustOp_spec {mf : FuncId} {o : Oper} {x : Operand} (h : mustOp mf o = some x) : o.guard = none ∧ ∃ tys, o.op = .call { callee := .value (.func mf), args := #[x], argTypes := tys } := by
  unfold mustOp at h
  split at h
  · rename_i c hc
    split at h
    · rename_i f y h1 h2
      split at h
      · rename_i h3
        cases h
        refine ⟨h3.2, c.argTypes, ?_⟩
        obtain ⟨callee, args, tys⟩ := c
        simp only at h1 h2
        rw [hc, h1, h3.1]
        congr 2
        rw [← Array.toArray_toList (xs := args), h2]
      · cases h
    · cases h
  · cases h
def lastO (mf : FuncId) (ops : Array Oper) : Option (Oper × Operand) := match ops[ops.size - 1]? with
  | some o => (mustOp mf o).map fun x => (o, x)
  | none => none
def opsL (ops : Array Oper) (o : Oper) : Array Oper := ops.setIfInBounds (ops.size - 1) { o with op := .move (.const (.tuple #[])) }
def freeOf (x : Operand) (o : Oper) : Bool := match x with
  | .tmp t => match o.dst with
    | some u => !(t == u)
    | none => true
  | .const _ => true
  | _ => false
def lastOK (P : Program) (ops : Array Oper) (o : Oper) (d : Bool) : Bool := !d || (drawOK P (opsL ops o) (drawUns P (opsL ops o)) && (List.range ops.size).all fun i => i == ops.size - 1 || ordB (anc ops) i (ops.size - 1))
def compP (P : Program) (ng N : Nat) (sl : List Nat) (mf : FuncId) : Code → Option PC
  | .seq a b => match compP P ng N sl mf a, compP P ng N sl mf b with
    | some x, some y => some (.seq x y)
    | _, _ => none
  | .cond c t e => match compX ng sl [] c, compP P ng N sl mf t, compP P ng N sl mf e with
    | some x, some y, some z => some (.cond x y z)
    | _, _, _ => none
  | .region id ops d => match lastO mf ops with
    | some (o, x) => if freeOf x o && lastOK P ops o d then
        match compX ng sl [] x, compR P ng N sl (opsL ops o) (opsL ops o).toList [] with
        | some e, some al => some (if d then .lastD (al.zip (drawUns P (opsL ops o))) e else .lastR al e)
        | _, _ => none
      else none
    | none => (compC P ng N sl (.region id ops d)).map .plain
  | c => (compC P ng N sl c).map .plain
def MustOK (P : Program) (mf : FuncId) (T : TypeId) : Prop := Bodied P mf ∧ ∀ (k : Int) (w : World), Calls P mf #[.int .i64 k] w fun e w' => w' = w ∧ e = if k = 0 then .returned (.tuple #[]) else .panicked [{ v := .iface T (.int .i64 k), recovered := false }]
def LQX (ng N : Nat) (sl : List Nat) (σ0 : Sg) (H0 : AHeap) (w0 : World) (T : TypeId) (Q : AQ) (KP : KPan) : Exit → Act → World → Prop
  | .normal, a, w => LQ ng N sl σ0 H0 w0 Q .normal a w
  | .exit id, a, w => LQ ng N sl σ0 H0 w0 Q (.exit id) a w
  | .ret, a, w => LQ ng N sl σ0 H0 w0 Q .ret a w
  | .panic ch, a, w => ∃ k H σ ds, ch = [{ v := .iface T (.int .i64 k), recovered := false }] ∧ a.defers = ds ∧ HR ng σ H.get w ∧ Ext H0.n σ0 H0.get w0 H.n σ H.get w ∧ DM w0.heap.size σ w ds ∧ KP k H
  | .goto _, _, _ => False
  | .outgrown, _, _ => False
theorem wpListIn_mono {F : Fence} {m : Nat} {P : Program} {ops : Array Oper} {Q Q' : Exit → Act → World → Prop} (h : ∀ e a w, Q e a w → Q' e a w) : ∀ (l : List Oper) (a : Act) (w : World), wpListIn F m P ops Q l a w → wpListIn F m P ops Q' l a w
  | [], a, w, hh => h _ _ _ hh
  | o :: l, a, w, hh => by
    simp only [wpListIn] at hh ⊢
    split
    · rename_i hw
      rw [if_pos hw] at hh
      unfold Oper.wpIn at *
      refine ⟨hh.1, ?_⟩
      have hh := hh.2
      generalize (o.semAt F.round a.eval).run P w = r at *
      cases r with
      | ok x w' =>
        cases x <;> simp only [Oper.uponIn] at hh ⊢ <;>
          first
            | exact wpListIn_mono h l _ _ hh
            | exact ⟨hh.1, CallsIn.mono hh.2 (fun e w'' he => by
                cases e with
                | returned v => exact wpListIn_mono h l _ _ he
                | panicked ch => exact h _ _ _ he
                | outgrown => obtain ⟨a, w, q⟩ := he; exact ⟨a, w, h _ _ _ q⟩)⟩
            | exact ⟨hh.1, RowsIn.mono hh.2 (fun _ _ he => wpListIn_mono h l _ _ he)⟩
            | exact ⟨hh.1, RoundIn.mono hh.2 (fun e w'' he => by
                cases e with
                | returned v => exact wpListIn_mono h l _ _ he
                | panicked ch => exact h _ _ _ he
                | outgrown => obtain ⟨a, w, q⟩ := he; exact ⟨a, w, h _ _ _ q⟩)⟩
      | halt x w' => cases x <;> simp only [Oper.uponIn] at hh ⊢ <;> first | exact h _ _ _ hh | exact hh
    · rename_i hw
      rw [if_neg hw] at hh
      exact ⟨hh.1, wpListIn_mono h l _ _ hh.2⟩
section
variable {P : Program} {ng N : Nat} {sl : List Nat} {mf : FuncId} {T : TypeId}
theorem lastO_spec {ops : Array Oper} {o : Oper} {x : Operand} (h : lastO mf ops = some (o, x)) : ops[ops.size - 1]? = some o ∧ mustOp mf o = some x ∧ 0 < ops.size := by
  unfold lastO at h
  split at h
  · rename_i p hp
    simp only [Option.map_eq_some_iff] at h
    obtain ⟨y, h1, h2⟩ := h
    cases h2
    have := (Array.getElem?_eq_some_iff.1 hp).1
    exact ⟨hp, h1, by omega⟩
  · cases h
theorem like_of {ops : Array Oper} {o : Oper} {x : Operand} (h : lastO mf ops = some (o, x)) : Like ops (opsL ops o) (ops.size - 1) o (.tuple #[]) := by
  obtain ⟨h1, h2, h3⟩ := lastO_spec h
  refine ⟨by simp [opsL], fun i hi => ?_, h1, ?_, (mustOp_spec h2).1⟩
  · unfold opsL; rw [Array.getElem?_setIfInBounds_ne (Ne.symm hi)]
  · unfold opsL; rw [Array.getElem?_setIfInBounds_self_of_lt (by omega)]
theorem list_split {ops : Array Oper} {o : Oper} (h : ops[ops.size - 1]? = some o) (h0 : 0 < ops.size) : ∃ l, ops.toList = l ++ [o] ∧ (opsL ops o).toList = l ++ [{ o with op := .move (.const (.tuple #[])) }] := by
  have e : ops.toList = ops.toList.take (ops.size - 1) ++ [o] := by
    have h1 : ops.toList[ops.size - 1]? = some o := by simpa using h
    have h2 : ops.size - 1 < ops.toList.length := by simp; omega
    rw [List.getElem?_eq_getElem h2] at h1
    simp only [Option.some.injEq] at h1
    have h3 := List.take_concat_get (l := ops.toList) (i := ops.size - 1) h2
    rw [h1] at h3
    rw [List.concat_eq_append] at h3
    rw [h3]
    exact (List.take_of_length_le (by simp; omega)).symm
  refine ⟨_, e, ?_⟩
  unfold opsL
  rw [Array.toList_setIfInBounds]
  have hl : (ops.toList.take (ops.size - 1)).length = ops.size - 1 := by simp
  conv => lhs; rw [e]
  rw [List.set_append_right _ _ (by omega), hl, Nat.sub_self]
  rfl
theorem must_wp (hM : MustOK P mf T) {o : Oper} {x : Operand} {e : AX} (ho : mustOp mf o = some x) (hx : compX ng sl [] x = some e) (hfree : freeOf x o = true) {F : Fence} (hF : IsW F) {m : Nat} {σ0 : Sg} {H0 : AHeap} {w0 : World} {Q : AQ} {KP : KPan} {a : Act} {w : World}
    (h : ∃ fr H σ ds, ER σ N sl [] ds fr [] (a.put o.dst (.tuple #[])) ∧ HR ng σ H.get w ∧ Ext H0.n σ0 H0.get w0 H.n σ H.get w ∧ DM w0.heap.size σ w ds ∧ lastK e Q KP fr H) :
    o.wpIn F m P a w (fun a' w' => LQX ng N sl σ0 H0 w0 T Q KP .normal a' w') (LQX ng N sl σ0 H0 w0 T Q KP) := by
  obtain ⟨fr, H, σ, ds, k1, k2, k3, k4, k, k5, k6⟩ := h
  obtain ⟨hg, tys, hop⟩ := mustOp_spec ho
  have hv := compX_sound k1 k2 hx
  rw [k5] at hv
  have hev : (a.put o.dst (.tuple #[])).eval x = .int .i64 k := by
    generalize (a.put o.dst (.tuple #[])).eval x = u at hv
    cases hv; rfl
  have hev2 : a.eval x = .int .i64 k := by
    rw [← hev]
    unfold freeOf at hfree
    split at hfree
    · rename_i t
      split at hfree
      · rename_i u hu
        have hne : t ≠ u := fun hh => by subst hh; simp at hfree
        rw [hu]
        simp only [Act.eval, Act.put, Array.getD_eq_getD_getElem?]
        rw [Array.getElem?_setIfInBounds_ne (Ne.symm hne)]
      · rename_i hu; rw [hu]; rfl
    · rfl
    · cases hfree
  have hd : ∀ c, o.op ≠ .defer c := fun c => by rw [hop]; simp
  have hrun : (execOp a.eval o).run P w = .ok (.enter mf #[.int .i64 k]) w := by
    have : (execOp a.eval o).run P w = (callFunc mf #[.int .i64 k]).run P w := by
      obtain ⟨dst, op, type, pos, after, guard⟩ := o
      simp only at hop
      subst hop
      have e1 : a.eval (.func mf) = .func (.func mf) #[] #[] := rfl
      simp [execOp, resolve, Deferred.ofValue, e1, hev2, invoke]
    rw [this, hM.1.run]
  refine wpIn_exec hF hd hrun ⟨hF.deep, ?_⟩
  refine CallsIn.mono (hF.calls (hM.2 k w)) ?_
  rintro e' w' ⟨rfl, rfl⟩
  by_cases hk : k = 0
  · rw [if_pos hk] at k6 ⊢
    exact ⟨fr, H, σ, ds, k1, k2, k3, k4, k6⟩
  · rw [if_neg hk] at k6 ⊢
    refine ⟨k, H, σ, ds, rfl, ?_, k2, k3, k4, k6⟩
    rw [← k1.dfr]
    cases o.dst <;> rfl
theorem LQ_X {σ0 : Sg} {H0 : AHeap} {w0 : World} {Q : AQ} {KP : KPan} {e : Exit} {a : Act} {w : World} (h : LQ ng N sl σ0 H0 w0 Q e a w) : LQX ng N sl σ0 H0 w0 T Q KP e a w := by
  cases e with
  | normal => exact h
  | exit id => exact h
  | ret => exact h
  | goto l => exact h
  | panic ch => exact h.elim
  | outgrown => exact h
theorem WX_sound (hM : MustOK P mf T) {F : Fence} (hF : IsW F) (hFw : F = Fence.wide) {m : Nat} (hnd : sl.Nodup) : ∀ (c : Code) (pc : PC), compP P ng N sl mf c = some pc → ∀ (Q : AQ) (KP : KPan) (fr : List Value) (H : AHeap), WX P ng pc Q KP fr H →
    ∀ (σ0 : Sg) (H0 : AHeap) (w0 : World) (σ : Sg) (a : Act) (w : World) (ds : List Deferred), ER σ N sl [] ds fr [] a → HR ng σ H.get w → Ext H0.n σ0 H0.get w0 H.n σ H.get w → DM w0.heap.size σ w ds → c.wpIn F m P (LQX ng N sl σ0 H0 w0 T Q KP) a w := by
  have plain : ∀ (c : Code) (pc : PC), (compC P ng N sl c).map .plain = some pc → ∀ (Q : AQ) (KP : KPan) (fr : List Value) (H : AHeap), WX P ng pc Q KP fr H →
      ∀ (σ0 : Sg) (H0 : AHeap) (w0 : World) (σ : Sg) (a : Act) (w : World) (ds : List Deferred), ER σ N sl [] ds fr [] a → HR ng σ H.get w → Ext H0.n σ0 H0.get w0 H.n σ H.get w → DM w0.heap.size σ w ds → c.wpIn F m P (LQX ng N sl σ0 H0 w0 T Q KP) a w := by
    intro c pc hc Q KP fr H h σ0 H0 w0 σ a w ds he hr hx hd
    simp only [Option.map_eq_some_iff] at hc
    obtain ⟨ac, h1, rfl⟩ := hc
    exact wpIn_mono (W_sound hF hnd c ac h1 (.inl hFw) Q fr H h σ0 H0 w0 σ a w ds he hr hx hd) (fun e a w h => LQ_X h)
  intro c
  induction c with
  | seq x y ihx ihy =>
    intro pc hc Q KP fr H hw σ0 H0 w0 σ a w ds he hr hx hd
    simp only [compP] at hc
    split at hc
    · rename_i px py h1 h2
      simp only [Option.some.injEq] at hc; subst hc
      refine wpIn_seq (wpIn_mono (ihx px h1 _ KP fr H hw σ0 H0 w0 σ a w ds he hr hx hd) ?_)
      intro e a' w' hq
      cases e with
      | normal =>
        obtain ⟨fr', H', σ', ds', k1, k2, k3, k5, k4⟩ := hq
        exact ihy py h2 Q KP fr' H' k4 σ0 H0 w0 σ' a' w' ds' k1 k2 k3 k5
      | exit id => exact hq
      | ret => exact hq
      | goto l => exact hq
      | panic ch => exact hq
      | outgrown => exact hq
    · cases hc
  | cond c t e iht ihe =>
    intro pc hc Q KP fr H hw σ0 H0 w0 σ a w ds he hr hx hd
    simp only [compP] at hc
    split at hc
    · rename_i cx pt pe h1 h2 h3
      simp only [Option.some.injEq] at hc; subst hc
      simp only [WX] at hw
      split at hw
      · rename_i b hb
        have hv := compX_sound he hr h1
        rw [hb] at hv
        have hev : a.eval c = .bool b := by
          generalize a.eval c = u at hv
          cases hv; rfl
        refine wpIn_cond hev ?_
        cases b
        · exact ihe pe h3 Q KP fr H (by simpa using hw) σ0 H0 w0 σ a w ds he hr hx hd
        · exact iht pt h2 Q KP fr H (by simpa using hw) σ0 H0 w0 σ a w ds he hr hx hd
      · exact hw.elim
    · cases hc
  | region id ops d =>
    intro pc hc Q KP fr H hw σ0 H0 w0 σ a w ds he hr hx hd
    simp only [compP] at hc
    split at hc
    · rename_i o x hlo
      split at hc
      · rename_i hcond
        rw [Bool.and_eq_true] at hcond
        split at hc
        · rename_i e al hex hal
          simp only [Option.some.injEq] at hc
          have L := like_of hlo
          obtain ⟨g1, g2, g3⟩ := lastO_spec hlo
          have hP : ∀ (a : Act) (w : World), (∃ fr H σ ds, ER σ N sl [] ds fr [] (a.put o.dst (.tuple #[])) ∧ HR ng σ H.get w ∧ Ext H0.n σ0 H0.get w0 H.n σ H.get w ∧ DM w0.heap.size σ w ds ∧ lastK e Q KP fr H) → o.wpIn F m P a w (fun a' w' => LQX ng N sl σ0 H0 w0 T Q KP .normal a' w') (LQX ng N sl σ0 H0 w0 T Q KP) := fun a w h => must_wp (m := m) hM g2 hex hcond.1 hF h
          cases d
          · simp only [Bool.false_eq_true, if_false] at hc
            subst hc
            obtain ⟨l, e1, e2⟩ := list_split g1 g3
            have h1 := RW_sound (m := m) hF hnd (σ0 := σ0) (H0 := H0) (w0 := w0) (Q := fun e' fr H => match e' with | .normal => lastK e Q KP fr H | _ => False) (opsL ops o).toList [] al fr [] H σ a w ds hal (by simp) he hr hx hd hw
            refine wpIn_region_list ?_
            rw [e2] at h1
            rw [e1]
            refine list_last (R := fun a1 w => ∃ fr H σ ds, ER σ N sl [] ds fr [] a1 ∧ HR ng σ H.get w ∧ Ext H0.n σ0 H0.get w0 H.n σ H.get w ∧ DM w0.heap.size σ w ds ∧ lastK e Q KP fr H) hF L hP l a w (wpListIn_mono ?_ _ _ _ h1)
            intro e' a' w' h
            cases e' with
            | normal => exact h
            | exit id => obtain ⟨_, _, _, _, _, _, _, _, h⟩ := h; exact h.elim
            | ret => obtain ⟨_, _, _, _, _, _, _, _, h⟩ := h; exact h.elim
            | goto l => exact h
            | panic ch => exact h.elim
            | outgrown => exact h
          · simp only [if_true] at hc
            subst hc
            have hok := hcond.2
            unfold lastOK at hok
            simp only [Bool.not_true, Bool.false_or, Bool.and_eq_true] at hok
            have hlk := drawOK_spec hok.1
            refine wpIn_region_any hlk.mix ?_
            refine any_last (R := fun a1 w => ∃ fr H σ ds, ER σ N sl [] ds fr [] a1 ∧ HR ng σ H.get w ∧ Ext H0.n σ0 H0.get w0 H.n σ H.get w ∧ DM w0.heap.size σ w ds ∧ lastK e Q KP fr H) hF L (by omega) (fun i hi hne => ?_) (fun i p ed hp he hb => ?_) hP ops.size (fun _ => false) _ a _ (by simp) (fun i hi => by simp [hi]) (cntU_false _) (fun j o ho h => by cases h) rfl ?_
            · have := List.all_eq_true.1 hok.2 i (by simpa using hi)
              simpa [hne] using this
            · by_cases e : i = ops.size - 1
              · subst e
                rw [g1] at hp; cases hp
                exact hlk.edge _ _ ed L.at' he hb
              · exact hlk.edge i p ed (by rw [L.same i e]; exact hp) he hb
            · rw [← L.size]
              refine RD_sound hF (σ0 := σ) (H0 := H) (fr0 := fr) hnd hal hok.1 he (hr.world (w' := { w with drawn := w.drawn + 1 }) rfl) hw ?_
              intro a' w' σ' fr' H' k1 k2 k3 k4
              exact ⟨fr', H', σ', ds, k1, k2, (hx.world (w2 := { w with drawn := w.drawn + 1 }) rfl rfl rfl rfl).trans k3, DM.ext k3 (DM.world (w := w) (w' := { w with drawn := w.drawn + 1 }) rfl hd), k4⟩
        · cases hc
      · cases hc
    · exact plain _ _ hc Q KP fr H hw σ0 H0 w0 σ a w ds he hr hx hd
  | _ =>
    intro pc hc Q KP fr H hw σ0 H0 w0 σ a w ds he hr hx hd
    exact plain _ _ hc Q KP fr H hw σ0 H0 w0 σ a w ds he hr hx hd
theorem WX_grow {n : Nat} : ∀ (pc : PC) {Q Q' : AQ} {KP KP' : KPan} {fr : List Value} {H : AHeap}, n ≤ H.n → (∀ e fr H, Q e fr H → n ≤ H.n → Q' e fr H) → (∀ k H, KP k H → n ≤ H.n → KP' k H) → WX P ng pc Q KP fr H → WX P ng pc Q' KP' fr H := by
  have lk : ∀ {e : AX} {Q Q' : AQ} {KP KP' : KPan} {fr : List Value} {H : AHeap}, (∀ e fr H, Q e fr H → n ≤ H.n → Q' e fr H) → (∀ k H, KP k H → n ≤ H.n → KP' k H) → lastK e Q KP fr H → n ≤ H.n → lastK e Q' KP' fr H := by
    rintro e Q Q' KP KP' fr H hq hk ⟨k, h1, h2⟩ hn
    refine ⟨k, h1, ?_⟩
    by_cases hk0 : k = 0
    · rw [if_pos hk0] at h2 ⊢; exact hq _ _ _ h2 hn
    · rw [if_neg hk0] at h2 ⊢; exact hk _ _ h2 hn
  intro pc
  induction pc with
  | plain c => intro Q Q' KP KP' fr H hn hq hk h; exact W_grow c hn hq h
  | seq a b iha ihb =>
    intro Q Q' KP KP' fr H hn hq hk h
    refine iha hn ?_ hk h
    intro e fr H h hn
    cases e with
    | normal => exact ihb hn hq hk h
    | exit id => exact hq _ _ _ h hn
    | ret => exact hq _ _ _ h hn
    | goto l => exact hq _ _ _ h hn
    | panic ch => exact hq _ _ _ h hn
    | outgrown => exact hq _ _ _ h hn
  | cond c x y ihx ihy =>
    intro Q Q' KP KP' fr H hn hq hk h
    simp only [WX] at h ⊢
    split at h
    · rename_i b hb
      cases b
      · simpa using ihy hn hq hk (by simpa using h)
      · simpa using ihx hn hq hk (by simpa using h)
    · exact h.elim
  | lastR al e => intro Q Q' KP KP' fr H hn hq hk h; exact RW_grow hn (fun fr H h1 h2 => lk hq hk h1 h2) h
  | lastD al e => intro Q Q' KP KP' fr H hn hq hk h; exact RD_grow hn (fun fr H h1 h2 => lk hq hk h1 h2) h
def noP : KPan := fun _ _ => False
def noQ : AQ := fun _ _ _ => False
def oneP (k : Int) (H : AHeap) : KPan := fun k' H' => k' = k ∧ H' = H
theorem WX_out : ∀ (pc : PC) {Q : AQ} {KP : KPan} {fr : List Value} {H : AHeap}, WX P ng pc Q KP fr H → (∃ e fr' H', Q e fr' H' ∧ WX P ng pc (exactly e fr' H') noP fr H) ∨ ∃ k H', KP k H' ∧ WX P ng pc noQ (oneP k H') fr H := by
  have lk : ∀ {e : AX} {Q : AQ} {KP : KPan} {fr : List Value} {H : AHeap}, lastK e Q KP fr H → (Q .normal fr H ∧ lastK e (exactly .normal fr H) noP fr H) ∨ ∃ k, KP k H ∧ lastK e noQ (oneP k H) fr H := by
    rintro e Q KP fr H ⟨k, h1, h2⟩
    by_cases hk0 : k = 0
    · rw [if_pos hk0] at h2
      exact .inl ⟨h2, k, h1, by rw [if_pos hk0]; exact ⟨rfl, rfl, rfl⟩⟩
    · rw [if_neg hk0] at h2
      exact .inr ⟨k, h2, k, h1, by rw [if_neg hk0]; exact ⟨rfl, rfl⟩⟩
  intro pc
  induction pc with
  | plain c =>
    intro Q KP fr H h
    obtain ⟨e, fr', H', h1, h2⟩ := W_out c h
    exact .inl ⟨e, fr', H', h1, h2⟩
  | seq a b iha ihb =>
    intro Q KP fr H h
    rcases iha h with ⟨e, fr', H', h1, h2⟩ | ⟨k, H', h1, h2⟩
    · by_cases he : e = .normal
      · subst he
        rcases ihb (show WX P ng b Q KP fr' H' from h1) with ⟨e2, fr2, H2, h3, h4⟩ | ⟨k, H2, h3, h4⟩
        · refine .inl ⟨e2, fr2, H2, h3, ?_⟩
          refine WX_grow (n := 0) a (Nat.zero_le _) ?_ (fun k H h _ => h) h2
          rintro e fr H ⟨rfl, rfl, rfl⟩ _
          exact h4
        · refine .inr ⟨k, H2, h3, ?_⟩
          refine WX_grow (n := 0) a (Nat.zero_le _) ?_ (fun k H h _ => h.elim) h2
          rintro e fr H ⟨rfl, rfl, rfl⟩ _
          exact h4
      · refine .inl ⟨e, fr', H', by cases e <;> first | exact absurd rfl he | exact h1, ?_⟩
        refine WX_grow (n := 0) a (Nat.zero_le _) ?_ (fun k H h _ => h) h2
        rintro e2 fr2 H2 ⟨rfl, rfl, rfl⟩ _
        cases e2 <;> first | exact absurd rfl he | exact ⟨rfl, rfl, rfl⟩
    · refine .inr ⟨k, H', h1, ?_⟩
      exact WX_grow (n := 0) a (Nat.zero_le _) (fun e fr H h _ => h.elim) (fun k H h _ => h) h2
  | cond c x y ihx ihy =>
    intro Q KP fr H h
    simp only [WX] at h ⊢
    split at h
    · rename_i b hb
      cases b
      · simpa using ihy (by simpa using h)
      · simpa using ihx (by simpa using h)
    · exact h.elim
  | lastR al e =>
    intro Q KP fr H h
    obtain ⟨fr', H', h1, h2⟩ := RW_out h
    rcases lk h1 with ⟨h3, h4⟩ | ⟨k, h3, h4⟩
    · exact .inl ⟨.normal, fr', H', h3, RW_grow (n := 0) (Nat.zero_le _) (by rintro fr H ⟨rfl, rfl⟩ _; exact h4) h2⟩
    · exact .inr ⟨k, H', h3, RW_grow (n := 0) (Nat.zero_le _) (by rintro fr H ⟨rfl, rfl⟩ _; exact h4) h2⟩
  | lastD al e =>
    intro Q KP fr H h
    obtain ⟨fr', H', h1, h2⟩ := RD_out h
    rcases lk h1 with ⟨h3, h4⟩ | ⟨k, h3, h4⟩
    · exact .inl ⟨.normal, fr', H', h3, RD_grow (n := 0) (Nat.zero_le _) (by rintro fr H ⟨rfl, rfl⟩ _; exact h4) h2⟩
    · exact .inr ⟨k, H', h3, RD_grow (n := 0) (Nat.zero_le _) (by rintro fr H ⟨rfl, rfl⟩ _; exact h4) h2⟩
def AGive (P : Program) (ng : Nat) (T : TypeId) (f : FuncId) (args : List Value) (H : AHeap) (k : Int) (H' : AHeap) : Prop :=
  Bodied P f ∧ H.n ≤ H'.n ∧ ∀ (σ : Sg) (w : World) (args' : List Value), HR ng σ H.get w → VL σ args args' →
    Calls P f args'.toArray w fun e w' => ∃ σ', e = .panicked [{ v := .iface T (.int .i64 k), recovered := false }] ∧ HR ng σ' H'.get w' ∧ Ext H.n σ H.get w H'.n σ' H'.get w'
theorem leaveM {fn : Func} {tmps : Array Value} {R : Ending → World → Prop} {σ σ' : Sg} {H H2 : AHeap} {w0 : World} {u : FrameMode} (hu : u ≠ .run) (hfin : ∀ w, HR ng σ' H2.get w → Ext H.n σ H.get w0 H2.n σ' H2.get w → LeavesInM Fence.wide 0 P fn tmps R [] u w) :
    ∀ (ds : List Deferred) (w : World), HR ng σ' H2.get w → Ext H.n σ H.get w0 H2.n σ' H2.get w → DM w0.heap.size σ' w ds → LeavesInM Fence.wide 0 P fn tmps R ds u w
  | [], w, h1, h2, _ => hfin w h1 h2
  | d :: ds, w, k2, k3, ⟨⟨D, h1, q2, q3, q4, q5⟩, q6⟩ => by
    subst h1
    refine ⟨hu, .inl ⟨D, w.putObj D (.deferred none), rfl, run_takeDeferred q3, ?_⟩⟩
    exact leaveM hu hfin ds _ (k2.other (by simp) (fun b i hb => World.putObj_heap_other (q4 b i hb))) (k3.other (by simp) (fun k hk => World.putObj_heap_other (by omega)) rfl rfl rfl) (DM.shut q5 q6)
theorem give_core (hM : MustOK P mf T) {f : FuncId} {fn : Func} {c : Code} {pc : PC} (hfn : P.funcs[f]? = some fn) (hb : fn.body = some c) (hres : fn.results = #[]) (hsl : (nodupB sl && sl.all (· < fn.ntmps)) = true)
    (hc : compP P ng fn.ntmps sl mf c = some pc) {args : List Value} {H : AHeap} (hargs : args.length ≤ fn.ntmps) {Q : AQ} {KP : KPan} (hx : ∀ id fr H, ¬ Q (.exit id) fr H) (h : WX P ng pc Q KP (initFr sl args) H)
    (σ : Sg) (w : World) (args' : List Value) (hr : HR ng σ H.get w) (hv : VL σ args args') :
    Calls P f args'.toArray w fun e w' => (∃ e0 fr H2 σ', (e0 = .normal ∨ e0 = .ret) ∧ Q e0 fr H2 ∧ e = .returned (.tuple #[]) ∧ HR ng σ' H2.get w' ∧ Ext H.n σ H.get w H2.n σ' H2.get w') ∨
      ∃ k H2 σ', KP k H2 ∧ e = .panicked [{ v := .iface T (.int .i64 k), recovered := false }] ∧ HR ng σ' H2.get w' ∧ Ext H.n σ H.get w H2.n σ' H2.get w' := by
  simp only [Bool.and_eq_true] at hsl
  have hl := hv.length
  refine (callsIn_wide (n := 0)).1 (callsIn_of_wp_marks hfn hb trivial ?_)
  have he : ER σ fn.ntmps sl [] [] (initFr sl args) [] { tmps := args'.toArray ++ Array.replicate (fn.ntmps - args'.toArray.size) undef, defers := [] } := by
    refine ⟨by simp; omega, by simp [initFr], rfl, ?_, fun i s v h => by simp at h, rfl⟩
    intro i s u hs hu
    simp only [initFr, List.getElem?_map, hs, Option.map_some, Option.some.injEq] at hu
    subst hu
    have hsN : s < fn.ntmps := by simpa using List.all_eq_true.1 hsl.2 s (List.mem_of_getElem? hs)
    by_cases hsa : s < args.length
    · obtain ⟨v', k1, k2⟩ := hv.get (i := s) (v := args[s]) (List.getElem?_eq_getElem hsa)
      refine ⟨v', ?_, by simpa [List.getD, List.getElem?_eq_getElem hsa] using k2⟩
      rw [Array.getElem?_append_left (by simp; omega)]
      simpa using k1
    · refine ⟨undef, ?_, ?_⟩
      · rw [Array.getElem?_append_right (by simp; omega)]
        rw [Array.getElem?_replicate, if_pos (by simp; omega)]
      · rw [List.getD, List.getElem?_eq_none (by omega)]
        exact .tuple _ _ rfl (fun i a => by simp at a)
  refine wpIn_mono (WX_sound hM .wide rfl (nodupB_spec hsl.1) c pc hc Q KP _ H h σ H w σ _ w [] he hr (Ext.refl _ _ _ _) trivial) ?_
  intro e a' w' hq
  have ok : ∀ (e0 : Exit) (a' : Act) (w' : World), (e0 = .normal ∨ e0 = .ret) → (∃ fr H2 σ' ds, ER σ' fn.ntmps sl [] ds fr [] a' ∧ HR ng σ' H2.get w' ∧ Ext H.n σ H.get w H2.n σ' H2.get w' ∧ DM w.heap.size σ' w' ds ∧ Q e0 fr H2) →
      LeavesInM Fence.wide 0 P fn a'.tmps (fun e w' => (∃ e0 fr H2 σ', (e0 = .normal ∨ e0 = .ret) ∧ Q e0 fr H2 ∧ e = .returned (.tuple #[]) ∧ HR ng σ' H2.get w' ∧ Ext H.n σ H.get w H2.n σ' H2.get w') ∨
      ∃ k H2 σ', KP k H2 ∧ e = .panicked [{ v := .iface T (.int .i64 k), recovered := false }] ∧ HR ng σ' H2.get w' ∧ Ext H.n σ H.get w H2.n σ' H2.get w') a'.defers .returning w' := by
    rintro e0 a' w' h0 ⟨fr, H2, σ', ds, k1, k2, k3, k4, k5⟩
    rw [k1.dfr]
    refine leaveM (by simp) (fun w2 q1 q2 => ?_) ds w' k2 k3 k4
    refine ⟨.tuple #[], ?_, .inl ⟨e0, fr, H2, σ', h0, k5, rfl, q1, q2⟩⟩
    unfold results
    rw [hres]
    simp
  cases e with
  | normal => exact ok .normal a' w' (.inl rfl) hq
  | ret => exact ok .ret a' w' (.inr rfl) hq
  | exit id => obtain ⟨fr, H2, σ', ds, k1, k2, k3, k4, k5⟩ := hq; exact (hx _ _ _ k5).elim
  | goto l => exact hq.elim
  | panic ch =>
    obtain ⟨k, H2, σ', ds, rfl, k1, k2, k3, k4, k5⟩ := hq
    simp only [bodyPostM]
    rw [k1]
    refine leaveM (by simp) (fun w2 q1 q2 => ?_) ds w' k2 k3 k4
    exact Or.inr ⟨k, H2, σ', k5, rfl, q1, q2⟩
  | outgrown => exact hq.elim
theorem give_of (hM : MustOK P mf T) {f : FuncId} {fn : Func} {c : Code} {pc : PC} (hfn : P.funcs[f]? = some fn) (hb : fn.body = some c) (hnm : (fn.name == "runtime.NumGoroutine") = false) (hres : fn.results = #[]) (hsl : (nodupB sl && sl.all (· < fn.ntmps)) = true)
    (hc : compP P ng fn.ntmps sl mf c = some pc) {args : List Value} {H : AHeap} (hargs : args.length ≤ fn.ntmps) {Q : AQ} {RP : KPan} (h : WX P ng pc Q RP (initFr sl args) H) (hQ : ∀ e fr H, Q e fr H → e = .normal ∨ e = .ret) :
    (∃ e fr H', ARun P ng f args H (.tuple #[]) H' ∧ Q e fr H') ∨ ∃ k H', AGive P ng T f args H k H' ∧ RP k H' := by
  have hbd : Bodied P f := ⟨fn, hfn, by simp [hb], hnm⟩
  have h1 := WX_grow (n := H.n) (Q' := fun e fr H2 => Q e fr H2 ∧ H.n ≤ H2.n) (KP' := fun k H2 => RP k H2 ∧ H.n ≤ H2.n) pc (Nat.le_refl _) (fun e fr H a b => ⟨a, b⟩) (fun k H a b => ⟨a, b⟩) h
  rcases WX_out pc h1 with ⟨e, fr, H', ⟨h2, h3⟩, h4⟩ | ⟨k, H', ⟨h2, h3⟩, h4⟩
  · refine .inl ⟨e, fr, H', ⟨⟨fn, hfn⟩, h3, fun σ w args' hr hv => .body hbd ?_⟩, h2⟩
    refine (give_core hM hfn hb hres hsl hc hargs ?_ h4 σ w args' hr hv).mono ?_
    · rintro id fr2 H2 ⟨rfl, _, _⟩
      rcases hQ _ _ _ h2 with hh | hh <;> cases hh
    · rintro e' w' (⟨e0, fr2, H2, σ', _, ⟨rfl, rfl, rfl⟩, rfl, q1, q2⟩ | ⟨_, _, _, hh, _⟩)
      · exact ⟨_, σ', rfl, q1, q2, .tuple _ _ rfl (fun i a => by simp at a)⟩
      · exact hh.elim
  · refine .inr ⟨k, H', ⟨hbd, h3, fun σ w args' hr hv => ?_⟩, h2⟩
    refine (give_core hM hfn hb hres hsl hc hargs ?_ h4 σ w args' hr hv).mono ?_
    · intro id fr2 H2 hh; exact hh
    · rintro e' w' (⟨e0, fr2, H2, σ', _, hh, _⟩ | ⟨k2, H2, σ', ⟨rfl, rfl⟩, rfl, q1, q2⟩)
      · exact hh.elim
      · exact ⟨σ', rfl, q1, q2⟩
end
end Go.AM

set_option linter.unusedSimpArgs false
set_option linter.unusedVariables false
namespace Go.AM
namespace Ev
variable {RT : List RDef} {P : Program} {ng : Nat}
abbrev PK := Int → Nat → HT → Bool
noncomputable def lastE (e : AX) (K : EK) (KP : PK) : FK := fun fr n t => evX e fr [] fun v => match v with
  | .int .i64 k => forceB (iEq k (.ofNat 0)) fun b => Bool.rec (motive := fun _ => Bool) (KP k n t) (K .normal fr n t) b
  | _ => false
noncomputable def runPC (call : Caller) (yc : YC) (rec : Rec) : PC → List Value → Nat → HT → EK → PK → Bool
  | .plain c, fr, n, t, K, _ => rec c fr n t K
  | .seq a b, fr, n, t, K, KP => runPC call yc rec a fr n t (fun e fr n t => match e with
    | .normal => runPC call yc rec b fr n t K KP
    | e => K e fr n t) KP
  | .cond c a b, fr, n, t, K, KP => evX c fr [] fun v => condK v (runPC call yc rec a fr n t K KP) (runPC call yc rec b fr n t K KP)
  | .lastR al e, fr, n, t, K, KP => runOps call yc al fr [] n t (lastE e K KP)
  | .lastD al e, fr, n, t, K, KP => runD call yc al fr [] n t [] (lastE e K KP)
def noRP : PC → Bool
  | .plain c => noRA c
  | .seq a b => noRP a && noRP b
  | .cond _ a b => noRP a && noRP b
  | _ => true
def KPP (RT : List RDef) (KP : PK) : KPan := fun k H => ∃ n t, Rp RT n t H ∧ KP k n t = true
theorem lastE_ok {e : AX} {K : EK} {KP : PK} {fr : List Value} {H : AHeap} (h : FP RT (lastE e K KP) fr H) : lastK e (QP RT K) (KPP RT KP) fr H := by
  obtain ⟨n, t, r, h⟩ := h
  unfold lastE at h
  rw [evX_eq] at h
  split at h
  · rename_i k hk
    rw [forceB_eq] at h
    refine ⟨k, hk, ?_⟩
    cases hb : iEq k (.ofNat 0)
    · rw [hb] at h
      rw [iEq_eq] at hb
      rw [if_neg (by simpa using hb)]
      exact ⟨n, t, r, h⟩
    · rw [hb] at h
      rw [iEq_eq] at hb
      rw [if_pos (by simpa using hb)]
      exact ⟨n, t, r, h⟩
  · cases h
theorem runPC_ok {call : Caller} {yc : YC} {rec : Rec} (hc : CallOK RT P ng call) (hy : YOK RT P ng yc) (hr : RecOK RT P ng rec) : ∀ (pc : PC), noRP pc = true → ∀ (fr : List Value) (n : Nat) (t : HT) (K : EK) (KP : PK), runPC call yc rec pc fr n t K KP = true → ∀ H, Rp RT n t H → WX P ng pc (QP RT K) (KPP RT KP) fr H := by
  intro pc
  induction pc with
  | plain c =>
    intro hn fr n t K KP h H r
    have := hr c fr n t K (by simpa only [runPC] using h) H r
    rw [decC_no hn] at this
    exact this
  | seq a b iha ihb =>
    intro hn fr n t K KP h H r
    simp only [noRP, Bool.and_eq_true] at hn
    simp only [runPC] at h
    have h1 := iha hn.1 fr n t _ KP h H r
    refine WX_grow (n := 0) a (Nat.zero_le _) ?_ (fun k H h _ => h) h1
    rintro e fr H ⟨n, t, r, h⟩ _
    cases e with
    | normal => exact ihb hn.2 fr n t K KP h H r
    | exit id => exact ⟨n, t, r, h⟩
    | ret => exact ⟨n, t, r, h⟩
    | goto l => exact ⟨n, t, r, h⟩
    | panic ch => exact ⟨n, t, r, h⟩
    | outgrown => exact ⟨n, t, r, h⟩
  | cond c a b iha ihb =>
    intro hn fr n t K KP h H r
    simp only [noRP, Bool.and_eq_true] at hn
    simp only [runPC] at h
    rw [evX_eq] at h
    simp only [WX]
    unfold condK at h
    split at h
    · rename_i tt ht
      rw [ht]
      cases tt
      · exact ihb hn.2 fr n t K KP h H r
      · exact iha hn.1 fr n t K KP h H r
    · cases h
  | lastR al e =>
    intro hn fr n t K KP h H r
    simp only [runPC] at h
    exact RW_grow (n := 0) (Nat.zero_le _) (fun fr H h _ => lastE_ok h) (runOps_sound hc hy h r)
  | lastD al e =>
    intro hn fr n t K KP h H r
    simp only [runPC] at h
    exact RD_grow (n := 0) (Nat.zero_le _) (fun fr H h _ => lastE_ok h) (runD_sound hc hy h .nil r)
structure PFn where
  g : FuncId
  na : Nat
  sl : List Nat
  pc : PC
def PFnOK (P : Program) (ng : Nat) (mf : FuncId) (d : PFn) : Prop := ∃ fn c, P.funcs[d.g]? = some fn ∧ fn.body = some c ∧ (fn.name == "runtime.NumGoroutine") = false ∧ fn.results = #[] ∧ (nodupB d.sl && d.sl.all (· < fn.ntmps)) = true ∧ compP P ng fn.ntmps d.sl mf c = some d.pc ∧ d.na ≤ fn.ntmps ∧ noRP d.pc = true
noncomputable def pfK (l : List PFn) (g : FuncId) (K : PFn → Bool) : Bool :=
  List.rec (motive := fun _ => Bool) false (fun d _ ih => Bool.rec (motive := fun _ => Bool) ih (K d) (Nat.beq d.g g)) l
theorem pfK_true : ∀ {l : List PFn} {g : FuncId} {K : PFn → Bool}, pfK l g K = true → ∃ d ∈ l, d.g = g ∧ K d = true
  | [], g, K, h => by cases h
  | d :: l, g, K, h => by
    have e : pfK (d :: l) g K = Bool.rec (motive := fun _ => Bool) (pfK l g K) (K d) (Nat.beq d.g g) := rfl
    rw [e] at h
    cases hb : Nat.beq d.g g
    · rw [hb] at h
      obtain ⟨d', h1, h2⟩ := pfK_true (l := l) (g := g) (K := K) h
      exact ⟨d', List.mem_cons_of_mem _ h1, h2⟩
    · rw [hb] at h
      exact ⟨d, List.mem_cons_self .., Nat.eq_of_beq_eq_true hb, h⟩
noncomputable def toldH (l : List PFn) : Caller → YC → Rec → HF := fun call yc rec xs n t K => match xs with
  | [.func (.func g) first cap] => pfK l g fun d => asT (Nat.beq (first.toList ++ cap.toList).length d.na) (initK d.sl (first.toList ++ cap.toList) fun fr => runPC call yc rec d.pc fr n t (fun e _ n t => match e with
      | .normal => K (.int .i64 (.ofNat 0)) n t
      | .ret => K (.int .i64 (.ofNat 0)) n t
      | _ => false) fun k n t => K (.int .i64 k) n t)
  | _ => false
theorem told_ok {mf told : FuncId} {T : TypeId} (hM : MustOK P mf T) (ht : ∀ {H H1 : AHeap} {g : FuncId} {first cap : Array Value} {k : Int}, Bodied P g →
      ((k = 0 ∧ ARun P ng g (first.toList ++ cap.toList) H (.tuple #[]) H1) ∨ AGive P ng T g (first.toList ++ cap.toList) H k H1) → ARun P ng told [.func (.func g) first cap] H (.int .i64 k) H1) {l : List PFn} (hl : ∀ d ∈ l, PFnOK P ng mf d) : HRok RT P ng told (toldH l) := by
  intro call yc rec hc hy hr xs n t K h H r
  unfold toldH at h
  split at h
  · rename_i g first cap
    obtain ⟨d, h1, rfl, h3⟩ := pfK_true h
    obtain ⟨h4, h5⟩ := asT_true h3
    rw [initK_eq] at h5
    obtain ⟨fn, c, p1, p2, p3, p4, p5, p6, p7, p8⟩ := hl d h1
    have hw := runPC_ok hc hy hr d.pc p8 _ n t _ _ h5 H r
    have hlen := Nat.eq_of_beq_eq_true h4
    have hbd : Bodied P d.g := ⟨fn, p1, by simp [p2], p3⟩
    have hq : ∀ (e : Exit) (fr : List Value) (H : AHeap), QP RT (fun e _ n t => match e with | .normal => K (.int .i64 (.ofNat 0)) n t | .ret => K (.int .i64 (.ofNat 0)) n t | _ => false) e fr H → e = .normal ∨ e = .ret := by
      rintro e fr H ⟨n, t, _, q⟩
      cases e <;> first | exact .inl rfl | exact .inr rfl | cases q
    rcases give_of hM p1 p2 p3 p4 p5 p6 (by omega) hw hq with ⟨e, fr, H', q1, n', t', r', q2⟩ | ⟨k, H', q1, n', t', r', q2⟩
    · refine ⟨_, H', ht hbd (.inl ⟨rfl, q1⟩), n', t', r', ?_⟩
      cases e <;> first | exact q2 | cases q2
    · exact ⟨_, H', ht hbd (.inr q1), n', t', r', q2⟩
  · cases h
end Ev
end Go.AM

set_option linter.unusedSimpArgs false
set_option linter.unusedVariables false
namespace Go.AM
open Go.Proofs
theorem must101_go (w : World) : Calls Tryz.prog 101 #[.int .i64 0] w fun e w' => w' = w ∧ e = .returned (.tuple #[]) := by
  go_enter Tryz.func101, Tryz.ntmps101
  go_wp2
  go_end0
  exact ⟨rfl, rfl⟩
theorem must101_up (k : Int) (h : k ≠ 0) (w : World) : Calls Tryz.prog 101 #[.int .i64 k] w fun e w' => w' = w ∧ e = .panicked [{ v := .iface 30 (.int .i64 k), recovered := false }] := by
  go_enter Tryz.func101, Tryz.ntmps101
  go_wp2
  exact ⟨rfl, rfl, rfl⟩
theorem must101 : MustOK Tryz.prog 101 30 := by
  refine ⟨bodied_of (by kernel_rfl), fun k w => ?_⟩
  by_cases h : k = 0
  · subst h; rw [if_pos rfl]; exact must101_go w
  · rw [if_neg h]; exact must101_up k h w
theorem und30 : Tryz.prog.underlying 30 = some (.int .i64) := by kernel_rfl
theorem assert30 (k : Int) (w : World) : (Instr.typeAssert (.iface 30 (.int .i64 k)) 20 30 false).run Tryz.prog w = .ok (.int .i64 k) w := by
  simp [Instr.typeAssert, run_underlying und30]
theorem told127_idle (p : Addr) (w : World) : CallsD Tryz.prog 127 #[.pointer (some p)] .returning w fun e u' w' => e = .returned (.tuple #[]) ∧ u' = .returning ∧ w' = w := by
  refine callsD_of_wpS Tryz.func127 rfl fun c₀ cs hu => ?_
  apply wpS_seq
  apply wpS_region
  simp [wpOpsS, go_sem, recoverD, hu, Tryz.ntmps127, Exit.thenS]
  apply wpS_seq
  apply wpS_region
  simp [wpOpsS, go_sem, recoverD, Tryz.ntmps127, Exit.thenS, Act.eval, Act.put, Array.replicate_succ]
  refine wpS_cond (t := false) (by simp [Act.eval, Array.replicate]) ?_
  simp only [Bool.false_eq_true, if_false]
  refine wpS_of_wp (wp_skip ?_)
  cases c₀
  simp_all [bodyPostS, results, Tryz.results127]
theorem told127_up (p : Addr) (k x : Int) (older : List PanicEntry) (w : World) (hc : w.cell? p = some (.int .i64 x)) (hz : w.frozen? p = false) :
    CallsD Tryz.prog 127 #[.pointer (some p)] (.panicking ({ v := .iface 30 (.int .i64 k), recovered := false } :: older)) w fun e u' w' =>
      e = .returned (.tuple #[]) ∧ u' = .panicking ({ v := .iface 30 (.int .i64 k), recovered := true } :: older) ∧ w' = w.setCell p (.int .i64 k) := by
  refine callsD_of_wpS Tryz.func127 rfl fun c₀ cs hu => ?_
  apply wpS_seq
  apply wpS_region
  simp [wpOpsS, go_sem, recoverD, hu, Tryz.ntmps127, Exit.thenS]
  apply wpS_seq
  apply wpS_region
  simp [wpOpsS, go_sem, recoverD, Tryz.ntmps127, Exit.thenS, Act.eval, Act.put, Array.replicate_succ]
  refine wpS_cond (t := true) (by simp [Act.eval, Array.replicate]) ?_
  simp only [if_true]
  apply wpS_region
  simp [wpOpsS, go_sem, assert30, hc, hz, bodyPostS, results, Tryz.results127]
end Go.AM

set_option linter.unusedSimpArgs false
set_option linter.unusedVariables false
namespace Go.AM
open Go.Proofs
theorem told99_walk {g : FuncId} {xs ys : Array Value} {w : World} {R : Ending → World → Prop} (hb : Bodied Tryz.prog g)
    (h : Calls Tryz.prog g (xs ++ ys) (w.alloc (.cells #[.int .i64 0] 30)) R)
    (hR : ∀ e w', R e w' → (∃ c, w'.cell? ⟨w.heap.size, 0, none⟩ = some (.int .i64 c)) ∧ w'.frozen? ⟨w.heap.size, 0, none⟩ = false ∧ ((∃ v, e = .returned v) ∨ ∃ k, e = .panicked [{ v := .iface 30 (.int .i64 k), recovered := false }])) :
    Calls Tryz.prog 99 #[.func (.func g) xs ys] w fun e w' => ∃ e1 w1 k, R e1 w1 ∧ e = .returned (.int .i64 k) ∧ w' = w1.setCell ⟨w.heap.size, 0, none⟩ (.int .i64 k) ∧ ((∃ v, e1 = .returned v ∧ k = 0) ∨ e1 = .panicked [{ v := .iface 30 (.int .i64 k), recovered := false }]) := by
  have hmf : ∀ (fn : Fn) (first cap : Array Value) (w : World), (Instr.makeFunc fn first cap).run Tryz.prog w = .ok (.func fn first cap) w := fun _ _ _ _ => rfl
  have hcf := hb.run (xs ++ ys)
  go_enter_defers Tryz.func99, Tryz.ntmps99
  go_wp2
  refine h.mono ?_
  intro e w' hr
  obtain ⟨⟨c, hc⟩, hz, hk⟩ := hR e w' hr
  rcases hk with ⟨v, rfl⟩ | ⟨k, rfl⟩
  · go_wp2
    refine leaves_cons (f := 127) (args := #[.pointer (some ⟨w.heap.size, 0, none⟩)]) (by simp) (by simp [go_sem]) ?_
    refine (told127_idle _ _).mono ?_
    rintro e u' w'' ⟨rfl, rfl, rfl⟩
    exact ⟨.int .i64 0, by simp [results, Tryz.results99, go_sem, hc], _, w', 0, hr, rfl, rfl, .inl ⟨v, rfl, rfl⟩⟩
  · refine leaves_cons (f := 127) (args := #[.pointer (some ⟨w.heap.size, 0, none⟩)]) (by simp) (by simp [go_sem]) ?_
    refine (told127_up _ k c [] _ hc hz).mono ?_
    rintro e u' w'' ⟨rfl, rfl, rfl⟩
    exact ⟨.int .i64 k, by simp [results, Tryz.results99, go_sem, hc], _, w', k, hr, rfl, rfl, .inr rfl⟩
theorem setCell_oth (w : World) (D : Nat) (v : Value) {j : Nat} (hj : j ≠ D) : (w.setCell ⟨D, 0, none⟩ v).heap[j]? = w.heap[j]? := by
  unfold World.setCell
  simp only [Array.getElem?_modify]
  rw [if_neg (Ne.symm hj)]
theorem setCell_sz (w : World) (D : Nat) (v : Value) : (w.setCell ⟨D, 0, none⟩ v).heap.size = w.heap.size := by
  unfold World.setCell
  simp
theorem told99 {H H1 : AHeap} {g : FuncId} {first cap : Array Value} {k : Int} (hb : Bodied Tryz.prog g)
    (h : (k = 0 ∧ ARun Tryz.prog 0 g (first.toList ++ cap.toList) H (.tuple #[]) H1) ∨ AGive Tryz.prog 0 30 g (first.toList ++ cap.toList) H k H1) : ARun Tryz.prog 0 99 [.func (.func g) first cap] H (.int .i64 k) H1 := by
  have hbd : Bodied Tryz.prog 99 := bodied_of (by kernel_rfl)
  have hn : H.n ≤ H1.n := by rcases h with ⟨_, h⟩ | h; exact h.2.1; exact h.2.1
  refine ⟨by obtain ⟨fn, f1, _⟩ := hbd; exact ⟨fn, f1⟩, hn, fun σ w args' hr hv => ?_⟩
  cases hv with
  | cons a hv =>
    cases hv
    cases a with
    | func _ _ xs _ ys p1 p2 p3 p4 =>
      refine .body hbd ?_
      have hvl : VL σ (first.toList ++ cap.toList) (xs ++ ys).toList := by
        rw [Array.toList_append]; exact (VL.of_arr p1 p2).append (VL.of_arr p3 p4)
      obtain ⟨j1, j2⟩ := junk_alloc hr (.cells #[.int .i64 0] 30)
      let D := w.heap.size
      have hD1 : (w.alloc (.cells #[.int .i64 0] 30)).heap[w.heap.size]? = some (.cells #[.int .i64 0] 30) := by
        show (w.heap.push _)[w.heap.size]? = _
        simp
      have hlt1 : w.heap.size < (w.alloc (.cells #[.int .i64 0] 30)).heap.size := (Array.getElem?_eq_some_iff.1 hD1).1
      have hold : ∀ b i, σ b = some i → i.c ≠ w.heap.size := fun b i hb => by have := hr.lt b i hb; omega
      have keep : ∀ (σ' : Sg) (w' : World), Ext H.n σ H.get (w.alloc (.cells #[.int .i64 0] 30)) H1.n σ' H1.get w' → w'.heap[w.heap.size]? = some (.cells #[.int .i64 0] 30) ∧ ∀ b i, σ' b = some i → i.c ≠ w.heap.size := by
        intro σ' w' hx
        refine ⟨by rw [hx.keep _ hlt1 (fun b i o hb _ _ => hold b i hb)]; exact hD1, fun b i hb => ?_⟩
        cases hs : σ b with
        | some j =>
          have := hx.sub b j hs
          rw [hb] at this; cases this
          exact hold b i hs
        | none =>
          rcases (hx.new b i hs hb).2 with q | ⟨b0, i0, o0, e1, _, _, e4⟩
          · omega
          · rw [← e4]; exact hold b0 i0 e1
      have hcall : Calls Tryz.prog g (xs ++ ys) (w.alloc (.cells #[.int .i64 0] 30)) fun e w' => (∃ σ', HR 0 σ' H1.get w' ∧ Ext H.n σ H.get (w.alloc (.cells #[.int .i64 0] 30)) H1.n σ' H1.get w') ∧
          ((k = 0 ∧ ∃ v, e = .returned v) ∨ e = .panicked [{ v := .iface 30 (.int .i64 k), recovered := false }]) := by
        rcases h with ⟨rfl, h⟩ | h
        · have := (h.2.2 σ _ (xs ++ ys).toList j1 hvl).calls hb
          rw [Array.toArray_toList] at this
          refine this.mono ?_
          rintro e w' ⟨v', σ', rfl, k1, k2, _⟩
          exact ⟨⟨σ', k1, k2⟩, .inl ⟨rfl, v', rfl⟩⟩
        · have := h.2.2 σ _ (xs ++ ys).toList j1 hvl
          rw [Array.toArray_toList] at this
          refine this.mono ?_
          rintro e w' ⟨σ', rfl, k1, k2⟩
          exact ⟨⟨σ', k1, k2⟩, .inr rfl⟩
      refine (told99_walk hb hcall ?_).mono ?_
      · rintro e w' ⟨⟨σ', k1, k2⟩, k3⟩
        obtain ⟨q1, _⟩ := keep σ' w' k2
        refine ⟨⟨0, by simp [World.cell?, q1]⟩, by simp [World.frozen?, q1], ?_⟩
        rcases k3 with ⟨_, k3⟩ | k3
        · exact .inl k3
        · exact .inr ⟨k, k3⟩
      · rintro e w' ⟨e1, w1, k', ⟨⟨σ', k1, k2⟩, k3⟩, rfl, rfl, k4⟩
        obtain ⟨q1, q2⟩ := keep σ' w1 k2
        have hkk : k' = k := by
          rcases k3 with ⟨rfl, v, rfl⟩ | rfl
          · rcases k4 with ⟨_, _, h⟩ | h
            · exact h
            · cases h
          · rcases k4 with ⟨_, h, _⟩ | h
            · cases h
            · simp at h; exact h.symm
        subst hkk
        have hoth : ∀ j, j ≠ w.heap.size → (w1.setCell ⟨w.heap.size, 0, none⟩ (.int .i64 k')).heap[j]? = w1.heap[j]? := fun j hj => setCell_oth w1 _ _ hj
        have hsz : (w1.setCell ⟨w.heap.size, 0, none⟩ (.int .i64 k')).heap.size = w1.heap.size := setCell_sz w1 _ _
        refine ⟨_, σ', rfl, k1.other (by rw [hsz]; exact Nat.le_refl _) (fun b i hb => hoth i.c (q2 b i hb)), ?_, .int _ _⟩
        have k5 := j2.trans k2
        refine ⟨k5.sub, k5.new, k5.own, k5.live, fun x hx hno => ?_, by rw [hsz]; exact k5.size, k5.num, k5.os, k5.tape, k5.output⟩
        rw [hoth x (by omega)]
        exact k5.keep x hx hno
end Go.AM

set_option maxRecDepth 100000
set_option maxHeartbeats 0
namespace Go.AM.F
open Go.Proofs
noncomputable def fnOf (k : Nat) : Func := (Tryz.prog.funcs[k]?).getD default
noncomputable def bodyOf (k : Nat) : Code := (fnOf k).body.getD .skip
noncomputable def pc100 : PC := by
 refine (fun (_ : compP Tryz.prog 0 34 [0, 2, 15, 26, 32] 101 (bodyOf 100) = some ?a) => ?a) ?h
 case h => conv => lhs; cbv
theorem pc100_ok : compP Tryz.prog 0 34 [0, 2, 15, 26, 32] 101 (bodyOf 100) = some pc100 := by kernel_rfl
noncomputable def pc102 : PC := by
 refine (fun (_ : compP Tryz.prog 0 39 [0, 1, 3, 19, 30, 37] 101 (bodyOf 102) = some ?a) => ?a) ?h
 case h => conv => lhs; cbv
theorem pc102_ok : compP Tryz.prog 0 39 [0, 1, 3, 19, 30, 37] 101 (bodyOf 102) = some pc102 := by kernel_rfl
noncomputable def pfs : List Ev.PFn := [⟨100, 1, [0, 2, 15, 26, 32], pc100⟩, ⟨102, 2, [0, 1, 3, 19, 30, 37], pc102⟩]
theorem fnOf_at {k : Nat} (h : (Tryz.prog.funcs[k]?).isSome = true) : Tryz.prog.funcs[k]? = some (fnOf k) := by
 unfold fnOf; cases e : Tryz.prog.funcs[k]? with
 | none => rw [e] at h; cases h
 | some f => rfl
theorem body_at {k : Nat} (h : ((fnOf k).body).isSome = true) : (fnOf k).body = some (bodyOf k) := by
 unfold bodyOf; cases e : (fnOf k).body with
 | none => rw [e] at h; cases h
 | some f => rfl
theorem nt100 : (fnOf 100).ntmps = 34 := by kernel_rfl
theorem nt102 : (fnOf 102).ntmps = 39 := by kernel_rfl
theorem pfs_ok : ∀ d ∈ pfs, Ev.PFnOK Tryz.prog 0 101 d := by
 intro d hd
 simp only [pfs, List.mem_cons, List.not_mem_nil, or_false] at hd
 rcases hd with rfl | rfl
 · exact ⟨fnOf 100, bodyOf 100, fnOf_at (by kernel_rfl), body_at (by kernel_rfl), by kernel_rfl, by kernel_rfl, by rw [nt100]; decide, by rw [nt100]; exact pc100_ok, by rw [nt100]; decide, by kernel_rfl⟩
 · exact ⟨fnOf 102, bodyOf 102, fnOf_at (by kernel_rfl), body_at (by kernel_rfl), by kernel_rfl, by kernel_rfl, by rw [nt102]; decide, by rw [nt102]; exact pc102_ok, by rw [nt102]; decide, by kernel_rfl⟩
theorem toldR {RT : List Ev.RDef} : Ev.HRok RT Tryz.prog 0 99 (Ev.toldH pfs) := Ev.told_ok must101 (fun hb h => told99 hb h) pfs_ok
end Go.AM.F

set_option maxRecDepth 100000
set_option maxHeartbeats 0
namespace Go.AM.F
def Z256G : List Value := List.replicate 256 (.int .u8 0)
def Z257G : List Value := [(.int .i64 0)] ++ List.replicate 256 (.int .u8 0)
def zclG : TypeId → List Value
 | 139 => Z256G
 | 107 => [(.slice none 0 0), (.slice none 0 0), (.int .i64 0), (.pointer none), (.bool false)]
 | 111 => [(.slice none 0 0), (.slice none 0 0), (.int .i64 0), (.bool false), (.int .i64 0), (.bool false)]
 | 29 => [(.pointer none)]
 | 30 => [(.int .i64 0)]
 | 116 => [(.pointer none), (.int .i64 0), (.int .i64 0), (.slice none 0 0), (.int .i64 0)]
 | 114 => [(.int .i64 0), (.int .i64 0)]
 | 124 => [(.int .i64 0), (.slice none 0 0)]
 | 133 => [(.pointer none), (.int .i64 0), (.int .i64 0), (.slice none 0 0), (.int .i64 0)]
 | 141 => Z257G
 | 143 => [(.int .i64 0), (.string ByteArray.empty)]
 | _ => []
def zvlG : TypeId → Value
 | 114 => (.agg #[(.int .i64 0), (.int .i64 0)])
 | _ => undef
def zklG : TypeId → List Nat
 | _ => []
def zrlG : Nat → TypeId → List Value
 | 1, 9 => [(.string ByteArray.empty)]
 | 1, 5 => [(.int .u8 0)]
 | 1, 38 => [(.slice none 0 0)]
 | _, _ => []
noncomputable def f11 : AFunc := by
 refine (fun (_ : Cz zclG zvlG zklG zrlG Go.Proofs.Tryz.prog 0 [0, 2] 11 ?a) => ?a) ?h
 case h =>
 intro zc zv zk zr hc hv hk hr
 conv => lhs; cbv; try simp only [hc, hv, hk, hr, zclG, zvlG, zklG, zrlG]
theorem f11_ok : compF Go.Proofs.Tryz.prog 0 [0, 2] 11 = some f11 := by kernel_rfl
theorem f11_n : argsOK Go.Proofs.Tryz.prog 11 1 = true := by kernel_rfl
noncomputable def f12 : AFunc := by
 refine (fun (_ : Cz zclG zvlG zklG zrlG Go.Proofs.Tryz.prog 0 [0, 2, 3, 4, 13] 12 ?a) => ?a) ?h
 case h =>
 intro zc zv zk zr hc hv hk hr
 conv => lhs; cbv; try simp only [hc, hv, hk, hr, zclG, zvlG, zklG, zrlG]
theorem f12_ok : compF Go.Proofs.Tryz.prog 0 [0, 2, 3, 4, 13] 12 = some f12 := by kernel_rfl
theorem f12_n : argsOK Go.Proofs.Tryz.prog 12 1 = true := by kernel_rfl
noncomputable def f13 : AFunc := by
 refine (fun (_ : Cz zclG zvlG zklG zrlG Go.Proofs.Tryz.prog 0 [0, 2, 3, 4, 5, 6, 7, 9, 10, 11, 12, 13, 14, 15, 18, 22, 28, 29, 62, 80, 82, 89, 93, 94, 95, 111, 125, 126, 131] 13 ?a) => ?a) ?h
 case h =>
 intro zc zv zk zr hc hv hk hr
 have e0A := (rfl : rfA Go.Proofs.Tryz.prog 13 0 = rfA Go.Proofs.Tryz.prog 13 0); conv at e0A => rhs; cbv
 have e0B := (rfl : rfB Go.Proofs.Tryz.prog 13 0 = rfB Go.Proofs.Tryz.prog 13 0); conv at e0B => rhs; cbv
 conv => lhs; cbv; try simp only [hc, hv, hk, hr, zclG, zvlG, zklG, zrlG]; simp only [← e0A, ← e0B]
theorem f13_ok : compF Go.Proofs.Tryz.prog 0 [0, 2, 3, 4, 5, 6, 7, 9, 10, 11, 12, 13, 14, 15, 18, 22, 28, 29, 62, 80, 82, 89, 93, 94, 95, 111, 125, 126, 131] 13 = some f13 := by kernel_rfl
theorem f13_n : argsOK Go.Proofs.Tryz.prog 13 1 = true := by kernel_rfl
noncomputable def f13r0a : ACode := by
 refine (fun (_ : CzC zclG zvlG zklG zrlG Go.Proofs.Tryz.prog 0 133 [0, 2, 3, 4, 5, 6, 7, 9, 10, 11, 12, 13, 14, 15, 18, 22, 28, 29, 62, 80, 82, 89, 93, 94, 95, 111, 125, 126, 131] (rfA Go.Proofs.Tryz.prog 13 0) ?a) => ?a) ?h
 case h => intro zc zv zk zr hc hv hk hr; conv => lhs; cbv; try simp only [hc, hv, hk, hr, zclG, zvlG, zklG, zrlG]
theorem f13r0a_ok : compC Go.Proofs.Tryz.prog 0 133 [0, 2, 3, 4, 5, 6, 7, 9, 10, 11, 12, 13, 14, 15, 18, 22, 28, 29, 62, 80, 82, 89, 93, 94, 95, 111, 125, 126, 131] (rfA Go.Proofs.Tryz.prog 13 0) = some f13r0a := by kernel_rfl
noncomputable def f13r0b : ACode := by
 refine (fun (_ : CzC zclG zvlG zklG zrlG Go.Proofs.Tryz.prog 0 133 [0, 2, 3, 4, 5, 6, 7, 9, 10, 11, 12, 13, 14, 15, 18, 22, 28, 29, 62, 80, 82, 89, 93, 94, 95, 111, 125, 126, 131] (rfB Go.Proofs.Tryz.prog 13 0) ?a) => ?a) ?h
 case h => intro zc zv zk zr hc hv hk hr; conv => lhs; cbv; try simp only [hc, hv, hk, hr, zclG, zvlG, zklG, zrlG]
theorem f13r0b_ok : compC Go.Proofs.Tryz.prog 0 133 [0, 2, 3, 4, 5, 6, 7, 9, 10, 11, 12, 13, 14, 15, 18, 22, 28, 29, 62, 80, 82, 89, 93, 94, 95, 111, 125, 126, 131] (rfB Go.Proofs.Tryz.prog 13 0) = some f13r0b := by kernel_rfl
theorem f13r0_n : (noRF (rfA Go.Proofs.Tryz.prog 13 0) && noRF (rfB Go.Proofs.Tryz.prog 13 0)) = true := by kernel_rfl
noncomputable def f14 : AFunc := by
 refine (fun (_ : Cz zclG zvlG zklG zrlG Go.Proofs.Tryz.prog 0 [0, 2, 3, 4, 6, 8, 9, 10, 11, 12, 13, 14, 16, 17, 18, 19, 21, 28, 32, 60, 73, 81, 86, 90, 105, 123, 140, 157] 14 ?a) => ?a) ?h
 case h =>
 intro zc zv zk zr hc hv hk hr
 conv => lhs; cbv; try simp only [hc, hv, hk, hr, zclG, zvlG, zklG, zrlG]
theorem f14_ok : compF Go.Proofs.Tryz.prog 0 [0, 2, 3, 4, 6, 8, 9, 10, 11, 12, 13, 14, 16, 17, 18, 19, 21, 28, 32, 60, 73, 81, 86, 90, 105, 123, 140, 157] 14 = some f14 := by kernel_rfl
theorem f14_n : argsOK Go.Proofs.Tryz.prog 14 1 = true := by kernel_rfl
noncomputable def f17 : AFunc := by
 refine (fun (_ : Cz zclG zvlG zklG zrlG Go.Proofs.Tryz.prog 0 [0, 1, 3, 5, 10] 17 ?a) => ?a) ?h
 case h =>
 intro zc zv zk zr hc hv hk hr
 conv => lhs; cbv; try simp only [hc, hv, hk, hr, zclG, zvlG, zklG, zrlG]
theorem f17_ok : compF Go.Proofs.Tryz.prog 0 [0, 1, 3, 5, 10] 17 = some f17 := by kernel_rfl
theorem f17_n : argsOK Go.Proofs.Tryz.prog 17 2 = true := by kernel_rfl
noncomputable def f18 : AFunc := by
 refine (fun (_ : Cz zclG zvlG zklG zrlG Go.Proofs.Tryz.prog 0 [0, 1] 18 ?a) => ?a) ?h
 case h =>
 intro zc zv zk zr hc hv hk hr
 conv => lhs; cbv; try simp only [hc, hv, hk, hr, zclG, zvlG, zklG, zrlG]
theorem f18_ok : compF Go.Proofs.Tryz.prog 0 [0, 1] 18 = some f18 := by kernel_rfl
theorem f18_n : argsOK Go.Proofs.Tryz.prog 18 2 = true := by kernel_rfl
noncomputable def f19 : AFunc := by
 refine (fun (_ : Cz zclG zvlG zklG zrlG Go.Proofs.Tryz.prog 0 [0, 3] 19 ?a) => ?a) ?h
 case h =>
 intro zc zv zk zr hc hv hk hr
 conv => lhs; cbv; try simp only [hc, hv, hk, hr, zclG, zvlG, zklG, zrlG]
theorem f19_ok : compF Go.Proofs.Tryz.prog 0 [0, 3] 19 = some f19 := by kernel_rfl
theorem f19_n : argsOK Go.Proofs.Tryz.prog 19 1 = true := by kernel_rfl
noncomputable def f20 : AFunc := by
 refine (fun (_ : Cz zclG zvlG zklG zrlG Go.Proofs.Tryz.prog 0 [0] 20 ?a) => ?a) ?h
 case h =>
 intro zc zv zk zr hc hv hk hr
 conv => lhs; cbv; try simp only [hc, hv, hk, hr, zclG, zvlG, zklG, zrlG]
theorem f20_ok : compF Go.Proofs.Tryz.prog 0 [0] 20 = some f20 := by kernel_rfl
theorem f20_n : argsOK Go.Proofs.Tryz.prog 20 1 = true := by kernel_rfl
noncomputable def f21 : AFunc := by
 refine (fun (_ : Cz zclG zvlG zklG zrlG Go.Proofs.Tryz.prog 0 [0, 1, 4, 5, 6, 8, 16, 23, 24, 25, 26, 33, 40] 21 ?a) => ?a) ?h
 case h =>
 intro zc zv zk zr hc hv hk hr
 conv => lhs; cbv; try simp only [hc, hv, hk, hr, zclG, zvlG, zklG, zrlG]
theorem f21_ok : compF Go.Proofs.Tryz.prog 0 [0, 1, 4, 5, 6, 8, 16, 23, 24, 25, 26, 33, 40] 21 = some f21 := by kernel_rfl
theorem f21_n : argsOK Go.Proofs.Tryz.prog 21 2 = true := by kernel_rfl
noncomputable def f22 : AFunc := by
 refine (fun (_ : Cz zclG zvlG zklG zrlG Go.Proofs.Tryz.prog 0 [0, 1, 4, 5, 6, 14, 24, 37, 44] 22 ?a) => ?a) ?h
 case h =>
 intro zc zv zk zr hc hv hk hr
 conv => lhs; cbv; try simp only [hc, hv, hk, hr, zclG, zvlG, zklG, zrlG]
theorem f22_ok : compF Go.Proofs.Tryz.prog 0 [0, 1, 4, 5, 6, 14, 24, 37, 44] 22 = some f22 := by kernel_rfl
theorem f22_n : argsOK Go.Proofs.Tryz.prog 22 2 = true := by kernel_rfl
end Go.AM.F

set_option maxRecDepth 100000
set_option maxHeartbeats 0
namespace Go.AM.F
def Z257H : List Value := [(.int .i64 0)] ++ List.replicate 256 (.int .u8 0)
def zclH : TypeId → List Value
 | 141 => Z257H
 | 143 => [(.int .i64 0), (.string ByteArray.empty)]
 | 124 => [(.int .i64 0), (.slice none 0 0)]
 | 114 => [(.int .i64 0), (.int .i64 0)]
 | _ => []
def zvlH : TypeId → Value
 | _ => undef
def zklH : TypeId → List Nat
 | _ => []
def zrlH : Nat → TypeId → List Value
 | 1, 141 => Z257H
 | 1, 143 => [(.int .i64 0), (.string ByteArray.empty)]
 | 1, 38 => [(.slice none 0 0)]
 | 1, 5 => [(.int .u8 0)]
 | _, _ => []
noncomputable def f23 : AFunc := by
 refine (fun (_ : Cz zclH zvlH zklH zrlH Go.Proofs.Tryz.prog 0 [0, 1, 2, 6, 7, 8, 13, 17] 23 ?a) => ?a) ?h
 case h =>
 intro zc zv zk zr hc hv hk hr
 conv => lhs; cbv; try simp only [hc, hv, hk, hr, zclH, zvlH, zklH, zrlH]
theorem f23_ok : compF Go.Proofs.Tryz.prog 0 [0, 1, 2, 6, 7, 8, 13, 17] 23 = some f23 := by kernel_rfl
theorem f23_n : argsOK Go.Proofs.Tryz.prog 23 3 = true := by kernel_rfl
noncomputable def f24 : AFunc := by
 refine (fun (_ : Cz zclH zvlH zklH zrlH Go.Proofs.Tryz.prog 0 [0, 1, 2, 6, 7, 12, 16, 31] 24 ?a) => ?a) ?h
 case h =>
 intro zc zv zk zr hc hv hk hr
 conv => lhs; cbv; try simp only [hc, hv, hk, hr, zclH, zvlH, zklH, zrlH]
theorem f24_ok : compF Go.Proofs.Tryz.prog 0 [0, 1, 2, 6, 7, 12, 16, 31] 24 = some f24 := by kernel_rfl
theorem f24_n : argsOK Go.Proofs.Tryz.prog 24 3 = true := by kernel_rfl
noncomputable def f26 : AFunc := by
 refine (fun (_ : Cz zclH zvlH zklH zrlH Go.Proofs.Tryz.prog 0 [0, 1, 4, 5, 22] 26 ?a) => ?a) ?h
 case h =>
 intro zc zv zk zr hc hv hk hr
 conv => lhs; cbv; try simp only [hc, hv, hk, hr, zclH, zvlH, zklH, zrlH]
theorem f26_ok : compF Go.Proofs.Tryz.prog 0 [0, 1, 4, 5, 22] 26 = some f26 := by kernel_rfl
theorem f26_n : argsOK Go.Proofs.Tryz.prog 26 2 = true := by kernel_rfl
noncomputable def f27 : AFunc := by
 refine (fun (_ : Cz zclH zvlH zklH zrlH Go.Proofs.Tryz.prog 0 [0, 2, 4] 27 ?a) => ?a) ?h
 case h =>
 intro zc zv zk zr hc hv hk hr
 conv => lhs; cbv; try simp only [hc, hv, hk, hr, zclH, zvlH, zklH, zrlH]
theorem f27_ok : compF Go.Proofs.Tryz.prog 0 [0, 2, 4] 27 = some f27 := by kernel_rfl
theorem f27_n : argsOK Go.Proofs.Tryz.prog 27 1 = true := by kernel_rfl
noncomputable def f28 : AFunc := by
 refine (fun (_ : Cz zclH zvlH zklH zrlH Go.Proofs.Tryz.prog 0 [0, 2, 4] 28 ?a) => ?a) ?h
 case h =>
 intro zc zv zk zr hc hv hk hr
 conv => lhs; cbv; try simp only [hc, hv, hk, hr, zclH, zvlH, zklH, zrlH]
theorem f28_ok : compF Go.Proofs.Tryz.prog 0 [0, 2, 4] 28 = some f28 := by kernel_rfl
theorem f28_n : argsOK Go.Proofs.Tryz.prog 28 1 = true := by kernel_rfl
noncomputable def f29 : AFunc := by
 refine (fun (_ : Cz zclH zvlH zklH zrlH Go.Proofs.Tryz.prog 0 [0, 2, 4] 29 ?a) => ?a) ?h
 case h =>
 intro zc zv zk zr hc hv hk hr
 conv => lhs; cbv; try simp only [hc, hv, hk, hr, zclH, zvlH, zklH, zrlH]
theorem f29_ok : compF Go.Proofs.Tryz.prog 0 [0, 2, 4] 29 = some f29 := by kernel_rfl
theorem f29_n : argsOK Go.Proofs.Tryz.prog 29 1 = true := by kernel_rfl
noncomputable def f30 : AFunc := by
 refine (fun (_ : Cz zclH zvlH zklH zrlH Go.Proofs.Tryz.prog 0 [0, 2, 4] 30 ?a) => ?a) ?h
 case h =>
 intro zc zv zk zr hc hv hk hr
 conv => lhs; cbv; try simp only [hc, hv, hk, hr, zclH, zvlH, zklH, zrlH]
theorem f30_ok : compF Go.Proofs.Tryz.prog 0 [0, 2, 4] 30 = some f30 := by kernel_rfl
theorem f30_n : argsOK Go.Proofs.Tryz.prog 30 1 = true := by kernel_rfl
noncomputable def f31 : AFunc := by
 refine (fun (_ : Cz zclH zvlH zklH zrlH Go.Proofs.Tryz.prog 0 [0, 1, 4, 5, 6, 7, 10, 14, 18, 41] 31 ?a) => ?a) ?h
 case h =>
 intro zc zv zk zr hc hv hk hr
 conv => lhs; cbv; try simp only [hc, hv, hk, hr, zclH, zvlH, zklH, zrlH]
theorem f31_ok : compF Go.Proofs.Tryz.prog 0 [0, 1, 4, 5, 6, 7, 10, 14, 18, 41] 31 = some f31 := by kernel_rfl
theorem f31_n : argsOK Go.Proofs.Tryz.prog 31 2 = true := by kernel_rfl
noncomputable def f32 : AFunc := by
 refine (fun (_ : Cz zclH zvlH zklH zrlH Go.Proofs.Tryz.prog 0 [0, 1, 4, 5, 6, 7, 10, 14, 44] 32 ?a) => ?a) ?h
 case h =>
 intro zc zv zk zr hc hv hk hr
 conv => lhs; cbv; try simp only [hc, hv, hk, hr, zclH, zvlH, zklH, zrlH]
theorem f32_ok : compF Go.Proofs.Tryz.prog 0 [0, 1, 4, 5, 6, 7, 10, 14, 44] 32 = some f32 := by kernel_rfl
theorem f32_n : argsOK Go.Proofs.Tryz.prog 32 2 = true := by kernel_rfl
noncomputable def f33 : AFunc := by
 refine (fun (_ : Cz zclH zvlH zklH zrlH Go.Proofs.Tryz.prog 0 [0, 1, 4, 5] 33 ?a) => ?a) ?h
 case h =>
 intro zc zv zk zr hc hv hk hr
 conv => lhs; cbv; try simp only [hc, hv, hk, hr, zclH, zvlH, zklH, zrlH]
theorem f33_ok : compF Go.Proofs.Tryz.prog 0 [0, 1, 4, 5] 33 = some f33 := by kernel_rfl
theorem f33_n : argsOK Go.Proofs.Tryz.prog 33 2 = true := by kernel_rfl
noncomputable def f34 : AFunc := by
 refine (fun (_ : Cz zclH zvlH zklH zrlH Go.Proofs.Tryz.prog 0 [0, 1, 4, 5] 34 ?a) => ?a) ?h
 case h =>
 intro zc zv zk zr hc hv hk hr
 conv => lhs; cbv; try simp only [hc, hv, hk, hr, zclH, zvlH, zklH, zrlH]
theorem f34_ok : compF Go.Proofs.Tryz.prog 0 [0, 1, 4, 5] 34 = some f34 := by kernel_rfl
theorem f34_n : argsOK Go.Proofs.Tryz.prog 34 2 = true := by kernel_rfl
end Go.AM.F

set_option maxRecDepth 100000
set_option maxHeartbeats 0
namespace Go.AM.F
def Z256I : List Value := List.replicate 256 (.int .u8 0)
def Z257I : List Value := [(.int .i64 0)] ++ List.replicate 256 (.int .u8 0)
def zclI : TypeId → List Value
 | 40 => [(.int .u8 0), (.slice none 0 0), (.int .i64 0), (.slice none 0 0)]
 | 139 => Z256I
 | 141 => Z257I
 | 114 => [(.int .i64 0), (.int .i64 0)]
 | 124 => [(.int .i64 0), (.slice none 0 0)]
 | _ => []
def zvlI : TypeId → Value
 | 124 => (.agg #[(.int .i64 0), (.slice none 0 0)])
 | _ => undef
def zklI : TypeId → List Nat
 | _ => []
def zrlI : Nat → TypeId → List Value
 | 1, 9 => [(.string ByteArray.empty)]
 | 1, 5 => [(.int .u8 0)]
 | _, _ => []
noncomputable def f64 : AFunc := by
 refine (fun (_ : Cz zclI zvlI zklI zrlI Go.Proofs.Tryz.prog 0 [0, 2, 3, 9] 64 ?a) => ?a) ?h
 case h =>
 intro zc zv zk zr hc hv hk hr
 conv => lhs; cbv; try simp only [hc, hv, hk, hr, zclI, zvlI, zklI, zrlI]
theorem f64_ok : compF Go.Proofs.Tryz.prog 0 [0, 2, 3, 9] 64 = some f64 := by kernel_rfl
theorem f64_n : argsOK Go.Proofs.Tryz.prog 64 1 = true := by kernel_rfl
noncomputable def f65 : AFunc := by
 refine (fun (_ : Cz zclI zvlI zklI zrlI Go.Proofs.Tryz.prog 0 [0, 2, 4] 65 ?a) => ?a) ?h
 case h =>
 intro zc zv zk zr hc hv hk hr
 conv => lhs; cbv; try simp only [hc, hv, hk, hr, zclI, zvlI, zklI, zrlI]
theorem f65_ok : compF Go.Proofs.Tryz.prog 0 [0, 2, 4] 65 = some f65 := by kernel_rfl
theorem f65_n : argsOK Go.Proofs.Tryz.prog 65 1 = true := by kernel_rfl
noncomputable def f66 : AFunc := by
 refine (fun (_ : Cz zclI zvlI zklI zrlI Go.Proofs.Tryz.prog 0 [0, 2] 66 ?a) => ?a) ?h
 case h =>
 intro zc zv zk zr hc hv hk hr
 conv => lhs; cbv; try simp only [hc, hv, hk, hr, zclI, zvlI, zklI, zrlI]
theorem f66_ok : compF Go.Proofs.Tryz.prog 0 [0, 2] 66 = some f66 := by kernel_rfl
theorem f66_n : argsOK Go.Proofs.Tryz.prog 66 1 = true := by kernel_rfl
noncomputable def f67 : AFunc := by
 refine (fun (_ : Cz zclI zvlI zklI zrlI Go.Proofs.Tryz.prog 0 [0, 1, 3, 4, 5, 6, 7, 9, 14, 27, 28, 29, 33] 67 ?a) => ?a) ?h
 case h =>
 intro zc zv zk zr hc hv hk hr
 have e0A := (rfl : rfA Go.Proofs.Tryz.prog 67 0 = rfA Go.Proofs.Tryz.prog 67 0); conv at e0A => rhs; cbv
 have e0B := (rfl : rfB Go.Proofs.Tryz.prog 67 0 = rfB Go.Proofs.Tryz.prog 67 0); conv at e0B => rhs; cbv
 conv => lhs; cbv; try simp only [hc, hv, hk, hr, zclI, zvlI, zklI, zrlI]; simp only [← e0A, ← e0B]
theorem f67_ok : compF Go.Proofs.Tryz.prog 0 [0, 1, 3, 4, 5, 6, 7, 9, 14, 27, 28, 29, 33] 67 = some f67 := by kernel_rfl
theorem f67_n : argsOK Go.Proofs.Tryz.prog 67 2 = true := by kernel_rfl
noncomputable def f67r0a : ACode := by
 refine (fun (_ : CzC zclI zvlI zklI zrlI Go.Proofs.Tryz.prog 0 37 [0, 1, 3, 4, 5, 6, 7, 9, 14, 27, 28, 29, 33] (rfA Go.Proofs.Tryz.prog 67 0) ?a) => ?a) ?h
 case h => intro zc zv zk zr hc hv hk hr; conv => lhs; cbv; try simp only [hc, hv, hk, hr, zclI, zvlI, zklI, zrlI]
theorem f67r0a_ok : compC Go.Proofs.Tryz.prog 0 37 [0, 1, 3, 4, 5, 6, 7, 9, 14, 27, 28, 29, 33] (rfA Go.Proofs.Tryz.prog 67 0) = some f67r0a := by kernel_rfl
noncomputable def f67r0b : ACode := by
 refine (fun (_ : CzC zclI zvlI zklI zrlI Go.Proofs.Tryz.prog 0 37 [0, 1, 3, 4, 5, 6, 7, 9, 14, 27, 28, 29, 33] (rfB Go.Proofs.Tryz.prog 67 0) ?a) => ?a) ?h
 case h => intro zc zv zk zr hc hv hk hr; conv => lhs; cbv; try simp only [hc, hv, hk, hr, zclI, zvlI, zklI, zrlI]
theorem f67r0b_ok : compC Go.Proofs.Tryz.prog 0 37 [0, 1, 3, 4, 5, 6, 7, 9, 14, 27, 28, 29, 33] (rfB Go.Proofs.Tryz.prog 67 0) = some f67r0b := by kernel_rfl
theorem f67r0_n : (noRF (rfA Go.Proofs.Tryz.prog 67 0) && noRF (rfB Go.Proofs.Tryz.prog 67 0)) = true := by kernel_rfl
noncomputable def f68 : AFunc := by
 refine (fun (_ : Cz zclI zvlI zklI zrlI Go.Proofs.Tryz.prog 0 [0, 1, 4, 5, 6, 9, 15, 25] 68 ?a) => ?a) ?h
 case h =>
 intro zc zv zk zr hc hv hk hr
 conv => lhs; cbv; try simp only [hc, hv, hk, hr, zclI, zvlI, zklI, zrlI]
theorem f68_ok : compF Go.Proofs.Tryz.prog 0 [0, 1, 4, 5, 6, 9, 15, 25] 68 = some f68 := by kernel_rfl
theorem f68_n : argsOK Go.Proofs.Tryz.prog 68 2 = true := by kernel_rfl
noncomputable def f69 : AFunc := by
 refine (fun (_ : Cz zclI zvlI zklI zrlI Go.Proofs.Tryz.prog 0 [0, 2, 3, 4, 5, 6, 7, 11, 12, 30, 33, 49, 61] 69 ?a) => ?a) ?h
 case h =>
 intro zc zv zk zr hc hv hk hr
 conv => lhs; cbv; try simp only [hc, hv, hk, hr, zclI, zvlI, zklI, zrlI]
theorem f69_ok : compF Go.Proofs.Tryz.prog 0 [0, 2, 3, 4, 5, 6, 7, 11, 12, 30, 33, 49, 61] 69 = some f69 := by kernel_rfl
theorem f69_n : argsOK Go.Proofs.Tryz.prog 69 1 = true := by kernel_rfl
noncomputable def f70 : AFunc := by
 refine (fun (_ : Cz zclI zvlI zklI zrlI Go.Proofs.Tryz.prog 0 [0, 1, 2, 6, 22] 70 ?a) => ?a) ?h
 case h =>
 intro zc zv zk zr hc hv hk hr
 conv => lhs; cbv; try simp only [hc, hv, hk, hr, zclI, zvlI, zklI, zrlI]
theorem f70_ok : compF Go.Proofs.Tryz.prog 0 [0, 1, 2, 6, 22] 70 = some f70 := by kernel_rfl
theorem f70_n : argsOK Go.Proofs.Tryz.prog 70 3 = true := by kernel_rfl
noncomputable def f71 : AFunc := by
 refine (fun (_ : Cz zclI zvlI zklI zrlI Go.Proofs.Tryz.prog 0 [0, 1, 4, 5, 6, 8, 9] 71 ?a) => ?a) ?h
 case h =>
 intro zc zv zk zr hc hv hk hr
 conv => lhs; cbv; try simp only [hc, hv, hk, hr, zclI, zvlI, zklI, zrlI]
theorem f71_ok : compF Go.Proofs.Tryz.prog 0 [0, 1, 4, 5, 6, 8, 9] 71 = some f71 := by kernel_rfl
theorem f71_n : argsOK Go.Proofs.Tryz.prog 71 2 = true := by kernel_rfl
noncomputable def f72 : AFunc := by
 refine (fun (_ : Cz zclI zvlI zklI zrlI Go.Proofs.Tryz.prog 0 [0, 1, 4, 5, 6, 8, 9, 10, 25] 72 ?a) => ?a) ?h
 case h =>
 intro zc zv zk zr hc hv hk hr
 conv => lhs; cbv; try simp only [hc, hv, hk, hr, zclI, zvlI, zklI, zrlI]
theorem f72_ok : compF Go.Proofs.Tryz.prog 0 [0, 1, 4, 5, 6, 8, 9, 10, 25] 72 = some f72 := by kernel_rfl
theorem f72_n : argsOK Go.Proofs.Tryz.prog 72 2 = true := by kernel_rfl
end Go.AM.F

set_option maxRecDepth 100000
set_option maxHeartbeats 0
namespace Go.AM.F
def zclJ : TypeId → List Value
 | _ => []
def zvlJ : TypeId → Value
 | _ => undef
def zklJ : TypeId → List Nat
 | _ => []
def zrlJ : Nat → TypeId → List Value
 | 0, 9 => []
 | 1, 9 => [(.string ByteArray.empty)]
 | _, _ => []
noncomputable def f73 : AFunc := by
 refine (fun (_ : Cz zclJ zvlJ zklJ zrlJ Go.Proofs.Tryz.prog 0 [0, 1, 4, 5, 6, 7, 12, 21, 33] 73 ?a) => ?a) ?h
 case h =>
 intro zc zv zk zr hc hv hk hr
 conv => lhs; cbv; try simp only [hc, hv, hk, hr, zclJ, zvlJ, zklJ, zrlJ]
theorem f73_ok : compF Go.Proofs.Tryz.prog 0 [0, 1, 4, 5, 6, 7, 12, 21, 33] 73 = some f73 := by kernel_rfl
theorem f73_n : argsOK Go.Proofs.Tryz.prog 73 2 = true := by kernel_rfl
noncomputable def f74 : AFunc := by
 refine (fun (_ : Cz zclJ zvlJ zklJ zrlJ Go.Proofs.Tryz.prog 0 [0, 2, 3, 4, 5, 22] 74 ?a) => ?a) ?h
 case h =>
 intro zc zv zk zr hc hv hk hr
 conv => lhs; cbv; try simp only [hc, hv, hk, hr, zclJ, zvlJ, zklJ, zrlJ]
theorem f74_ok : compF Go.Proofs.Tryz.prog 0 [0, 2, 3, 4, 5, 22] 74 = some f74 := by kernel_rfl
theorem f74_n : argsOK Go.Proofs.Tryz.prog 74 1 = true := by kernel_rfl
noncomputable def f75 : AFunc := by
 refine (fun (_ : Cz zclJ zvlJ zklJ zrlJ Go.Proofs.Tryz.prog 0 [0, 2, 3, 7, 13] 75 ?a) => ?a) ?h
 case h =>
 intro zc zv zk zr hc hv hk hr
 conv => lhs; cbv; try simp only [hc, hv, hk, hr, zclJ, zvlJ, zklJ, zrlJ]
theorem f75_ok : compF Go.Proofs.Tryz.prog 0 [0, 2, 3, 7, 13] 75 = some f75 := by kernel_rfl
theorem f75_n : argsOK Go.Proofs.Tryz.prog 75 1 = true := by kernel_rfl
noncomputable def f76 : AFunc := by
 refine (fun (_ : Cz zclJ zvlJ zklJ zrlJ Go.Proofs.Tryz.prog 0 [0, 2, 3, 11, 18] 76 ?a) => ?a) ?h
 case h =>
 intro zc zv zk zr hc hv hk hr
 conv => lhs; cbv; try simp only [hc, hv, hk, hr, zclJ, zvlJ, zklJ, zrlJ]
theorem f76_ok : compF Go.Proofs.Tryz.prog 0 [0, 2, 3, 11, 18] 76 = some f76 := by kernel_rfl
theorem f76_n : argsOK Go.Proofs.Tryz.prog 76 1 = true := by kernel_rfl
noncomputable def f77 : AFunc := by
 refine (fun (_ : Cz zclJ zvlJ zklJ zrlJ Go.Proofs.Tryz.prog 0 [0, 2] 77 ?a) => ?a) ?h
 case h =>
 intro zc zv zk zr hc hv hk hr
 conv => lhs; cbv; try simp only [hc, hv, hk, hr, zclJ, zvlJ, zklJ, zrlJ]
theorem f77_ok : compF Go.Proofs.Tryz.prog 0 [0, 2] 77 = some f77 := by kernel_rfl
theorem f77_n : argsOK Go.Proofs.Tryz.prog 77 1 = true := by kernel_rfl
noncomputable def f78 : AFunc := by
 refine (fun (_ : Cz zclJ zvlJ zklJ zrlJ Go.Proofs.Tryz.prog 0 [0, 1, 4] 78 ?a) => ?a) ?h
 case h =>
 intro zc zv zk zr hc hv hk hr
 conv => lhs; cbv; try simp only [hc, hv, hk, hr, zclJ, zvlJ, zklJ, zrlJ]
theorem f78_ok : compF Go.Proofs.Tryz.prog 0 [0, 1, 4] 78 = some f78 := by kernel_rfl
theorem f78_n : argsOK Go.Proofs.Tryz.prog 78 2 = true := by kernel_rfl
noncomputable def f79 : AFunc := by
 refine (fun (_ : Cz zclJ zvlJ zklJ zrlJ Go.Proofs.Tryz.prog 0 [0, 2] 79 ?a) => ?a) ?h
 case h =>
 intro zc zv zk zr hc hv hk hr
 conv => lhs; cbv; try simp only [hc, hv, hk, hr, zclJ, zvlJ, zklJ, zrlJ]
theorem f79_ok : compF Go.Proofs.Tryz.prog 0 [0, 2] 79 = some f79 := by kernel_rfl
theorem f79_n : argsOK Go.Proofs.Tryz.prog 79 1 = true := by kernel_rfl
noncomputable def f80 : AFunc := by
 refine (fun (_ : Cz zclJ zvlJ zklJ zrlJ Go.Proofs.Tryz.prog 0 [0, 2, 3, 4, 5, 28] 80 ?a) => ?a) ?h
 case h =>
 intro zc zv zk zr hc hv hk hr
 conv => lhs; cbv; try simp only [hc, hv, hk, hr, zclJ, zvlJ, zklJ, zrlJ]
theorem f80_ok : compF Go.Proofs.Tryz.prog 0 [0, 2, 3, 4, 5, 28] 80 = some f80 := by kernel_rfl
theorem f80_n : argsOK Go.Proofs.Tryz.prog 80 1 = true := by kernel_rfl
noncomputable def f81 : AFunc := by
 refine (fun (_ : Cz zclJ zvlJ zklJ zrlJ Go.Proofs.Tryz.prog 0 [0, 2, 4] 81 ?a) => ?a) ?h
 case h =>
 intro zc zv zk zr hc hv hk hr
 conv => lhs; cbv; try simp only [hc, hv, hk, hr, zclJ, zvlJ, zklJ, zrlJ]
theorem f81_ok : compF Go.Proofs.Tryz.prog 0 [0, 2, 4] 81 = some f81 := by kernel_rfl
theorem f81_n : argsOK Go.Proofs.Tryz.prog 81 1 = true := by kernel_rfl
noncomputable def f82 : AFunc := by
 refine (fun (_ : Cz zclJ zvlJ zklJ zrlJ Go.Proofs.Tryz.prog 0 [0, 2, 4] 82 ?a) => ?a) ?h
 case h =>
 intro zc zv zk zr hc hv hk hr
 conv => lhs; cbv; try simp only [hc, hv, hk, hr, zclJ, zvlJ, zklJ, zrlJ]
theorem f82_ok : compF Go.Proofs.Tryz.prog 0 [0, 2, 4] 82 = some f82 := by kernel_rfl
theorem f82_n : argsOK Go.Proofs.Tryz.prog 82 1 = true := by kernel_rfl
noncomputable def f83 : AFunc := by
 refine (fun (_ : Cz zclJ zvlJ zklJ zrlJ Go.Proofs.Tryz.prog 0 [0, 1, 4, 5, 8, 13] 83 ?a) => ?a) ?h
 case h =>
 intro zc zv zk zr hc hv hk hr
 conv => lhs; cbv; try simp only [hc, hv, hk, hr, zclJ, zvlJ, zklJ, zrlJ]
theorem f83_ok : compF Go.Proofs.Tryz.prog 0 [0, 1, 4, 5, 8, 13] 83 = some f83 := by kernel_rfl
theorem f83_n : argsOK Go.Proofs.Tryz.prog 83 2 = true := by kernel_rfl
noncomputable def f84 : AFunc := by
 refine (fun (_ : Cz zclJ zvlJ zklJ zrlJ Go.Proofs.Tryz.prog 0 [0, 1, 4, 18, 24] 84 ?a) => ?a) ?h
 case h =>
 intro zc zv zk zr hc hv hk hr
 conv => lhs; cbv; try simp only [hc, hv, hk, hr, zclJ, zvlJ, zklJ, zrlJ]
theorem f84_ok : compF Go.Proofs.Tryz.prog 0 [0, 1, 4, 18, 24] 84 = some f84 := by kernel_rfl
theorem f84_n : argsOK Go.Proofs.Tryz.prog 84 2 = true := by kernel_rfl
noncomputable def f85 : AFunc := by
 refine (fun (_ : Cz zclJ zvlJ zklJ zrlJ Go.Proofs.Tryz.prog 0 [] 85 ?a) => ?a) ?h
 case h =>
 intro zc zv zk zr hc hv hk hr
 conv => lhs; cbv; try simp only [hc, hv, hk, hr, zclJ, zvlJ, zklJ, zrlJ]
theorem f85_ok : compF Go.Proofs.Tryz.prog 0 [] 85 = some f85 := by kernel_rfl
theorem f85_n : argsOK Go.Proofs.Tryz.prog 85 0 = true := by kernel_rfl
noncomputable def f86 : AFunc := by
 refine (fun (_ : Cz zclJ zvlJ zklJ zrlJ Go.Proofs.Tryz.prog 0 [0, 1, 4, 8, 19] 86 ?a) => ?a) ?h
 case h =>
 intro zc zv zk zr hc hv hk hr
 conv => lhs; cbv; try simp only [hc, hv, hk, hr, zclJ, zvlJ, zklJ, zrlJ]
theorem f86_ok : compF Go.Proofs.Tryz.prog 0 [0, 1, 4, 8, 19] 86 = some f86 := by kernel_rfl
theorem f86_n : argsOK Go.Proofs.Tryz.prog 86 2 = true := by kernel_rfl
noncomputable def f87 : AFunc := by
 refine (fun (_ : Cz zclJ zvlJ zklJ zrlJ Go.Proofs.Tryz.prog 0 [0, 2, 14, 19] 87 ?a) => ?a) ?h
 case h =>
 intro zc zv zk zr hc hv hk hr
 conv => lhs; cbv; try simp only [hc, hv, hk, hr, zclJ, zvlJ, zklJ, zrlJ]
theorem f87_ok : compF Go.Proofs.Tryz.prog 0 [0, 2, 14, 19] 87 = some f87 := by kernel_rfl
theorem f87_n : argsOK Go.Proofs.Tryz.prog 87 1 = true := by kernel_rfl
noncomputable def f89 : AFunc := by
 refine (fun (_ : Cz zclJ zvlJ zklJ zrlJ Go.Proofs.Tryz.prog 0 [0, 1, 4, 5, 10, 26, 43] 89 ?a) => ?a) ?h
 case h =>
 intro zc zv zk zr hc hv hk hr
 conv => lhs; cbv; try simp only [hc, hv, hk, hr, zclJ, zvlJ, zklJ, zrlJ]
theorem f89_ok : compF Go.Proofs.Tryz.prog 0 [0, 1, 4, 5, 10, 26, 43] 89 = some f89 := by kernel_rfl
theorem f89_n : argsOK Go.Proofs.Tryz.prog 89 2 = true := by kernel_rfl
noncomputable def f90 : AFunc := by
 refine (fun (_ : Cz zclJ zvlJ zklJ zrlJ Go.Proofs.Tryz.prog 0 [0, 1, 4, 5, 10, 17, 25, 37] 90 ?a) => ?a) ?h
 case h =>
 intro zc zv zk zr hc hv hk hr
 conv => lhs; cbv; try simp only [hc, hv, hk, hr, zclJ, zvlJ, zklJ, zrlJ]
theorem f90_ok : compF Go.Proofs.Tryz.prog 0 [0, 1, 4, 5, 10, 17, 25, 37] 90 = some f90 := by kernel_rfl
theorem f90_n : argsOK Go.Proofs.Tryz.prog 90 2 = true := by kernel_rfl
end Go.AM.F

set_option maxRecDepth 100000
set_option maxHeartbeats 0
namespace Go.AM.F
def Z257K : List Value := [(.int .i64 0)] ++ List.replicate 256 (.int .u8 0)
def zclK : TypeId → List Value
 | 210 => [(.slice none 0 0)]
 | 114 => [(.int .i64 0), (.int .i64 0)]
 | 124 => [(.int .i64 0), (.slice none 0 0)]
 | 5 => [(.int .u8 0)]
 | 141 => Z257K
 | _ => []
def zvlK : TypeId → Value
 | 114 => (.agg #[(.int .i64 0), (.int .i64 0)])
 | 124 => (.agg #[(.int .i64 0), (.slice none 0 0)])
 | _ => undef
def zklK : TypeId → List Nat
 | _ => []
def zrlK : Nat → TypeId → List Value
 | 1, 5 => [(.int .u8 0)]
 | 3, 38 => [(.slice none 0 0), (.slice none 0 0), (.slice none 0 0)]
 | _, _ => []
noncomputable def f92 : AFunc := by
 refine (fun (_ : Cz zclK zvlK zklK zrlK Go.Proofs.Tryz.prog 0 [0, 1, 4] 92 ?a) => ?a) ?h
 case h =>
 intro zc zv zk zr hc hv hk hr
 conv => lhs; cbv; try simp only [hc, hv, hk, hr, zclK, zvlK, zklK, zrlK]
theorem f92_ok : compF Go.Proofs.Tryz.prog 0 [0, 1, 4] 92 = some f92 := by kernel_rfl
theorem f92_n : argsOK Go.Proofs.Tryz.prog 92 2 = true := by kernel_rfl
noncomputable def f94 : AFunc := by
 refine (fun (_ : Cz zclK zvlK zklK zrlK Go.Proofs.Tryz.prog 0 [0, 1, 4, 13] 94 ?a) => ?a) ?h
 case h =>
 intro zc zv zk zr hc hv hk hr
 conv => lhs; cbv; try simp only [hc, hv, hk, hr, zclK, zvlK, zklK, zrlK]
theorem f94_ok : compF Go.Proofs.Tryz.prog 0 [0, 1, 4, 13] 94 = some f94 := by kernel_rfl
theorem f94_n : argsOK Go.Proofs.Tryz.prog 94 2 = true := by kernel_rfl
noncomputable def f96 : AFunc := by
 refine (fun (_ : Cz zclK zvlK zklK zrlK Go.Proofs.Tryz.prog 0 [0, 2, 3, 6] 96 ?a) => ?a) ?h
 case h =>
 intro zc zv zk zr hc hv hk hr
 conv => lhs; cbv; try simp only [hc, hv, hk, hr, zclK, zvlK, zklK, zrlK]
theorem f96_ok : compF Go.Proofs.Tryz.prog 0 [0, 2, 3, 6] 96 = some f96 := by kernel_rfl
theorem f96_n : argsOK Go.Proofs.Tryz.prog 96 1 = true := by kernel_rfl
noncomputable def f110 : AFunc := by
 refine (fun (_ : Cz zclK zvlK zklK zrlK Go.Proofs.Tryz.prog 0 [0, 1, 2] 110 ?a) => ?a) ?h
 case h =>
 intro zc zv zk zr hc hv hk hr
 conv => lhs; cbv; try simp only [hc, hv, hk, hr, zclK, zvlK, zklK, zrlK]
theorem f110_ok : compF Go.Proofs.Tryz.prog 0 [0, 1, 2] 110 = some f110 := by kernel_rfl
theorem f110_n : argsOK Go.Proofs.Tryz.prog 110 1 = true := by kernel_rfl
noncomputable def f117 : AFunc := by
 refine (fun (_ : Cz zclK zvlK zklK zrlK Go.Proofs.Tryz.prog 0 [0, 2] 117 ?a) => ?a) ?h
 case h =>
 intro zc zv zk zr hc hv hk hr
 conv => lhs; cbv; try simp only [hc, hv, hk, hr, zclK, zvlK, zklK, zrlK]
theorem f117_ok : compF Go.Proofs.Tryz.prog 0 [0, 2] 117 = some f117 := by kernel_rfl
theorem f117_n : argsOK Go.Proofs.Tryz.prog 117 1 = true := by kernel_rfl
noncomputable def f120 : AFunc := by
 refine (fun (_ : Cz zclK zvlK zklK zrlK Go.Proofs.Tryz.prog 0 [0, 1, 4] 120 ?a) => ?a) ?h
 case h =>
 intro zc zv zk zr hc hv hk hr
 conv => lhs; cbv; try simp only [hc, hv, hk, hr, zclK, zvlK, zklK, zrlK]
theorem f120_ok : compF Go.Proofs.Tryz.prog 0 [0, 1, 4] 120 = some f120 := by kernel_rfl
theorem f120_n : argsOK Go.Proofs.Tryz.prog 120 2 = true := by kernel_rfl
noncomputable def f121 : AFunc := by
 refine (fun (_ : Cz zclK zvlK zklK zrlK Go.Proofs.Tryz.prog 0 [0, 2, 3, 4, 5, 6, 7, 8, 14] 121 ?a) => ?a) ?h
 case h =>
 intro zc zv zk zr hc hv hk hr
 conv => lhs; cbv; try simp only [hc, hv, hk, hr, zclK, zvlK, zklK, zrlK]
theorem f121_ok : compF Go.Proofs.Tryz.prog 0 [0, 2, 3, 4, 5, 6, 7, 8, 14] 121 = some f121 := by kernel_rfl
theorem f121_n : argsOK Go.Proofs.Tryz.prog 121 1 = true := by kernel_rfl
noncomputable def f122 : AFunc := by
 refine (fun (_ : Cz zclK zvlK zklK zrlK Go.Proofs.Tryz.prog 0 [0, 1, 4, 5, 18] 122 ?a) => ?a) ?h
 case h =>
 intro zc zv zk zr hc hv hk hr
 conv => lhs; cbv; try simp only [hc, hv, hk, hr, zclK, zvlK, zklK, zrlK]
theorem f122_ok : compF Go.Proofs.Tryz.prog 0 [0, 1, 4, 5, 18] 122 = some f122 := by kernel_rfl
theorem f122_n : argsOK Go.Proofs.Tryz.prog 122 2 = true := by kernel_rfl
noncomputable def f124 : AFunc := by
 refine (fun (_ : Cz zclK zvlK zklK zrlK Go.Proofs.Tryz.prog 0 [0, 1, 2, 6, 7, 16] 124 ?a) => ?a) ?h
 case h =>
 intro zc zv zk zr hc hv hk hr
 conv => lhs; cbv; try simp only [hc, hv, hk, hr, zclK, zvlK, zklK, zrlK]
theorem f124_ok : compF Go.Proofs.Tryz.prog 0 [0, 1, 2, 6, 7, 16] 124 = some f124 := by kernel_rfl
theorem f124_n : argsOK Go.Proofs.Tryz.prog 124 3 = true := by kernel_rfl
noncomputable def f126 : AFunc := by
 refine (fun (_ : Cz zclK zvlK zklK zrlK Go.Proofs.Tryz.prog 0 [0, 3, 7, 8, 9, 10] 126 ?a) => ?a) ?h
 case h =>
 intro zc zv zk zr hc hv hk hr
 conv => lhs; cbv; try simp only [hc, hv, hk, hr, zclK, zvlK, zklK, zrlK]
theorem f126_ok : compF Go.Proofs.Tryz.prog 0 [0, 3, 7, 8, 9, 10] 126 = some f126 := by kernel_rfl
theorem f126_n : argsOK Go.Proofs.Tryz.prog 126 1 = true := by kernel_rfl
noncomputable def f141 : AFunc := by
 refine (fun (_ : Cz zclK zvlK zklK zrlK Go.Proofs.Tryz.prog 0 [0, 1, 3, 8, 18] 141 ?a) => ?a) ?h
 case h =>
 intro zc zv zk zr hc hv hk hr
 conv => lhs; cbv; try simp only [hc, hv, hk, hr, zclK, zvlK, zklK, zrlK]
theorem f141_ok : compF Go.Proofs.Tryz.prog 0 [0, 1, 3, 8, 18] 141 = some f141 := by kernel_rfl
theorem f141_n : argsOK Go.Proofs.Tryz.prog 141 2 = true := by kernel_rfl
noncomputable def f156 : AFunc := by
 refine (fun (_ : Cz zclK zvlK zklK zrlK Go.Proofs.Tryz.prog 0 [0, 2, 3, 5, 6, 8, 9, 10, 11, 12, 20, 25, 26, 27, 28] 156 ?a) => ?a) ?h
 case h =>
 intro zc zv zk zr hc hv hk hr
 conv => lhs; cbv; try simp only [hc, hv, hk, hr, zclK, zvlK, zklK, zrlK]
theorem f156_ok : compF Go.Proofs.Tryz.prog 0 [0, 2, 3, 5, 6, 8, 9, 10, 11, 12, 20, 25, 26, 27, 28] 156 = some f156 := by kernel_rfl
theorem f156_n : argsOK Go.Proofs.Tryz.prog 156 1 = true := by kernel_rfl
noncomputable def f168 : AFunc := by
 refine (fun (_ : Cz zclK zvlK zklK zrlK Go.Proofs.Tryz.prog 0 [0, 1, 4, 6, 16] 168 ?a) => ?a) ?h
 case h =>
 intro zc zv zk zr hc hv hk hr
 conv => lhs; cbv; try simp only [hc, hv, hk, hr, zclK, zvlK, zklK, zrlK]
theorem f168_ok : compF Go.Proofs.Tryz.prog 0 [0, 1, 4, 6, 16] 168 = some f168 := by kernel_rfl
theorem f168_n : argsOK Go.Proofs.Tryz.prog 168 2 = true := by kernel_rfl
end Go.AM.F

set_option maxRecDepth 100000
set_option maxHeartbeats 0
namespace Go.AM.F
def Z76L : List Value := [(.int .u8 0), (.slice none 0 0), (.int .i64 0), (.slice none 0 0), (.int .u8 0), (.slice none 0 0), (.int .i64 0), (.slice none 0 0), (.int .u8 0), (.slice none 0 0), (.int .i64 0), (.slice none 0 0), (.int .u8 0), (.slice none 0 0), (.int .i64 0), (.slice none 0 0), (.int .u8 0), (.slice none 0 0), (.int .i64 0), (.slice none 0 0), (.int .u8 0), (.slice none 0 0), (.int .i64 0), (.slice none 0 0), (.int .u8 0), (.slice none 0 0), (.int .i64 0), (.slice none 0 0), (.int .u8 0), (.slice none 0 0), (.int .i64 0), (.slice none 0 0), (.int .u8 0), (.slice none 0 0), (.int .i64 0), (.slice none 0 0), (.int .u8 0), (.slice none 0 0), (.int .i64 0), (.slice none 0 0), (.int .u8 0), (.slice none 0 0), (.int .i64 0), (.slice none 0 0), (.int .u8 0), (.slice none 0 0), (.int .i64 0), (.slice none 0 0), (.int .u8 0), (.slice none 0 0), (.int .i64 0), (.slice none 0 0), (.int .u8 0), (.slice none 0 0), (.int .i64 0), (.slice none 0 0), (.int .u8 0), (.slice none 0 0), (.int .i64 0), (.slice none 0 0), (.int .u8 0), (.slice none 0 0), (.int .i64 0), (.slice none 0 0), (.int .u8 0), (.slice none 0 0), (.int .i64 0), (.slice none 0 0), (.int .u8 0), (.slice none 0 0), (.int .i64 0), (.slice none 0 0), (.int .u8 0), (.slice none 0 0), (.int .i64 0), (.slice none 0 0)]
def zclL : TypeId → List Value
 | 70 => [(.int .u8 0), (.slice none 0 0), (.int .i64 0), (.slice none 0 0)]
 | 5 => [(.int .u8 0)]
 | 152 => [(.pointer none)]
 | 154 => [(.pointer none)]
 | _ => []
def zvlL : TypeId → Value
 | _ => undef
def zklL : TypeId → List Nat
 | _ => []
def zrlL : Nat → TypeId → List Value
 | 1, 5 => [(.int .u8 0)]
 | 19, 70 => Z76L
 | 4, 3 => [(.int .i64 0), (.int .i64 0), (.int .i64 0), (.int .i64 0)]
 | _, _ => []
noncomputable def f5 : AFunc := by
 refine (fun (_ : Cz zclL zvlL zklL zrlL Go.Proofs.Tryz.prog 0 [0, 1, 4, 5, 6, 7, 8, 9, 10, 11, 12, 13, 14, 15, 16, 22, 41, 69, 76, 77, 89, 95, 119, 123, 128, 151, 155] 5 ?a) => ?a) ?h
 case h =>
 intro zc zv zk zr hc hv hk hr
 conv => lhs; cbv; try simp only [hc, hv, hk, hr, zclL, zvlL, zklL, zrlL]
theorem f5_ok : compF Go.Proofs.Tryz.prog 0 [0, 1, 4, 5, 6, 7, 8, 9, 10, 11, 12, 13, 14, 15, 16, 22, 41, 69, 76, 77, 89, 95, 119, 123, 128, 151, 155] 5 = some f5 := by kernel_rfl
theorem f5_n : argsOK Go.Proofs.Tryz.prog 5 2 = true := by kernel_rfl
noncomputable def f6 : AFunc := by
 refine (fun (_ : Cz zclL zvlL zklL zrlL Go.Proofs.Tryz.prog 0 [0, 2, 3, 5, 6, 8, 9, 10, 11, 12, 13, 14, 15, 17, 18, 69] 6 ?a) => ?a) ?h
 case h =>
 intro zc zv zk zr hc hv hk hr
 conv => lhs; cbv; try simp only [hc, hv, hk, hr, zclL, zvlL, zklL, zrlL]
theorem f6_ok : compF Go.Proofs.Tryz.prog 0 [0, 2, 3, 5, 6, 8, 9, 10, 11, 12, 13, 14, 15, 17, 18, 69] 6 = some f6 := by kernel_rfl
theorem f6_n : argsOK Go.Proofs.Tryz.prog 6 0 = true := by kernel_rfl
noncomputable def f37 : AFunc := by
 refine (fun (_ : Cz zclL zvlL zklL zrlL Go.Proofs.Tryz.prog 0 [0, 2, 3, 4, 7, 11, 33] 37 ?a) => ?a) ?h
 case h =>
 intro zc zv zk zr hc hv hk hr
 conv => lhs; cbv; try simp only [hc, hv, hk, hr, zclL, zvlL, zklL, zrlL]
theorem f37_ok : compF Go.Proofs.Tryz.prog 0 [0, 2, 3, 4, 7, 11, 33] 37 = some f37 := by kernel_rfl
theorem f37_n : argsOK Go.Proofs.Tryz.prog 37 1 = true := by kernel_rfl
noncomputable def f38 : AFunc := by
 refine (fun (_ : Cz zclL zvlL zklL zrlL Go.Proofs.Tryz.prog 0 [0, 1, 2, 3, 4, 5, 6, 7, 8, 9, 10, 12, 19] 38 ?a) => ?a) ?h
 case h =>
 intro zc zv zk zr hc hv hk hr
 conv => lhs; cbv; try simp only [hc, hv, hk, hr, zclL, zvlL, zklL, zrlL]
theorem f38_ok : compF Go.Proofs.Tryz.prog 0 [0, 1, 2, 3, 4, 5, 6, 7, 8, 9, 10, 12, 19] 38 = some f38 := by kernel_rfl
theorem f38_n : argsOK Go.Proofs.Tryz.prog 38 0 = true := by kernel_rfl
noncomputable def f39 : AFunc := by
 refine (fun (_ : Cz zclL zvlL zklL zrlL Go.Proofs.Tryz.prog 0 [0, 2, 3, 4, 5, 12] 39 ?a) => ?a) ?h
 case h =>
 intro zc zv zk zr hc hv hk hr
 conv => lhs; cbv; try simp only [hc, hv, hk, hr, zclL, zvlL, zklL, zrlL]
theorem f39_ok : compF Go.Proofs.Tryz.prog 0 [0, 2, 3, 4, 5, 12] 39 = some f39 := by kernel_rfl
theorem f39_n : argsOK Go.Proofs.Tryz.prog 39 1 = true := by kernel_rfl
noncomputable def f40 : AFunc := by
 refine (fun (_ : Cz zclL zvlL zklL zrlL Go.Proofs.Tryz.prog 0 [0, 2, 3, 4, 5, 12] 40 ?a) => ?a) ?h
 case h =>
 intro zc zv zk zr hc hv hk hr
 conv => lhs; cbv; try simp only [hc, hv, hk, hr, zclL, zvlL, zklL, zrlL]
theorem f40_ok : compF Go.Proofs.Tryz.prog 0 [0, 2, 3, 4, 5, 12] 40 = some f40 := by kernel_rfl
theorem f40_n : argsOK Go.Proofs.Tryz.prog 40 1 = true := by kernel_rfl
noncomputable def f41 : AFunc := by
 refine (fun (_ : Cz zclL zvlL zklL zrlL Go.Proofs.Tryz.prog 0 [0, 1, 4, 5, 6, 7, 8, 9, 35, 42, 65] 41 ?a) => ?a) ?h
 case h =>
 intro zc zv zk zr hc hv hk hr
 conv => lhs; cbv; try simp only [hc, hv, hk, hr, zclL, zvlL, zklL, zrlL]
theorem f41_ok : compF Go.Proofs.Tryz.prog 0 [0, 1, 4, 5, 6, 7, 8, 9, 35, 42, 65] 41 = some f41 := by kernel_rfl
theorem f41_n : argsOK Go.Proofs.Tryz.prog 41 2 = true := by kernel_rfl
noncomputable def f42 : AFunc := by
 refine (fun (_ : Cz zclL zvlL zklL zrlL Go.Proofs.Tryz.prog 0 [0, 1, 4, 5, 6, 7, 8, 9, 10, 11, 12, 13, 14, 15, 16, 17, 18, 20, 32, 55, 59, 81, 101, 105] 42 ?a) => ?a) ?h
 case h =>
 intro zc zv zk zr hc hv hk hr
 conv => lhs; cbv; try simp only [hc, hv, hk, hr, zclL, zvlL, zklL, zrlL]
theorem f42_ok : compF Go.Proofs.Tryz.prog 0 [0, 1, 4, 5, 6, 7, 8, 9, 10, 11, 12, 13, 14, 15, 16, 17, 18, 20, 32, 55, 59, 81, 101, 105] 42 = some f42 := by kernel_rfl
theorem f42_n : argsOK Go.Proofs.Tryz.prog 42 2 = true := by kernel_rfl
end Go.AM.F

set_option maxRecDepth 100000
set_option maxHeartbeats 0
namespace Go.AM.F
def zclM : TypeId → List Value
 | 70 => [(.int .u8 0), (.slice none 0 0), (.int .i64 0), (.slice none 0 0)]
 | _ => []
def zvlM : TypeId → Value
 | _ => undef
def zklM : TypeId → List Nat
 | _ => []
def zrlM : Nat → TypeId → List Value
 | _, _ => []
noncomputable def f43 : AFunc := by
 refine (fun (_ : Cz zclM zvlM zklM zrlM Go.Proofs.Tryz.prog 0 [0, 1, 2] 43 ?a) => ?a) ?h
 case h =>
 intro zc zv zk zr hc hv hk hr
 conv => lhs; cbv; try simp only [hc, hv, hk, hr, zclM, zvlM, zklM, zrlM]
theorem f43_ok : compF Go.Proofs.Tryz.prog 0 [0, 1, 2] 43 = some f43 := by kernel_rfl
theorem f43_n : argsOK Go.Proofs.Tryz.prog 43 1 = true := by kernel_rfl
noncomputable def f44 : AFunc := by
 refine (fun (_ : Cz zclM zvlM zklM zrlM Go.Proofs.Tryz.prog 0 [0, 2, 11] 44 ?a) => ?a) ?h
 case h =>
 intro zc zv zk zr hc hv hk hr
 conv => lhs; cbv; try simp only [hc, hv, hk, hr, zclM, zvlM, zklM, zrlM]
theorem f44_ok : compF Go.Proofs.Tryz.prog 0 [0, 2, 11] 44 = some f44 := by kernel_rfl
theorem f44_n : argsOK Go.Proofs.Tryz.prog 44 1 = true := by kernel_rfl
noncomputable def f45 : AFunc := by
 refine (fun (_ : Cz zclM zvlM zklM zrlM Go.Proofs.Tryz.prog 0 [0, 1, 2, 3, 4] 45 ?a) => ?a) ?h
 case h =>
 intro zc zv zk zr hc hv hk hr
 conv => lhs; cbv; try simp only [hc, hv, hk, hr, zclM, zvlM, zklM, zrlM]
theorem f45_ok : compF Go.Proofs.Tryz.prog 0 [0, 1, 2, 3, 4] 45 = some f45 := by kernel_rfl
theorem f45_n : argsOK Go.Proofs.Tryz.prog 45 2 = true := by kernel_rfl
noncomputable def f46 : AFunc := by
 refine (fun (_ : Cz zclM zvlM zklM zrlM Go.Proofs.Tryz.prog 0 [0, 1, 4, 5, 13, 23, 34, 47] 46 ?a) => ?a) ?h
 case h =>
 intro zc zv zk zr hc hv hk hr
 conv => lhs; cbv; try simp only [hc, hv, hk, hr, zclM, zvlM, zklM, zrlM]
theorem f46_ok : compF Go.Proofs.Tryz.prog 0 [0, 1, 4, 5, 13, 23, 34, 47] 46 = some f46 := by kernel_rfl
theorem f46_n : argsOK Go.Proofs.Tryz.prog 46 2 = true := by kernel_rfl
noncomputable def f47 : AFunc := by
 refine (fun (_ : Cz zclM zvlM zklM zrlM Go.Proofs.Tryz.prog 0 [0, 2, 3, 4, 5, 6, 13] 47 ?a) => ?a) ?h
 case h =>
 intro zc zv zk zr hc hv hk hr
 conv => lhs; cbv; try simp only [hc, hv, hk, hr, zclM, zvlM, zklM, zrlM]
theorem f47_ok : compF Go.Proofs.Tryz.prog 0 [0, 2, 3, 4, 5, 6, 13] 47 = some f47 := by kernel_rfl
theorem f47_n : argsOK Go.Proofs.Tryz.prog 47 1 = true := by kernel_rfl
noncomputable def f48 : AFunc := by
 refine (fun (_ : Cz zclM zvlM zklM zrlM Go.Proofs.Tryz.prog 0 [0, 1, 4, 5, 26] 48 ?a) => ?a) ?h
 case h =>
 intro zc zv zk zr hc hv hk hr
 conv => lhs; cbv; try simp only [hc, hv, hk, hr, zclM, zvlM, zklM, zrlM]
theorem f48_ok : compF Go.Proofs.Tryz.prog 0 [0, 1, 4, 5, 26] 48 = some f48 := by kernel_rfl
theorem f48_n : argsOK Go.Proofs.Tryz.prog 48 2 = true := by kernel_rfl
noncomputable def f49 : AFunc := by
 refine (fun (_ : Cz zclM zvlM zklM zrlM Go.Proofs.Tryz.prog 0 [0, 2, 4] 49 ?a) => ?a) ?h
 case h =>
 intro zc zv zk zr hc hv hk hr
 conv => lhs; cbv; try simp only [hc, hv, hk, hr, zclM, zvlM, zklM, zrlM]
theorem f49_ok : compF Go.Proofs.Tryz.prog 0 [0, 2, 4] 49 = some f49 := by kernel_rfl
theorem f49_n : argsOK Go.Proofs.Tryz.prog 49 1 = true := by kernel_rfl
noncomputable def f50 : AFunc := by
 refine (fun (_ : Cz zclM zvlM zklM zrlM Go.Proofs.Tryz.prog 0 [0, 1, 2, 6, 7, 8, 9, 10, 11, 12, 13, 14, 15, 16, 18, 19, 20, 27, 42, 46, 50, 66, 70, 87, 89, 100, 150] 50 ?a) => ?a) ?h
 case h =>
 intro zc zv zk zr hc hv hk hr
 conv => lhs; cbv; try simp only [hc, hv, hk, hr, zclM, zvlM, zklM, zrlM]
theorem f50_ok : compF Go.Proofs.Tryz.prog 0 [0, 1, 2, 6, 7, 8, 9, 10, 11, 12, 13, 14, 15, 16, 18, 19, 20, 27, 42, 46, 50, 66, 70, 87, 89, 100, 150] 50 = some f50 := by kernel_rfl
theorem f50_n : argsOK Go.Proofs.Tryz.prog 50 3 = true := by kernel_rfl
noncomputable def f97 : AFunc := by
 refine (fun (_ : Cz zclM zvlM zklM zrlM Go.Proofs.Tryz.prog 0 [0, 1, 4, 5, 19] 97 ?a) => ?a) ?h
 case h =>
 intro zc zv zk zr hc hv hk hr
 conv => lhs; cbv; try simp only [hc, hv, hk, hr, zclM, zvlM, zklM, zrlM]
theorem f97_ok : compF Go.Proofs.Tryz.prog 0 [0, 1, 4, 5, 19] 97 = some f97 := by kernel_rfl
theorem f97_n : argsOK Go.Proofs.Tryz.prog 97 2 = true := by kernel_rfl
noncomputable def f98 : AFunc := by
 refine (fun (_ : Cz zclM zvlM zklM zrlM Go.Proofs.Tryz.prog 0 [0, 2] 98 ?a) => ?a) ?h
 case h =>
 intro zc zv zk zr hc hv hk hr
 conv => lhs; cbv; try simp only [hc, hv, hk, hr, zclM, zvlM, zklM, zrlM]
theorem f98_ok : compF Go.Proofs.Tryz.prog 0 [0, 2] 98 = some f98 := by kernel_rfl
theorem f98_n : argsOK Go.Proofs.Tryz.prog 98 1 = true := by kernel_rfl
noncomputable def f103 : AFunc := by
 refine (fun (_ : Cz zclM zvlM zklM zrlM Go.Proofs.Tryz.prog 0 [0, 2] 103 ?a) => ?a) ?h
 case h =>
 intro zc zv zk zr hc hv hk hr
 conv => lhs; cbv; try simp only [hc, hv, hk, hr, zclM, zvlM, zklM, zrlM]
theorem f103_ok : compF Go.Proofs.Tryz.prog 0 [0, 2] 103 = some f103 := by kernel_rfl
theorem f103_n : argsOK Go.Proofs.Tryz.prog 103 1 = true := by kernel_rfl
end Go.AM.F

set_option maxRecDepth 100000
set_option maxHeartbeats 0
namespace Go.AM.TCk
open Go.Proofs Go.AM.F Go.AM.Ev
noncomputable def RT : List RDef := [⟨133, [0, 2, 3, 4, 5, 6, 7, 9, 10, 11, 12, 13, 14, 15, 18, 22, 28, 29, 62, 80, 82, 89, 93, 94, 95, 111, 125, 126, 131], #[126], rfA Go.Proofs.Tryz.prog 13 0, rfB Go.Proofs.Tryz.prog 13 0, f13r0a, f13r0b⟩,
 ⟨37, [0, 1, 3, 4, 5, 6, 7, 9, 14, 27, 28, 29, 33], #[28, 29], rfA Go.Proofs.Tryz.prog 67 0, rfB Go.Proofs.Tryz.prog 67 0, f67r0a, f67r0b⟩]
theorem RT_ok : RTok Go.Proofs.Tryz.prog 0 RT := by
 intro d hd
 simp only [RT, List.mem_cons, List.not_mem_nil, or_false] at hd
 rcases hd with rfl | rfl
 · exact ⟨f13r0a_ok, f13r0b_ok, f13r0_n, by decide, by kernel_rfl, by kernel_rfl⟩
 · exact ⟨f67r0a_ok, f67r0b_ok, f67r0_n, by decide, by kernel_rfl, by kernel_rfl⟩
noncomputable def e5 : EF := ⟨2, f5.sl, f5.res, simpC f5.body⟩
theorem e5_ok : EFok RT Go.Proofs.Tryz.prog 0 5 e5 := ok_sf f5_ok rfl f5_n
noncomputable def e6 : EF := ⟨0, f6.sl, f6.res, simpC f6.body⟩
theorem e6_ok : EFok RT Go.Proofs.Tryz.prog 0 6 e6 := ok_sf f6_ok rfl f6_n
noncomputable def e11 : EF := ⟨1, f11.sl, f11.res, simpC f11.body⟩
theorem e11_ok : EFok RT Go.Proofs.Tryz.prog 0 11 e11 := ok_sf f11_ok rfl f11_n
noncomputable def e12 : EF := ⟨1, f12.sl, f12.res, simpC f12.body⟩
theorem e12_ok : EFok RT Go.Proofs.Tryz.prog 0 12 e12 := ok_sf f12_ok rfl f12_n
noncomputable def e13 : EF := ⟨1, f13.sl, f13.res, encC f13.body 0⟩
theorem e13_ok : EFok RT Go.Proofs.Tryz.prog 0 13 e13 := ok_rf f13_ok rfl f13_n (by kernel_rfl)
noncomputable def e14 : EF := ⟨1, f14.sl, f14.res, simpC f14.body⟩
theorem e14_ok : EFok RT Go.Proofs.Tryz.prog 0 14 e14 := ok_sf f14_ok rfl f14_n
noncomputable def e17 : EF := ⟨2, f17.sl, f17.res, simpC f17.body⟩
theorem e17_ok : EFok RT Go.Proofs.Tryz.prog 0 17 e17 := ok_sf f17_ok rfl f17_n
noncomputable def e18 : EF := ⟨2, f18.sl, f18.res, simpC f18.body⟩
theorem e18_ok : EFok RT Go.Proofs.Tryz.prog 0 18 e18 := ok_sf f18_ok rfl f18_n
noncomputable def e19 : EF := ⟨1, f19.sl, f19.res, simpC f19.body⟩
theorem e19_ok : EFok RT Go.Proofs.Tryz.prog 0 19 e19 := ok_sf f19_ok rfl f19_n
noncomputable def e20 : EF := ⟨1, f20.sl, f20.res, simpC f20.body⟩
theorem e20_ok : EFok RT Go.Proofs.Tryz.prog 0 20 e20 := ok_sf f20_ok rfl f20_n
noncomputable def e21 : EF := ⟨2, f21.sl, f21.res, simpC f21.body⟩
theorem e21_ok : EFok RT Go.Proofs.Tryz.prog 0 21 e21 := ok_sf f21_ok rfl f21_n
noncomputable def e22 : EF := ⟨2, f22.sl, f22.res, simpC f22.body⟩
theorem e22_ok : EFok RT Go.Proofs.Tryz.prog 0 22 e22 := ok_sf f22_ok rfl f22_n
noncomputable def e23 : EF := ⟨3, f23.sl, f23.res, simpC f23.body⟩
theorem e23_ok : EFok RT Go.Proofs.Tryz.prog 0 23 e23 := ok_sf f23_ok rfl f23_n
noncomputable def e24 : EF := ⟨3, f24.sl, f24.res, simpC f24.body⟩
theorem e24_ok : EFok RT Go.Proofs.Tryz.prog 0 24 e24 := ok_sf f24_ok rfl f24_n
noncomputable def e26 : EF := ⟨2, f26.sl, f26.res, simpC f26.body⟩
theorem e26_ok : EFok RT Go.Proofs.Tryz.prog 0 26 e26 := ok_sf f26_ok rfl f26_n
noncomputable def e27 : EF := ⟨1, f27.sl, f27.res, simpC f27.body⟩
theorem e27_ok : EFok RT Go.Proofs.Tryz.prog 0 27 e27 := ok_sf f27_ok rfl f27_n
noncomputable def e28 : EF := ⟨1, f28.sl, f28.res, simpC f28.body⟩
theorem e28_ok : EFok RT Go.Proofs.Tryz.prog 0 28 e28 := ok_sf f28_ok rfl f28_n
noncomputable def e29 : EF := ⟨1, f29.sl, f29.res, simpC f29.body⟩
theorem e29_ok : EFok RT Go.Proofs.Tryz.prog 0 29 e29 := ok_sf f29_ok rfl f29_n
noncomputable def e30 : EF := ⟨1, f30.sl, f30.res, simpC f30.body⟩
theorem e30_ok : EFok RT Go.Proofs.Tryz.prog 0 30 e30 := ok_sf f30_ok rfl f30_n
noncomputable def e31 : EF := ⟨2, f31.sl, f31.res, simpC f31.body⟩
theorem e31_ok : EFok RT Go.Proofs.Tryz.prog 0 31 e31 := ok_sf f31_ok rfl f31_n
noncomputable def e32 : EF := ⟨2, f32.sl, f32.res, simpC f32.body⟩
theorem e32_ok : EFok RT Go.Proofs.Tryz.prog 0 32 e32 := ok_sf f32_ok rfl f32_n
noncomputable def e33 : EF := ⟨2, f33.sl, f33.res, simpC f33.body⟩
theorem e33_ok : EFok RT Go.Proofs.Tryz.prog 0 33 e33 := ok_sf f33_ok rfl f33_n
noncomputable def e34 : EF := ⟨2, f34.sl, f34.res, simpC f34.body⟩
theorem e34_ok : EFok RT Go.Proofs.Tryz.prog 0 34 e34 := ok_sf f34_ok rfl f34_n
noncomputable def e37 : EF := ⟨1, f37.sl, f37.res, simpC f37.body⟩
theorem e37_ok : EFok RT Go.Proofs.Tryz.prog 0 37 e37 := ok_sf f37_ok rfl f37_n
noncomputable def e38 : EF := ⟨0, f38.sl, f38.res, simpC f38.body⟩
theorem e38_ok : EFok RT Go.Proofs.Tryz.prog 0 38 e38 := ok_sf f38_ok rfl f38_n
noncomputable def e39 : EF := ⟨1, f39.sl, f39.res, simpC f39.body⟩
theorem e39_ok : EFok RT Go.Proofs.Tryz.prog 0 39 e39 := ok_sf f39_ok rfl f39_n
noncomputable def e40 : EF := ⟨1, f40.sl, f40.res, simpC f40.body⟩
theorem e40_ok : EFok RT Go.Proofs.Tryz.prog 0 40 e40 := ok_sf f40_ok rfl f40_n
noncomputable def e41 : EF := ⟨2, f41.sl, f41.res, simpC f41.body⟩
theorem e41_ok : EFok RT Go.Proofs.Tryz.prog 0 41 e41 := ok_sf f41_ok rfl f41_n
noncomputable def e42 : EF := ⟨2, f42.sl, f42.res, simpC f42.body⟩
theorem e42_ok : EFok RT Go.Proofs.Tryz.prog 0 42 e42 := ok_sf f42_ok rfl f42_n
noncomputable def e43 : EF := ⟨1, f43.sl, f43.res, simpC f43.body⟩
theorem e43_ok : EFok RT Go.Proofs.Tryz.prog 0 43 e43 := ok_sf f43_ok rfl f43_n
noncomputable def e44 : EF := ⟨1, f44.sl, f44.res, simpC f44.body⟩
theorem e44_ok : EFok RT Go.Proofs.Tryz.prog 0 44 e44 := ok_sf f44_ok rfl f44_n
noncomputable def e45 : EF := ⟨2, f45.sl, f45.res, simpC f45.body⟩
theorem e45_ok : EFok RT Go.Proofs.Tryz.prog 0 45 e45 := ok_sf f45_ok rfl f45_n
noncomputable def e46 : EF := ⟨2, f46.sl, f46.res, simpC f46.body⟩
theorem e46_ok : EFok RT Go.Proofs.Tryz.prog 0 46 e46 := ok_sf f46_ok rfl f46_n
noncomputable def e47 : EF := ⟨1, f47.sl, f47.res, simpC f47.body⟩
theorem e47_ok : EFok RT Go.Proofs.Tryz.prog 0 47 e47 := ok_sf f47_ok rfl f47_n
noncomputable def e48 : EF := ⟨2, f48.sl, f48.res, simpC f48.body⟩
theorem e48_ok : EFok RT Go.Proofs.Tryz.prog 0 48 e48 := ok_sf f48_ok rfl f48_n
noncomputable def e49 : EF := ⟨1, f49.sl, f49.res, simpC f49.body⟩
theorem e49_ok : EFok RT Go.Proofs.Tryz.prog 0 49 e49 := ok_sf f49_ok rfl f49_n
noncomputable def e50 : EF := ⟨3, f50.sl, f50.res, simpC f50.body⟩
theorem e50_ok : EFok RT Go.Proofs.Tryz.prog 0 50 e50 := ok_sf f50_ok rfl f50_n
noncomputable def e64 : EF := ⟨1, f64.sl, f64.res, simpC f64.body⟩
theorem e64_ok : EFok RT Go.Proofs.Tryz.prog 0 64 e64 := ok_sf f64_ok rfl f64_n
noncomputable def e65 : EF := ⟨1, f65.sl, f65.res, simpC f65.body⟩
theorem e65_ok : EFok RT Go.Proofs.Tryz.prog 0 65 e65 := ok_sf f65_ok rfl f65_n
noncomputable def e66 : EF := ⟨1, f66.sl, f66.res, simpC f66.body⟩
theorem e66_ok : EFok RT Go.Proofs.Tryz.prog 0 66 e66 := ok_sf f66_ok rfl f66_n
noncomputable def e67 : EF := ⟨2, f67.sl, f67.res, encC f67.body 1⟩
theorem e67_ok : EFok RT Go.Proofs.Tryz.prog 0 67 e67 := ok_rf f67_ok rfl f67_n (by kernel_rfl)
noncomputable def e68 : EF := ⟨2, f68.sl, f68.res, simpC f68.body⟩
theorem e68_ok : EFok RT Go.Proofs.Tryz.prog 0 68 e68 := ok_sf f68_ok rfl f68_n
noncomputable def e69 : EF := ⟨1, f69.sl, f69.res, simpC f69.body⟩
theorem e69_ok : EFok RT Go.Proofs.Tryz.prog 0 69 e69 := ok_sf f69_ok rfl f69_n
noncomputable def e70 : EF := ⟨3, f70.sl, f70.res, simpC f70.body⟩
theorem e70_ok : EFok RT Go.Proofs.Tryz.prog 0 70 e70 := ok_sf f70_ok rfl f70_n
noncomputable def e71 : EF := ⟨2, f71.sl, f71.res, simpC f71.body⟩
theorem e71_ok : EFok RT Go.Proofs.Tryz.prog 0 71 e71 := ok_sf f71_ok rfl f71_n
noncomputable def e72 : EF := ⟨2, f72.sl, f72.res, simpC f72.body⟩
theorem e72_ok : EFok RT Go.Proofs.Tryz.prog 0 72 e72 := ok_sf f72_ok rfl f72_n
noncomputable def e73 : EF := ⟨2, f73.sl, f73.res, simpC f73.body⟩
theorem e73_ok : EFok RT Go.Proofs.Tryz.prog 0 73 e73 := ok_sf f73_ok rfl f73_n
noncomputable def e74 : EF := ⟨1, f74.sl, f74.res, simpC f74.body⟩
theorem e74_ok : EFok RT Go.Proofs.Tryz.prog 0 74 e74 := ok_sf f74_ok rfl f74_n
noncomputable def e75 : EF := ⟨1, f75.sl, f75.res, simpC f75.body⟩
theorem e75_ok : EFok RT Go.Proofs.Tryz.prog 0 75 e75 := ok_sf f75_ok rfl f75_n
noncomputable def e76 : EF := ⟨1, f76.sl, f76.res, simpC f76.body⟩
theorem e76_ok : EFok RT Go.Proofs.Tryz.prog 0 76 e76 := ok_sf f76_ok rfl f76_n
noncomputable def e77 : EF := ⟨1, f77.sl, f77.res, simpC f77.body⟩
theorem e77_ok : EFok RT Go.Proofs.Tryz.prog 0 77 e77 := ok_sf f77_ok rfl f77_n
noncomputable def e78 : EF := ⟨2, f78.sl, f78.res, simpC f78.body⟩
theorem e78_ok : EFok RT Go.Proofs.Tryz.prog 0 78 e78 := ok_sf f78_ok rfl f78_n
noncomputable def e79 : EF := ⟨1, f79.sl, f79.res, simpC f79.body⟩
theorem e79_ok : EFok RT Go.Proofs.Tryz.prog 0 79 e79 := ok_sf f79_ok rfl f79_n
noncomputable def e80 : EF := ⟨1, f80.sl, f80.res, simpC f80.body⟩
theorem e80_ok : EFok RT Go.Proofs.Tryz.prog 0 80 e80 := ok_sf f80_ok rfl f80_n
noncomputable def e81 : EF := ⟨1, f81.sl, f81.res, simpC f81.body⟩
theorem e81_ok : EFok RT Go.Proofs.Tryz.prog 0 81 e81 := ok_sf f81_ok rfl f81_n
noncomputable def e82 : EF := ⟨1, f82.sl, f82.res, simpC f82.body⟩
theorem e82_ok : EFok RT Go.Proofs.Tryz.prog 0 82 e82 := ok_sf f82_ok rfl f82_n
noncomputable def e83 : EF := ⟨2, f83.sl, f83.res, simpC f83.body⟩
theorem e83_ok : EFok RT Go.Proofs.Tryz.prog 0 83 e83 := ok_sf f83_ok rfl f83_n
noncomputable def e84 : EF := ⟨2, f84.sl, f84.res, simpC f84.body⟩
theorem e84_ok : EFok RT Go.Proofs.Tryz.prog 0 84 e84 := ok_sf f84_ok rfl f84_n
noncomputable def e85 : EF := ⟨0, f85.sl, f85.res, simpC f85.body⟩
theorem e85_ok : EFok RT Go.Proofs.Tryz.prog 0 85 e85 := ok_sf f85_ok rfl f85_n
noncomputable def e86 : EF := ⟨2, f86.sl, f86.res, simpC f86.body⟩
theorem e86_ok : EFok RT Go.Proofs.Tryz.prog 0 86 e86 := ok_sf f86_ok rfl f86_n
noncomputable def e87 : EF := ⟨1, f87.sl, f87.res, simpC f87.body⟩
theorem e87_ok : EFok RT Go.Proofs.Tryz.prog 0 87 e87 := ok_sf f87_ok rfl f87_n
noncomputable def e89 : EF := ⟨2, f89.sl, f89.res, simpC f89.body⟩
theorem e89_ok : EFok RT Go.Proofs.Tryz.prog 0 89 e89 := ok_sf f89_ok rfl f89_n
noncomputable def e90 : EF := ⟨2, f90.sl, f90.res, simpC f90.body⟩
theorem e90_ok : EFok RT Go.Proofs.Tryz.prog 0 90 e90 := ok_sf f90_ok rfl f90_n
noncomputable def e91 : EF := ⟨1, f91.sl, f91.res, simpC f91.body⟩
theorem e91_ok : EFok RT Go.Proofs.Tryz.prog 0 91 e91 := ok_sf f91_ok rfl f91_n
noncomputable def e92 : EF := ⟨2, f92.sl, f92.res, simpC f92.body⟩
theorem e92_ok : EFok RT Go.Proofs.Tryz.prog 0 92 e92 := ok_sf f92_ok rfl f92_n
noncomputable def e93 : EF := ⟨2, f93.sl, f93.res, simpC f93.body⟩
theorem e93_ok : EFok RT Go.Proofs.Tryz.prog 0 93 e93 := ok_sf f93_ok rfl f93_n
noncomputable def e94 : EF := ⟨2, f94.sl, f94.res, simpC f94.body⟩
theorem e94_ok : EFok RT Go.Proofs.Tryz.prog 0 94 e94 := ok_sf f94_ok rfl f94_n
noncomputable def e96 : EF := ⟨1, f96.sl, f96.res, simpC f96.body⟩
theorem e96_ok : EFok RT Go.Proofs.Tryz.prog 0 96 e96 := ok_sf f96_ok rfl f96_n
noncomputable def e97 : EF := ⟨2, f97.sl, f97.res, simpC f97.body⟩
theorem e97_ok : EFok RT Go.Proofs.Tryz.prog 0 97 e97 := ok_sf f97_ok rfl f97_n
noncomputable def e98 : EF := ⟨1, f98.sl, f98.res, simpC f98.body⟩
theorem e98_ok : EFok RT Go.Proofs.Tryz.prog 0 98 e98 := ok_sf f98_ok rfl f98_n
noncomputable def e103 : EF := ⟨1, f103.sl, f103.res, simpC f103.body⟩
theorem e103_ok : EFok RT Go.Proofs.Tryz.prog 0 103 e103 := ok_sf f103_ok rfl f103_n
noncomputable def e110 : EF := ⟨1, f110.sl, f110.res, simpC f110.body⟩
theorem e110_ok : EFok RT Go.Proofs.Tryz.prog 0 110 e110 := ok_sf f110_ok rfl f110_n
noncomputable def e114 : EF := ⟨1, f114.sl, f114.res, simpC f114.body⟩
theorem e114_ok : EFok RT Go.Proofs.Tryz.prog 0 114 e114 := ok_sf f114_ok rfl f114_n
noncomputable def e115 : EF := ⟨1, f115.sl, f115.res, simpC f115.body⟩
theorem e115_ok : EFok RT Go.Proofs.Tryz.prog 0 115 e115 := ok_sf f115_ok rfl f115_n
noncomputable def e116 : EF := ⟨1, f116.sl, f116.res, simpC f116.body⟩
theorem e116_ok : EFok RT Go.Proofs.Tryz.prog 0 116 e116 := ok_sf f116_ok rfl f116_n
noncomputable def e117 : EF := ⟨1, f117.sl, f117.res, simpC f117.body⟩
theorem e117_ok : EFok RT Go.Proofs.Tryz.prog 0 117 e117 := ok_sf f117_ok rfl f117_n
noncomputable def e118 : EF := ⟨1, f118.sl, f118.res, simpC f118.body⟩
theorem e118_ok : EFok RT Go.Proofs.Tryz.prog 0 118 e118 := ok_sf f118_ok rfl f118_n
noncomputable def e119 : EF := ⟨2, f119.sl, f119.res, simpC f119.body⟩
theorem e119_ok : EFok RT Go.Proofs.Tryz.prog 0 119 e119 := ok_sf f119_ok rfl f119_n
noncomputable def e120 : EF := ⟨2, f120.sl, f120.res, simpC f120.body⟩
theorem e120_ok : EFok RT Go.Proofs.Tryz.prog 0 120 e120 := ok_sf f120_ok rfl f120_n
noncomputable def e121 : EF := ⟨1, f121.sl, f121.res, simpC f121.body⟩
theorem e121_ok : EFok RT Go.Proofs.Tryz.prog 0 121 e121 := ok_sf f121_ok rfl f121_n
noncomputable def e122 : EF := ⟨2, f122.sl, f122.res, simpC f122.body⟩
theorem e122_ok : EFok RT Go.Proofs.Tryz.prog 0 122 e122 := ok_sf f122_ok rfl f122_n
noncomputable def e123 : EF := ⟨1, f123.sl, f123.res, simpC f123.body⟩
theorem e123_ok : EFok RT Go.Proofs.Tryz.prog 0 123 e123 := ok_sf f123_ok rfl f123_n
noncomputable def e124 : EF := ⟨3, f124.sl, f124.res, simpC f124.body⟩
theorem e124_ok : EFok RT Go.Proofs.Tryz.prog 0 124 e124 := ok_sf f124_ok rfl f124_n
noncomputable def e126 : EF := ⟨1, f126.sl, f126.res, simpC f126.body⟩
theorem e126_ok : EFok RT Go.Proofs.Tryz.prog 0 126 e126 := ok_sf f126_ok rfl f126_n
noncomputable def e141 : EF := ⟨2, f141.sl, f141.res, simpC f141.body⟩
theorem e141_ok : EFok RT Go.Proofs.Tryz.prog 0 141 e141 := ok_sf f141_ok rfl f141_n
noncomputable def e147 : EF := ⟨2, f147.sl, f147.res, simpC f147.body⟩
theorem e147_ok : EFok RT Go.Proofs.Tryz.prog 0 147 e147 := ok_sf f147_ok rfl f147_n
noncomputable def e148 : EF := ⟨2, f148.sl, f148.res, simpC f148.body⟩
theorem e148_ok : EFok RT Go.Proofs.Tryz.prog 0 148 e148 := ok_sf f148_ok rfl f148_n
noncomputable def e149 : EF := ⟨2, f149.sl, f149.res, simpC f149.body⟩
theorem e149_ok : EFok RT Go.Proofs.Tryz.prog 0 149 e149 := ok_sf f149_ok rfl f149_n
noncomputable def e150 : EF := ⟨2, f150.sl, f150.res, simpC f150.body⟩
theorem e150_ok : EFok RT Go.Proofs.Tryz.prog 0 150 e150 := ok_sf f150_ok rfl f150_n
noncomputable def e151 : EF := ⟨2, f151.sl, f151.res, simpC f151.body⟩
theorem e151_ok : EFok RT Go.Proofs.Tryz.prog 0 151 e151 := ok_sf f151_ok rfl f151_n
noncomputable def e152 : EF := ⟨2, f152.sl, f152.res, simpC f152.body⟩
theorem e152_ok : EFok RT Go.Proofs.Tryz.prog 0 152 e152 := ok_sf f152_ok rfl f152_n
noncomputable def e153 : EF := ⟨2, f153.sl, f153.res, simpC f153.body⟩
theorem e153_ok : EFok RT Go.Proofs.Tryz.prog 0 153 e153 := ok_sf f153_ok rfl f153_n
noncomputable def e155 : EF := ⟨1, f155.sl, f155.res, simpC f155.body⟩
theorem e155_ok : EFok RT Go.Proofs.Tryz.prog 0 155 e155 := ok_sf f155_ok rfl f155_n
noncomputable def e156 : EF := ⟨1, f156.sl, f156.res, simpC f156.body⟩
theorem e156_ok : EFok RT Go.Proofs.Tryz.prog 0 156 e156 := ok_sf f156_ok rfl f156_n
noncomputable def e164 : EF := ⟨2, f164.sl, f164.res, simpC f164.body⟩
theorem e164_ok : EFok RT Go.Proofs.Tryz.prog 0 164 e164 := ok_sf f164_ok rfl f164_n
noncomputable def e165 : EF := ⟨2, f165.sl, f165.res, simpC f165.body⟩
theorem e165_ok : EFok RT Go.Proofs.Tryz.prog 0 165 e165 := ok_sf f165_ok rfl f165_n
noncomputable def e168 : EF := ⟨2, f168.sl, f168.res, simpC f168.body⟩
theorem e168_ok : EFok RT Go.Proofs.Tryz.prog 0 168 e168 := ok_sf f168_ok rfl f168_n
noncomputable def e172 : EF := ⟨1, f172.sl, f172.res, simpC f172.body⟩
theorem e172_ok : EFok RT Go.Proofs.Tryz.prog 0 172 e172 := ok_sf f172_ok rfl f172_n
noncomputable def tab : Ev.FT := (.node 78 e78 (.node 39 e39 (.node 23 e23 (.node 17 e17 (.node 12 e12 (.node 6 e6 (.node 5 e5 .leaf .leaf) (.node 11 e11 .leaf .leaf)) (.node 14 e14 (.node 13 e13 .leaf .leaf) .leaf)) (.node 20 e20 (.node 19 e19 (.node 18 e18 .leaf .leaf) .leaf) (.node 22 e22 (.node 21 e21 .leaf .leaf) .leaf))) (.node 31 e31 (.node 28 e28 (.node 26 e26 (.node 24 e24 .leaf .leaf) (.node 27 e27 .leaf .leaf)) (.node 30 e30 (.node 29 e29 .leaf .leaf) .leaf)) (.node 34 e34 (.node 33 e33 (.node 32 e32 .leaf .leaf) .leaf) (.node 38 e38 (.node 37 e37 .leaf .leaf) .leaf)))) (.node 65 e65 (.node 46 e46 (.node 43 e43 (.node 41 e41 (.node 40 e40 .leaf .leaf) (.node 42 e42 .leaf .leaf)) (.node 45 e45 (.node 44 e44 .leaf .leaf) .leaf)) (.node 49 e49 (.node 48 e48 (.node 47 e47 .leaf .leaf) .leaf) (.node 64 e64 (.node 50 e50 .leaf .leaf) .leaf))) (.node 72 e72 (.node 69 e69 (.node 67 e67 (.node 66 e66 .leaf .leaf) (.node 68 e68 .leaf .leaf)) (.node 71 e71 (.node 70 e70 .leaf .leaf) .leaf)) (.node 75 e75 (.node 74 e74 (.node 73 e73 .leaf .leaf) .leaf) (.node 77 e77 (.node 76 e76 .leaf .leaf) .leaf))))) (.node 117 e117 (.node 92 e92 (.node 85 e85 (.node 82 e82 (.node 80 e80 (.node 79 e79 .leaf .leaf) (.node 81 e81 .leaf .leaf)) (.node 84 e84 (.node 83 e83 .leaf .leaf) .leaf)) (.node 89 e89 (.node 87 e87 (.node 86 e86 .leaf .leaf) .leaf) (.node 91 e91 (.node 90 e90 .leaf .leaf) .leaf))) (.node 103 e103 (.node 97 e97 (.node 94 e94 (.node 93 e93 .leaf .leaf) (.node 96 e96 .leaf .leaf)) (.hookR 99 (Ev.toldH pfs) (.node 98 e98 .leaf .leaf) .leaf)) (.node 114 e114 (.hook 112 cntH (.node 110 e110 .leaf .leaf) .leaf) (.node 116 e116 (.node 115 e115 .leaf .leaf) .leaf)))) (.node 149 e149 (.node 124 e124 (.node 121 e121 (.node 119 e119 (.node 118 e118 .leaf .leaf) (.node 120 e120 .leaf .leaf)) (.node 123 e123 (.node 122 e122 .leaf .leaf) .leaf)) (.node 141 e141 (.node 126 e126 (.hook 125 sumH .leaf .leaf) .leaf) (.node 148 e148 (.node 147 e147 .leaf .leaf) .leaf))) (.node 155 e155 (.node 152 e152 (.node 151 e151 (.node 150 e150 .leaf .leaf) .leaf) (.hook 154 sumH (.node 153 e153 .leaf .leaf) .leaf)) (.node 165 e165 (.node 164 e164 (.node 156 e156 .leaf .leaf) .leaf) (.node 172 e172 (.node 168 e168 .leaf .leaf) .leaf))))))
theorem tab_ok : tab.ok RT Go.Proofs.Tryz.prog 0 := ⟨e78_ok, ⟨e39_ok, ⟨e23_ok, ⟨e17_ok, ⟨e12_ok, ⟨e6_ok, ⟨e5_ok, trivial, trivial⟩, ⟨e11_ok, trivial, trivial⟩⟩, ⟨e14_ok, ⟨e13_ok, trivial, trivial⟩, trivial⟩⟩, ⟨e20_ok, ⟨e19_ok, ⟨e18_ok, trivial, trivial⟩, trivial⟩, ⟨e22_ok, ⟨e21_ok, trivial, trivial⟩, trivial⟩⟩⟩, ⟨e31_ok, ⟨e28_ok, ⟨e26_ok, ⟨e24_ok, trivial, trivial⟩, ⟨e27_ok, trivial, trivial⟩⟩, ⟨e30_ok, ⟨e29_ok, trivial, trivial⟩, trivial⟩⟩, ⟨e34_ok, ⟨e33_ok, ⟨e32_ok, trivial, trivial⟩, trivial⟩, ⟨e38_ok, ⟨e37_ok, trivial, trivial⟩, trivial⟩⟩⟩⟩, ⟨e65_ok, ⟨e46_ok, ⟨e43_ok, ⟨e41_ok, ⟨e40_ok, trivial, trivial⟩, ⟨e42_ok, trivial, trivial⟩⟩, ⟨e45_ok, ⟨e44_ok, trivial, trivial⟩, trivial⟩⟩, ⟨e49_ok, ⟨e48_ok, ⟨e47_ok, trivial, trivial⟩, trivial⟩, ⟨e64_ok, ⟨e50_ok, trivial, trivial⟩, trivial⟩⟩⟩, ⟨e72_ok, ⟨e69_ok, ⟨e67_ok, ⟨e66_ok, trivial, trivial⟩, ⟨e68_ok, trivial, trivial⟩⟩, ⟨e71_ok, ⟨e70_ok, trivial, trivial⟩, trivial⟩⟩, ⟨e75_ok, ⟨e74_ok, ⟨e73_ok, trivial, trivial⟩, trivial⟩, ⟨e77_ok, ⟨e76_ok, trivial, trivial⟩, trivial⟩⟩⟩⟩⟩, ⟨e117_ok, ⟨e92_ok, ⟨e85_ok, ⟨e82_ok, ⟨e80_ok, ⟨e79_ok, trivial, trivial⟩, ⟨e81_ok, trivial, trivial⟩⟩, ⟨e84_ok, ⟨e83_ok, trivial, trivial⟩, trivial⟩⟩, ⟨e89_ok, ⟨e87_ok, ⟨e86_ok, trivial, trivial⟩, trivial⟩, ⟨e91_ok, ⟨e90_ok, trivial, trivial⟩, trivial⟩⟩⟩, ⟨e103_ok, ⟨e97_ok, ⟨e94_ok, ⟨e93_ok, trivial, trivial⟩, ⟨e96_ok, trivial, trivial⟩⟩, ⟨toldR, ⟨e98_ok, trivial, trivial⟩, trivial⟩⟩, ⟨e114_ok, ⟨cnt112, ⟨e110_ok, trivial, trivial⟩, trivial⟩, ⟨e116_ok, ⟨e115_ok, trivial, trivial⟩, trivial⟩⟩⟩⟩, ⟨e149_ok, ⟨e124_ok, ⟨e121_ok, ⟨e119_ok, ⟨e118_ok, trivial, trivial⟩, ⟨e120_ok, trivial, trivial⟩⟩, ⟨e123_ok, ⟨e122_ok, trivial, trivial⟩, trivial⟩⟩, ⟨e141_ok, ⟨e126_ok, ⟨sum125, trivial, trivial⟩, trivial⟩, ⟨e148_ok, ⟨e147_ok, trivial, trivial⟩, trivial⟩⟩⟩, ⟨e155_ok, ⟨e152_ok, ⟨e151_ok, ⟨e150_ok, trivial, trivial⟩, trivial⟩, ⟨sum154, ⟨e153_ok, trivial, trivial⟩, trivial⟩⟩, ⟨e165_ok, ⟨e164_ok, ⟨e156_ok, trivial, trivial⟩, trivial⟩, ⟨e172_ok, ⟨e168_ok, trivial, trivial⟩, trivial⟩⟩⟩⟩⟩⟩
end Go.AM.TCk
