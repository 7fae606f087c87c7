/- Part of the proof. -/
import Derived.Test.YtobhoblgkpphgaaGreatGPK03
import Derived.Laws.Externs
import Derived.RangeFuncLeaves
import Derived.WalkLawsBesides
import Derived.Defers
import Derived.Recover
set_option linter.unusedSimpArgs false
set_option linter.unusedVariables false
set_option linter.unusedSimpArgs false
set_option linter.unusedVariables false
namespace Go.AM
namespace Ev
variable {RT : List RDef}
structure YC where
  y : Nat → List Value → Nat → HT → CK → Bool
  i : TypeId → String → List Value → Nat → HT → CK → Bool
noncomputable def stepX (call : Caller) (yc : YC) (op : AOp AX) (fr tm : List Value) (n : Nat) (t : HT) (K : CK) : Bool := match op with
  | .mov x => evX x fr tm fun v => K v n t
  | .pick c a b => evX c fr tm fun c => evX a fr tm fun a => evX b fr tm fun b => stepT (.pick c a b) n t K
  | .new e s z => stepT (.new e s z) n t K
  | .box e s x => evX x fr tm fun x => stepT (.box e s x) n t K
  | .build z ps => evPs ps fr tm fun ps => stepT (.build z ps) n t K
  | .bslice e s m z ps => evPs ps fr tm fun ps => stepT (.bslice e s m z ps) n t K
  | .load1 x => evX x fr tm fun x => stepT (.load1 x) n t K
  | .loadn m x => evX x fr tm fun x => stepT (.loadn m x) n t K
  | .store1 a x => evX a fr tm fun a => evX x fr tm fun x => stepT (.store1 a x) n t K
  | .storen m a x => evX a fr tm fun a => evX x fr tm fun x => stepT (.storen m a x) n t K
  | .nilck x => evX x fr tm fun x => stepT (.nilck x) n t K
  | .bin op x y => evX x fr tm fun x => evX y fr tm fun y => binT op x y fun v => K v n t
  | .eqv k m x y => evX x fr tm fun x => evX y fr tm fun y => stepT (.eqv k m x y) n t K
  | .un op x => evX x fr tm fun x => stepT (.un op x) n t K
  | .i2i k x => evX x fr tm fun x => stepT (.i2i k x) n t K
  | .s2s x => evX x fr tm fun x => stepT (.s2s x) n t K
  | .s2b e x => evX x fr tm fun x => stepT (.s2b e x) n t K
  | .b2s x => evX x fr tm fun x => stepT (.b2s x) n t K
  | .iface u x => evX x fr tm fun x => K (.iface u x) n t
  | .mkfn fn xs ys => evXs xs fr tm fun xs => evXs ys fr tm fun ys => stepT (.mkfn fn xs ys) n t K
  | .mksl e s b z l c => evX l fr tm fun l => evX c fr tm fun c => stepT (.mksl e s b z l c) n t K
  | .slstr x lo hi => evX x fr tm fun x => evO lo fr tm fun lo => evO hi fr tm fun hi => stepT (.slstr x lo hi) n t K
  | .slsl s x lo hi mx => evX x fr tm fun x => evO lo fr tm fun lo => evO hi fr tm fun hi => evO mx fr tm fun mx => stepT (.slsl s x lo hi mx) n t K
  | .faddr o x => evX x fr tm fun x => stepT (.faddr o x) n t K
  | .fld1 o x => evX x fr tm fun x => stepT (.fld1 o x) n t K
  | .fldn o m x => evX x fr tm fun x => stepT (.fldn o m x) n t K
  | .iaddr s x i => evX x fr tm fun x => evX i fr tm fun i => stepT (.iaddr s x i) n t K
  | .idxs x i => evX x fr tm fun x => evX i fr tm fun i => stepT (.idxs x i) n t K
  | .assert u z ok x => evX x fr tm fun x => stepT (.assert u z ok x) n t K
  | .extract x i => evX x fr tm fun x => stepT (.extract x i) n t K
  | .len s x => evX x fr tm fun x => stepT (.len s x) n t K
  | .app e s b x y => evX x fr tm fun x => evX y fr tm fun y => stepT (.app e s b x y) n t K
  | .mark x => evX x fr tm fun x => stepT (.mark x) n t K
  | .iaddrp s m x i => evX x fr tm fun x => evX i fr tm fun i => stepT (.iaddrp s m x i) n t K
  | .idxa a s m x i => evX x fr tm fun x => evX i fr tm fun i => stepT (.idxa a s m x i) n t K
  | .slarr s m x lo hi mx => evX x fr tm fun x => evO lo fr tm fun lo => evO hi fr tm fun hi => evO mx fr tm fun mx => stepT (.slarr s m x lo hi mx) n t K
  | .eqs cs m x y => evX x fr tm fun x => evX y fr tm fun y => stepT (.eqs cs m x y) n t K
  | .mm m x y => evX x fr tm fun x => evX y fr tm fun y => stepT (.mm m x y) n t K
  | .i2str x => evX x fr tm fun x => stepT (.i2str x) n t K
  | .rng x => evX x fr tm fun x => stepT (.rng x) n t K
  | .next x => evX x fr tm fun x => stepT (.next x) n t K
  | .copy s d x => evX d fr tm fun d => evX x fr tm fun x => stepT (.copy s d x) n t K
  | .clr s z x => evX x fr tm fun x => stepT (.clr s z x) n t K
  | .apps e b x y => evX x fr tm fun x => evX y fr tm fun y => stepT (.apps e b x y) n t K
  | .callf f xs => evXs xs fr tm fun xs => call f xs n t K
  | .callv f xs => evX f fr tm fun f => evXs xs fr tm fun xs => match f with
    | .func (.func g) first cap => call g (first.toList ++ xs ++ cap.toList) n t K
    | .chan (some b) => yc.y b xs n t K
    | _ => false
  | .mm4 m x y z w => evX x fr tm fun x => evX y fr tm fun y => evX z fr tm fun z => evX w fr tm fun w => stepT (.mm4 m x y z w) n t K
  | .mkmap => stepT .mkmap n t K
  | .mget kk z ok m k => evX m fr tm fun m => evX k fr tm fun k => stepT (.mget kk z ok m k) n t K
  | .mset kk m k x => evX m fr tm fun m => evX k fr tm fun k => evX x fr tm fun x => stepT (.mset kk m k x) n t K
  | .cap x => evX x fr tm fun x => stepT (.cap x) n t K
  | .inv nm x xs => evX x fr tm fun x => evXs xs fr tm fun xs => match x with
    | .iface ty u => yc.i ty nm (u :: xs) n t K
    | _ => false
  | .appz e s b z x y => evX x fr tm fun x => evX y fr tm fun y => stepT (.appz e s b z x y) n t K
  | .bad => false
def CallOK (RT : List RDef) (P : Program) (ng : Nat) (call : Caller) : Prop := ∀ f xs n t K, call f xs n t K = true → ∀ H, Rp RT n t H → ∃ v H', ARun P ng f xs H v H' ∧ KP RT K v H'
def YOK (RT : List RDef) (P : Program) (ng : Nat) (yc : YC) : Prop := (∀ b xs n t K, yc.y b xs n t K = true → ∀ H, Rp RT n t H → ∃ v H', AYield P ng b xs H v H' ∧ KP RT K v H') ∧ ∀ ty nm xs n t K, yc.i ty nm xs n t K = true → ∀ H, Rp RT n t H → ∃ g, methT P ty nm = some g ∧ ∃ v H', ARun P ng g xs H v H' ∧ KP RT K v H'
theorem stepX_sound {P : Program} {ng : Nat} {call : Caller} {yc : YC} (hc : CallOK RT P ng call) (hy : YOK RT P ng yc) {op : AOp AX} {fr tm : List Value} {n : Nat} {t : HT} {K : CK} (h : stepX call yc op fr tm n t K = true) {H : AHeap} (r : Rp RT n t H) :
    stepA P ng (op.map (AX.ev fr tm)) H (KP RT K) := by
  have fin : ∀ {o : AOp Value}, stepT o n t K = true → stepA P ng o H (KP RT K) := by
    intro o ho
    obtain ⟨v, H', h1, h2⟩ := stepT_sound r ho
    exact stepA_of h1 h2
  cases op <;> simp only [stepX, evX_eq, evXs_eq, evO_eq, evPs_eq] at h <;> simp only [AOp.map] <;> try exact fin h
  case callf f xs => exact hc _ _ _ _ _ h H r
  case callv f xs =>
    simp only [stepA]
    split at h
    · rename_i g first cap hf
      rw [hf]
      exact hc _ _ _ _ _ h H r
    · rename_i b hf
      rw [hf]
      exact hy.1 _ _ _ _ _ h H r
    · cases h
  case inv nm x xs =>
    simp only [stepA]
    split at h
    · rename_i ty u hx
      rw [hx]
      obtain ⟨g, h1, h2⟩ := hy.2 _ _ _ _ _ _ h H r
      simp only [h1]
      exact h2
    · cases h
abbrev LK := List Value → Bool
noncomputable def dropX (l : List Value) : Nat → LK → Bool := List.rec (motive := fun _ => Nat → LK → Bool) (fun n K => Nat.rec (motive := fun _ => Bool) (K []) (fun _ _ => false) n) (fun x r ih n K => Nat.rec (motive := fun _ => Bool) (K (x :: r)) (fun m _ => ih m K) n) l
theorem dropX_true : ∀ {l : List Value} {n : Nat} {K : LK}, dropX l n K = true → n ≤ l.length ∧ K (l.drop n) = true
  | [], 0, K, h => ⟨Nat.le_refl _, h⟩
  | [], n + 1, K, h => by cases h
  | x :: l, 0, K, h => ⟨Nat.zero_le _, h⟩
  | x :: l, n + 1, K, h => by
    obtain ⟨h1, h2⟩ := dropX_true (l := l) (n := n) (K := K) h
    exact ⟨by simpa using h1, by simpa using h2⟩
noncomputable def takeX (l : List Value) : Nat → LK → Bool := List.rec (motive := fun _ => Nat → LK → Bool) (fun n K => Nat.rec (motive := fun _ => Bool) (K []) (fun _ _ => false) n) (fun x _ ih n K => Nat.rec (motive := fun _ => Bool) (K []) (fun m _ => ih m fun r => K (x :: r)) n) l
theorem takeX_true : ∀ {l : List Value} {n : Nat} {K : LK}, takeX l n K = true → n ≤ l.length ∧ K (l.take n) = true
  | [], 0, K, h => ⟨Nat.le_refl _, h⟩
  | [], n + 1, K, h => by cases h
  | x :: l, 0, K, h => ⟨Nat.zero_le _, by have h' : K [] = true := h; simpa using h'⟩
  | x :: l, n + 1, K, h => by
    obtain ⟨h1, h2⟩ := takeX_true (l := l) (n := n) (K := fun r => K (x :: r)) h
    exact ⟨by simpa using h1, by simpa using h2⟩
noncomputable def ldK (c : List Value) (o m : Nat) (K : LK) : Bool := dropX c o fun r => takeX r m K
theorem ldK_true {c : List Value} {o m : Nat} {K : LK} (h : ldK c o m K = true) : o + m ≤ c.length ∧ K ((c.drop o).take m) = true := by
  obtain ⟨h1, h2⟩ := dropX_true h
  obtain ⟨h3, h4⟩ := takeX_true h2
  rw [List.length_drop] at h3
  exact ⟨by omega, h4⟩
noncomputable def overX (xs : List Value) : List Value → LK → Bool := List.rec (motive := fun _ => List Value → LK → Bool) (fun r K => K r) (fun x _ ih r K => List.rec (motive := fun _ => Bool) false (fun _ r2 _ => ih r2 fun r' => K (x :: r')) r) xs
theorem overX_true : ∀ {xs r : List Value} {K : LK}, overX xs r K = true → xs.length ≤ r.length ∧ K (xs ++ r.drop xs.length) = true
  | [], r, K, h => ⟨Nat.zero_le _, by have h' : K r = true := h; simpa using h'⟩
  | x :: xs, [], K, h => by cases h
  | x :: xs, y :: r, K, h => by
    obtain ⟨h1, h2⟩ := overX_true (xs := xs) (r := r) (K := fun r' => K (x :: r')) h
    exact ⟨by simpa using h1, by simpa using h2⟩
noncomputable def spX (xs c : List Value) : Nat → LK → Bool := List.rec (motive := fun _ => Nat → LK → Bool) (fun n K => Nat.rec (motive := fun _ => Bool) (overX xs [] K) (fun _ _ => false) n) (fun x r ih n K => Nat.rec (motive := fun _ => Bool) (overX xs (x :: r) K) (fun m _ => ih m fun r' => K (x :: r')) n) c
theorem spX_true {xs : List Value} : ∀ {c : List Value} {o : Nat} {K : LK}, spX xs c o K = true → o + xs.length ≤ c.length ∧ K (c.take o ++ xs ++ c.drop (o + xs.length)) = true
  | [], 0, K, h => by
    obtain ⟨h1, h2⟩ := overX_true (r := []) h
    exact ⟨by omega, by simpa using h2⟩
  | [], o + 1, K, h => by cases h
  | x :: c, 0, K, h => by
    obtain ⟨h1, h2⟩ := overX_true (r := x :: c) h
    exact ⟨by omega, by simpa using h2⟩
  | x :: c, o + 1, K, h => by
    obtain ⟨h1, h2⟩ := spX_true (c := c) (o := o) (K := fun r' => K (x :: r')) h
    refine ⟨by simp only [List.length_cons]; omega, ?_⟩
    rw [show o + 1 + xs.length = (o + xs.length) + 1 by omega]
    simpa using h2
noncomputable def appK (l m : List Value) : LK → Bool := List.rec (motive := fun _ => LK → Bool) (fun K => K m) (fun x _ ih K => ih fun r => K (x :: r)) l
theorem appK_true {m : List Value} : ∀ {l : List Value} {K : LK}, appK l m K = true → K (l ++ m) = true
  | [], K, h => h
  | x :: l, K, h => appK_true (l := l) (K := fun r => K (x :: r)) h
noncomputable def elemsF (t : HT) (esz : Nat) (x : Value) (K : LK) : Bool := match x with
  | .slice none _ _ => K []
  | .slice (some ⟨b, o, none⟩) n _ => t.getK b fun ao => match ao with
    | .cells _ _ _ c _ => ldK c o (n * esz) K
    | _ => false
  | _ => false
theorem getK_imp {t : HT} {b : Nat} {K K' : AO → Bool} (h : t.getK b K = true) (hk : ∀ o, K o = true → K' o = true) : t.getK b K' = true := by
  rw [HT.getK_spec] at h ⊢
  split
  · rename_i o e; rw [e] at h; exact hk o h
  · rename_i e; rw [e] at h; cases h
theorem asT_of {a b : Bool} (h : a = true) (k : b = true) : asT a b = true := by subst h k; rfl
theorem ble_of {a b : Nat} (h : a ≤ b) : Nat.ble a b = true := Nat.ble_eq_true_of_le h
theorem elemsF_true {t : HT} {esz : Nat} {x : Value} {K K' : LK} (h : elemsF t esz x K = true) (hk : ∀ l, K l = true → K' l = true) : elemsT t esz x K' = true := by
  unfold elemsF at h
  unfold elemsT
  split at h
  · exact hk _ h
  · refine getK_imp h fun o ho => ?_
    split at ho
    · obtain ⟨h1, h2⟩ := ldK_true ho
      exact asT_of (ble_of h1) (hk _ h2)
    · cases ho
  · cases h
def notNil : List Value → Bool
  | [] => false
  | _ :: _ => true
noncomputable def appF (e esz bytes : Nat) (s : Value) (m : Nat) (news : List Value) (n : Nat) (t : HT) (K : CK) : Bool := match s with
  | .slice none a b => appT e esz bytes (.slice none a b) m news n t K
  | .slice (some ⟨b, o, none⟩) a k => match Nat.beq m 0 with
    | false => asT (Nat.ble ((a + m) * bytes) 140737488355328) (asT (Nat.ble (a + m) 140737488355328) (t.getK b fun ao => match ao with
      | .cells own room esz' c e' => asT (Nat.beq esz' esz) (asT (Nat.beq e' e) (dropX c (o + k * esz) fun rest => forceN (a + m) fun am => match Nat.ble am k with
        | true => asT own (spX news c (o + a * esz) fun c' => t.setK b (.cells true room esz c' e) fun t' => K (slc b o am k) n t')
        | false => match !room || notNil rest with
          | false => match own with
            | true => t.setK b .dead fun t1 => ldK c o (a * esz) fun old => appK old news fun c' => allocT (.cells true true esz c' e) n t1 fun n' t' => K (slc n 0 am am) n' t'
            | false => false
          | true => ldK c o (a * esz) fun old => appK old news fun c' => allocT (.cells true true esz c' e) n t fun n' t' => K (slc n 0 am am) n' t'))
      | _ => false))
    | true => K s n t
  | _ => false
theorem setK_imp {o : AO} {K K' : HT → Bool} (hk : ∀ t, K t = true → K' t = true) : ∀ {t : HT} {b : Nat}, t.setK b o K = true → t.setK b o K' = true := by
  have key : ∀ (t : HT) (b : Nat) (K K' : HT → Bool), (∀ t, K t = true → K' t = true) → t.setK b o K = true → t.setK b o K' = true := by
    intro t
    induction t with
    | leaf =>
      intro b K K' hk h
      cases b with
      | zero => exact hk _ h
      | succ b => cases h
    | node v l r ihl ihr =>
      intro b K K' hk h
      cases b with
      | zero => exact hk _ h
      | succ m =>
        have e : ∀ K : HT → Bool, (HT.node v l r).setK (m + 1) o K = Nat.rec (motive := fun _ => Bool) (l.setK (Nat.div m 2) o fun l' => K (.node v l' r)) (fun _ _ => r.setK (Nat.div m 2) o fun r' => K (.node v l r')) (Nat.mod m 2) := fun _ => rfl
        rw [e, natrec_c] at h ⊢
        split
        · rename_i hm; rw [if_pos hm] at h; exact ihl _ _ _ (fun t' => hk _) h
        · rename_i hm; rw [if_neg hm] at h; exact ihr _ _ _ (fun t' => hk _) h
  intro t b h
  exact key t b K K' hk h
theorem appF_true {e esz bytes : Nat} {s : Value} {m : Nat} {news : List Value} {n : Nat} {t : HT} {K : CK} (h : appF e esz bytes s m news n t K = true) : appT e esz bytes s m news n t K = true := by
  unfold appF at h
  split at h
  · exact h
  · rename_i b o a k
    unfold appT
    split at h
    · rename_i em
      simp only [em]
      obtain ⟨h1, h2⟩ := asT_true h
      obtain ⟨h3, h4⟩ := asT_true h2
      refine asT_of h1 (asT_of h3 (getK_imp h4 fun ao ho => ?_))
      split at ho
      · rename_i own room esz' c e'
        obtain ⟨q1, q2⟩ := asT_true ho
        obtain ⟨q3, q4⟩ := asT_true q2
        obtain ⟨q5, q6⟩ := dropX_true q4
        refine asT_of q1 (asT_of q3 (asT_of (ble_of q5) ?_))
        rw [forceN_eq] at q6 ⊢
        split at q6
        · rename_i e1
          simp only [e1]
          obtain ⟨p1, p2⟩ := asT_true q6
          obtain ⟨p3, p4⟩ := spX_true p2
          exact asT_of p1 p4
        · rename_i e1
          simp only [e1]
          have hnil : Nat.ble (o + k * esz + 1) c.length = notNil (c.drop (o + k * esz)) := by
            cases hd : c.drop (o + k * esz) with
            | nil =>
              have : c.length ≤ o + k * esz := by simpa using hd
              cases hb : Nat.ble (o + k * esz + 1) c.length
              · rfl
              · have := Nat.le_of_ble_eq_true hb; omega
            | cons x r =>
              have : 0 < (c.drop (o + k * esz)).length := by rw [hd]; simp
              rw [List.length_drop] at this
              exact ble_of (by omega)
          rw [hnil]
          split at q6
          · rename_i e2
            simp only [e2]
            split at q6
            · refine setK_imp (fun t1 p => ?_) q6
              obtain ⟨_, p2⟩ := ldK_true p
              exact appK_true p2
            · cases q6
          · rename_i e2
            simp only [e2]
            obtain ⟨_, p2⟩ := ldK_true q6
            exact appK_true p2
      · cases ho
    · rename_i em
      simp only [em]
      exact h
  · cases h
noncomputable def t_loadn (m : Nat) (x : Value) (n : Nat) (t : HT) (K : CK) : Bool := match x with
  | .pointer (some ⟨b, o, none⟩) => t.getK b fun ao => match ao with
    | .cells _ _ _ c _ => ldK c o m fun l => K (.agg l.toArray) n t
    | _ => false
  | _ => false
theorem t_loadn_true {m : Nat} {x : Value} {n : Nat} {t : HT} {K : CK} (h : t_loadn m x n t K = true) : stepT (.loadn m x) n t K = true := by
  unfold t_loadn at h
  split at h
  · rename_i b o
    show (t.getK b fun ao => match ao with
      | .cells _ _ _ c _ => asT (Nat.ble (o + m) c.length) (K (.agg ((c.drop o).take m).toArray) n t)
      | _ => false) = true
    refine getK_imp h fun ao ho => ?_
    split at ho
    · obtain ⟨h1, h2⟩ := ldK_true ho
      exact asT_of (ble_of h1) h2
    · cases ho
  · cases h
noncomputable def t_storen (m : Nat) (a x : Value) (n : Nat) (t : HT) (K : CK) : Bool := match a with
  | .pointer (some ⟨b, o, none⟩) => t.getK b fun ao => match ao with
    | .cells true room esz c e => asT (Nat.beq x.cells.toList.length m) (asT (allOne x.cells.toList) (spX x.cells.toList c o fun c' => t.setK b (.cells true room esz c' e) fun t' => K undef n t'))
    | _ => false
  | _ => false
theorem t_storen_true {m : Nat} {a x : Value} {n : Nat} {t : HT} {K : CK} (h : t_storen m a x n t K = true) : stepT (.storen m a x) n t K = true := by
  unfold t_storen at h
  split at h
  · rename_i b o
    show (t.getK b fun ao => match ao with
      | .cells true room esz c e => asT (Nat.ble (o + m) c.length) (asT (Nat.beq x.cells.toList.length m) (asT (allOne x.cells.toList) (t.setK b (.cells true room esz (c.take o ++ x.cells.toList ++ c.drop (o + m)) e) fun t' => K undef n t')))
      | _ => false) = true
    refine getK_imp h fun ao ho => ?_
    split at ho
    · obtain ⟨h1, h2⟩ := asT_true ho
      obtain ⟨h3, h4⟩ := asT_true h2
      obtain ⟨h5, h6⟩ := spX_true h4
      have e := Nat.eq_of_beq_eq_true h1
      rw [e] at h5 h6
      exact asT_of (ble_of h5) (asT_of h1 (asT_of h3 h6))
    · cases ho
  · cases h
noncomputable def t_b2s (x : Value) (n : Nat) (t : HT) (K : CK) : Bool := elemsF t 1 x fun c => match bytesOf c with
    | some l => K (.string ⟨l.toArray⟩) n t
    | none => false
theorem t_b2s_true {x : Value} {n : Nat} {t : HT} {K : CK} (h : t_b2s x n t K = true) : stepT (.b2s x) n t K = true := by
  have key : (elemsT t 1 x fun c => match bytesOf c with
    | some l => K (.string ⟨l.toArray⟩) n t
    | none => false) = true := elemsF_true h fun l h => h
  exact key
noncomputable def t_app (e : TypeId) (esz bytes : Nat) (s x : Value) (n : Nat) (t : HT) (K : CK) : Bool := match x with
  | .slice _ m _ => elemsF t esz x fun news => appF e esz bytes s m news n t K
  | _ => false
theorem t_app_true {e : TypeId} {esz bytes : Nat} {s x : Value} {n : Nat} {t : HT} {K : CK} (h : t_app e esz bytes s x n t K = true) : stepT (.app e esz bytes s x) n t K = true := by
  unfold t_app at h
  split at h
  · rename_i a m k
    show (elemsT t esz (.slice a m k) fun news => appT e esz bytes s m news n t K) = true
    exact elemsF_true h fun l h => appF_true h
  · cases h
noncomputable def t_apps (e : TypeId) (bytes : Nat) (s x : Value) (n : Nat) (t : HT) (K : CK) : Bool := match x with
  | .string tx => forceN (bLen tx) fun m => appF e 1 bytes s m (tx.data.toList.map fun b => .int .u8 b.toNat) n t K
  | _ => false
theorem t_apps_true {e : TypeId} {bytes : Nat} {s x : Value} {n : Nat} {t : HT} {K : CK} (h : t_apps e bytes s x n t K = true) : stepT (.apps e bytes s x) n t K = true := by
  unfold t_apps at h
  split at h
  · rename_i tx
    show (forceN (bLen tx) fun m => appT e 1 bytes s m (tx.data.toList.map fun b => .int .u8 b.toNat) n t K) = true
    rw [forceN_eq] at h ⊢
    exact appF_true h
  · cases h
noncomputable def t_copy (esz : Nat) (d x : Value) (n : Nat) (t : HT) (K : CK) : Bool := match d, x with
  | .slice none a k, .slice _ _ _ => asT (Nat.beq a 0) (asT (Nat.beq k 0) (K (.int .i64 0) n t))
  | .slice (some ⟨b, o, none⟩) a _, .slice a2 m k2 => elemsF t esz (.slice a2 m k2) fun l => t.getK b fun ao => match ao with
    | .cells own room esz' c e => forceN (min m a) fun q => match Nat.beq q 0 with
      | true => K (.int .i64 0) n t
      | false => takeX l (q * esz) fun l' => asT own (asT (Nat.beq l'.length (q * esz)) (spX l' c o fun c' => t.setK b (.cells own room esz' c' e) fun t' => K (.int .i64 (.ofNat q)) n t'))
    | _ => false
  | _, _ => false
theorem t_copy_true {esz : Nat} {d x : Value} {n : Nat} {t : HT} {K : CK} (h : t_copy esz d x n t K = true) : stepT (.copy esz d x) n t K = true := by
  unfold t_copy at h
  split at h
  · exact h
  · rename_i b o a k0 a2 m k2
    show (elemsT t esz (.slice a2 m k2) fun l => t.getK b fun ao => match ao with
      | .cells own room esz' c e => forceN (min m a) fun q => match Nat.beq q 0 with
        | true => K (.int .i64 0) n t
        | false => asT own (asT (Nat.ble (o + q * esz) c.length) (t.setK b (.cells own room esz' (c.take o ++ l.take (q * esz) ++ c.drop (o + q * esz)) e) fun t' => K (.int .i64 (.ofNat q)) n t'))
      | _ => false) = true
    refine elemsF_true h fun l hl => getK_imp hl fun ao ho => ?_
    split at ho
    · rename_i own room esz' c e'
      rw [forceN_eq] at ho
      show (forceN (min m a) fun q => match Nat.beq q 0 with
        | true => K (.int .i64 0) n t
        | false => asT own (asT (Nat.ble (o + q * esz) c.length) (t.setK b (.cells own room esz' (c.take o ++ l.take (q * esz) ++ c.drop (o + q * esz)) e') fun t' => K (.int .i64 (.ofNat q)) n t'))) = true
      rw [forceN_eq]
      cases e0 : Nat.beq (min m a) 0
      · rw [e0] at ho
        dsimp only at ho ⊢
        obtain ⟨h1, h2⟩ := takeX_true ho
        obtain ⟨h3, h4⟩ := asT_true h2
        obtain ⟨h5, h6⟩ := asT_true h4
        obtain ⟨h7, h8⟩ := spX_true h6
        have e := Nat.eq_of_beq_eq_true h5
        rw [e] at h7 h8
        exact asT_of h3 (asT_of (ble_of h7) h8)
      · rw [e0] at ho; exact ho
    · cases ho
  · cases h
noncomputable def e_fr (i : Nat) (fr tm : List Value) (K : Value → Bool) : Bool := nthK fr i K
noncomputable def e_tm (i : Nat) (fr tm : List Value) (K : Value → Bool) : Bool := nthK tm i K
noncomputable def e_c (v : Value) (fr tm : List Value) (K : Value → Bool) : Bool := K v
noncomputable def e_g (m : Nat) (fr tm : List Value) (K : Value → Bool) : Bool := K (.pointer (some ⟨m, 0, none⟩))
noncomputable def e_fn (f : FuncId) (fr tm : List Value) (K : Value → Bool) : Bool := K (.func (.func f) #[] #[])
noncomputable def evF (x : AX) : List Value → List Value → (Value → Bool) → Bool := AX.rec (motive := fun _ => List Value → List Value → (Value → Bool) → Bool) e_fr e_tm e_c e_g e_fn x
noncomputable def i_add (k : IntKind) (a b : Int) (K : Value → Bool) : Bool := wrapT k (a + b) fun r => K (.int k r)
noncomputable def r_add (a b : ByteArray) (K : Value → Bool) : Bool := Bool.rec (motive := fun _ => Bool) false (K (.string (bCat a b))) (Nat.ble (bLen a + bLen b) 140737488355328)
noncomputable def b_add (x y : Value) (K : Value → Bool) : Bool := match x, y with
  | .int k a, .int k' b => Bool.rec (motive := fun _ => Bool) false (i_add k a b K) (Nat.beq (kNum k) (kNum k'))
  | .string a, .string b => r_add a b K
  | _, _ => false
noncomputable def i_sub (k : IntKind) (a b : Int) (K : Value → Bool) : Bool := wrapT k (a - b) fun r => K (.int k r)
noncomputable def b_sub (x y : Value) (K : Value → Bool) : Bool := match x, y with
  | .int k a, .int k' b => Bool.rec (motive := fun _ => Bool) false (i_sub k a b K) (Nat.beq (kNum k) (kNum k'))
  | _, _ => false
noncomputable def i_mul (k : IntKind) (a b : Int) (K : Value → Bool) : Bool := wrapT k (a * b) fun r => K (.int k r)
noncomputable def b_mul (x y : Value) (K : Value → Bool) : Bool := match x, y with
  | .int k a, .int k' b => Bool.rec (motive := fun _ => Bool) false (i_mul k a b K) (Nat.beq (kNum k) (kNum k'))
  | _, _ => false
noncomputable def i_quo (k : IntKind) (a b : Int) (K : Value → Bool) : Bool := Bool.rec (motive := fun _ => Bool) (wrapT k (a.tdiv b) fun r => K (.int k r)) false (iEq b 0)
noncomputable def b_quo (x y : Value) (K : Value → Bool) : Bool := match x, y with
  | .int k a, .int k' b => Bool.rec (motive := fun _ => Bool) false (i_quo k a b K) (Nat.beq (kNum k) (kNum k'))
  | _, _ => false
noncomputable def i_rem (k : IntKind) (a b : Int) (K : Value → Bool) : Bool := Bool.rec (motive := fun _ => Bool) (forceI (a.tmod b) fun r => K (.int k r)) false (iEq b 0)
noncomputable def b_rem (x y : Value) (K : Value → Bool) : Bool := match x, y with
  | .int k a, .int k' b => Bool.rec (motive := fun _ => Bool) false (i_rem k a b K) (Nat.beq (kNum k) (kNum k'))
  | _, _ => false
noncomputable def i_and (k : IntKind) (a b : Int) (K : Value → Bool) : Bool := bitT k Nat.land (k.wrap (BitVec.ofInt k.bits a &&& BitVec.ofInt k.bits b).toNat) a b fun r => K (.int k r)
noncomputable def b_and (x y : Value) (K : Value → Bool) : Bool := match x, y with
  | .int k a, .int k' b => Bool.rec (motive := fun _ => Bool) false (i_and k a b K) (Nat.beq (kNum k) (kNum k'))
  | _, _ => false
noncomputable def i_or (k : IntKind) (a b : Int) (K : Value → Bool) : Bool := bitT k Nat.lor (k.wrap (BitVec.ofInt k.bits a ||| BitVec.ofInt k.bits b).toNat) a b fun r => K (.int k r)
noncomputable def b_or (x y : Value) (K : Value → Bool) : Bool := match x, y with
  | .int k a, .int k' b => Bool.rec (motive := fun _ => Bool) false (i_or k a b K) (Nat.beq (kNum k) (kNum k'))
  | _, _ => false
noncomputable def i_xor (k : IntKind) (a b : Int) (K : Value → Bool) : Bool := bitT k Nat.xor (k.wrap (BitVec.ofInt k.bits a ^^^ BitVec.ofInt k.bits b).toNat) a b fun r => K (.int k r)
noncomputable def b_xor (x y : Value) (K : Value → Bool) : Bool := match x, y with
  | .int k a, .int k' b => Bool.rec (motive := fun _ => Bool) false (i_xor k a b K) (Nat.beq (kNum k) (kNum k'))
  | _, _ => false
noncomputable def b_shl (x y : Value) (K : Value → Bool) : Bool := match x, y with
  | .int k a, .int k' b => shT k b fun s => wrapT k (upT a s) fun r => K (.int k r)
  | _, _ => false
noncomputable def b_shr (x y : Value) (K : Value → Bool) : Bool := match x, y with
  | .int k a, .int k' b => shT k b fun s => forceI (downT a s) fun r => K (.int k r)
  | _, _ => false
noncomputable def i_andNot (k : IntKind) (a b : Int) (K : Value → Bool) : Bool := bitT k (fun m n => Nat.xor m (Nat.land m n)) (k.wrap (BitVec.ofInt k.bits a &&& ~~~ BitVec.ofInt k.bits b).toNat) a b fun r => K (.int k r)
noncomputable def b_andNot (x y : Value) (K : Value → Bool) : Bool := match x, y with
  | .int k a, .int k' b => Bool.rec (motive := fun _ => Bool) false (i_andNot k a b K) (Nat.beq (kNum k) (kNum k'))
  | _, _ => false
noncomputable def i_eql (k : IntKind) (a b : Int) (K : Value → Bool) : Bool := forceB (iEq a b) fun r => K (.bool r)
noncomputable def r_eql (a b : ByteArray) (K : Value → Bool) : Bool := forceB (bEq a.data.toList b.data.toList) fun r => K (.bool r)
noncomputable def b_eql (x y : Value) (K : Value → Bool) : Bool := match x, y with
  | .int k a, .int k' b => Bool.rec (motive := fun _ => Bool) false (i_eql k a b K) (Nat.beq (kNum k) (kNum k'))
  | .string a, .string b => r_eql a b K
  | _, _ => false
noncomputable def i_neq (k : IntKind) (a b : Int) (K : Value → Bool) : Bool := forceB (iEq a b) fun r => K (.bool (!r))
noncomputable def r_neq (a b : ByteArray) (K : Value → Bool) : Bool := forceB (bEq a.data.toList b.data.toList) fun r => K (.bool (!r))
noncomputable def b_neq (x y : Value) (K : Value → Bool) : Bool := match x, y with
  | .int k a, .int k' b => Bool.rec (motive := fun _ => Bool) false (i_neq k a b K) (Nat.beq (kNum k) (kNum k'))
  | .string a, .string b => r_neq a b K
  | _, _ => false
noncomputable def i_lss (k : IntKind) (a b : Int) (K : Value → Bool) : Bool := forceB (iLt a b) fun r => K (.bool r)
noncomputable def r_lss (a b : ByteArray) (K : Value → Bool) : Bool := forceB (Op.bytesLess a.data.toList b.data.toList) fun r => K (.bool r)
noncomputable def b_lss (x y : Value) (K : Value → Bool) : Bool := match x, y with
  | .int k a, .int k' b => Bool.rec (motive := fun _ => Bool) false (i_lss k a b K) (Nat.beq (kNum k) (kNum k'))
  | .string a, .string b => r_lss a b K
  | _, _ => false
noncomputable def i_leq (k : IntKind) (a b : Int) (K : Value → Bool) : Bool := forceB (iLt b a) fun r => K (.bool (!r))
noncomputable def r_leq (a b : ByteArray) (K : Value → Bool) : Bool := forceB (Op.bytesLess a.data.toList b.data.toList || bEq a.data.toList b.data.toList) fun r => K (.bool r)
noncomputable def b_leq (x y : Value) (K : Value → Bool) : Bool := match x, y with
  | .int k a, .int k' b => Bool.rec (motive := fun _ => Bool) false (i_leq k a b K) (Nat.beq (kNum k) (kNum k'))
  | .string a, .string b => r_leq a b K
  | _, _ => false
noncomputable def i_gtr (k : IntKind) (a b : Int) (K : Value → Bool) : Bool := forceB (iLt b a) fun r => K (.bool r)
noncomputable def r_gtr (a b : ByteArray) (K : Value → Bool) : Bool := forceB (!(Op.bytesLess a.data.toList b.data.toList || bEq a.data.toList b.data.toList)) fun r => K (.bool r)
noncomputable def b_gtr (x y : Value) (K : Value → Bool) : Bool := match x, y with
  | .int k a, .int k' b => Bool.rec (motive := fun _ => Bool) false (i_gtr k a b K) (Nat.beq (kNum k) (kNum k'))
  | .string a, .string b => r_gtr a b K
  | _, _ => false
noncomputable def i_geq (k : IntKind) (a b : Int) (K : Value → Bool) : Bool := forceB (iLt a b) fun r => K (.bool (!r))
noncomputable def r_geq (a b : ByteArray) (K : Value → Bool) : Bool := forceB (!Op.bytesLess a.data.toList b.data.toList) fun r => K (.bool r)
noncomputable def b_geq (x y : Value) (K : Value → Bool) : Bool := match x, y with
  | .int k a, .int k' b => Bool.rec (motive := fun _ => Bool) false (i_geq k a b K) (Nat.beq (kNum k) (kNum k'))
  | .string a, .string b => r_geq a b K
  | _, _ => false
noncomputable def binF (op : BinOp) : Value → Value → (Value → Bool) → Bool := BinOp.rec (motive := fun _ => Value → Value → (Value → Bool) → Bool) b_add b_sub b_mul b_quo b_rem b_and b_or b_xor b_shl b_shr b_andNot b_eql b_neq b_lss b_leq b_gtr b_geq op
theorem binF_eq : binF = binT := by
  funext op x y K
  cases op <;> cases x <;> first | rfl | (cases y <;> rfl)
noncomputable def t_pick (c : Value) (a : Value) (b : Value) (n0 : Nat) (t0 : HT) (K : CK) : Bool := optK (match c with
    | .bool t => some (if t then a else b)
    | _ => none) fun v => K v n0 t0
noncomputable def t_new (e : TypeId) (esz : Nat) (z : List Value) (n : Nat) (t : HT) (K : CK) : Bool := asT (allOne z) (allocT (.cells true false esz z e) n t fun n' t' => K (ptr n 0) n' t')
noncomputable def t_box (e : TypeId) (esz : Nat) (x : Value) (n : Nat) (t : HT) (K : CK) : Bool := asT (allOne x.cells.toList) (allocT (.cells true false esz x.cells.toList e) n t fun n' t' => K (ptr n 0) n' t')
noncomputable def t_build (z : List Value) (ps : List (Nat × Nat × Value)) (n0 : Nat) (t0 : HT) (K : CK) : Bool := optK ((fillA z ps).map fun c => .agg c.toArray) fun v => K v n0 t0
noncomputable def t_bslice (e : TypeId) (esz : Nat) (m : Nat) (z : List Value) (ps : List (Nat × Nat × Value)) (n : Nat) (t : HT) (K : CK) : Bool := match fillA z ps with
    | some c => asT (allOne c) (asT (Nat.beq c.length (m * esz)) (allocT (.cells true false esz c e) n t fun n' t' => K (slc n 0 m m) n' t'))
    | none => false
noncomputable def t_load1 (x : Value) (n : Nat) (t : HT) (K : CK) : Bool := match x with
    | .pointer (some ⟨b, o, none⟩) => t.getK b fun ao => match ao with
      | .cells _ _ _ c _ => nthO c o fun v => K v n t
      | _ => false
    | _ => false
noncomputable def t_store1 (a : Value) (x : Value) (n : Nat) (t : HT) (K : CK) : Bool := match a with
    | .pointer (some ⟨b, o, none⟩) => t.getK b fun ao => match ao with
      | .cells true room esz c e => asT (Nat.ble (o + 1) c.length) (asT x.oneCell' (updK x c o fun c' => t.setK b (.cells true room esz c' e) fun t' => K undef n t'))
      | _ => false
    | _ => false
noncomputable def t_nilck (x : Value) (n0 : Nat) (t0 : HT) (K : CK) : Bool := optK (match x with
    | .pointer (some _) => some x
    | .iface _ _ => some x
    | .func (.func _) _ _ => some x
    | _ => none) fun v => K v n0 t0
noncomputable def t_eqv (k : Nat) (neg : Bool) (x : Value) (y : Value) (n0 : Nat) (t0 : HT) (K : CK) : Bool := optK ((eqA k x y).map fun b => .bool (if neg then !b else b)) fun v => K v n0 t0
noncomputable def t_un (op : UnOp) (x : Value) (n0 : Nat) (t0 : HT) (K : CK) : Bool := optK (match op, x with
    | .not, .bool b => some (.bool (!b))
    | .neg, .int k n => some (.int k (k.wrap (0 - n)))
    | .xor, .int k n => some (.int k (k.wrap (BitVec.ofInt k.bits (if k.signed then -1 else k.max) ^^^ BitVec.ofInt k.bits n).toNat))
    | _, _ => none) fun v => K v n0 t0
noncomputable def t_i2i (k : IntKind) (x : Value) (n : Nat) (t : HT) (K : CK) : Bool := match x with
    | .int _ i => wrapT k i fun r => K (.int k r) n t
    | _ => false
noncomputable def t_s2s (x : Value) (n0 : Nat) (t0 : HT) (K : CK) : Bool := optK (match x with
    | .string s => some (.string s)
    | _ => none) fun v => K v n0 t0
noncomputable def t_s2b (e : TypeId) (x : Value) (n : Nat) (t : HT) (K : CK) : Bool := match x with
    | .string s => forceN (bLen s) fun m => allocT (.cells true true 1 (s.data.toList.map fun b => .int .u8 b.toNat) e) n t fun n' t' => K (slc n 0 m m) n' t'
    | _ => false
noncomputable def t_mkfn (fn : Fn) (xs : List Value) (ys : List Value) (n0 : Nat) (t0 : HT) (K : CK) : Bool := optK (some (.func fn xs.toArray ys.toArray)) fun v => K v n0 t0
noncomputable def t_mksl (e : TypeId) (esz : Nat) (bytes : Nat) (z : List Value) (l : Value) (c : Value) (n : Nat) (t : HT) (K : CK) : Bool := match l, c with
    | .int .i64 (.ofNat l), .int .i64 (.ofNat c) => asT (Nat.ble l c) (asT (Nat.ble (bytes * c) 140737488355328) (asT (Nat.ble c 140737488355328) (asT (Nat.beq z.length esz) (asT (allOne z)
        (forceN l fun l => forceN c fun c => allocT (.cells true false esz (List.replicate c z).flatten e) n t fun n' t' => K (slc n 0 l c) n' t')))))
    | _, _ => false
noncomputable def t_slstr (x : Value) (lo : Option Value) (hi : Option Value) (n : Nat) (t : HT) (K : CK) : Bool := match x with
    | .string s => bndT hi (bLen s) (bLen s) fun h => bndT lo 0 h fun l => K (.string (bSub s l h)) n t
    | _ => false
noncomputable def t_slsl (esz : Nat) (x : Value) (lo : Option Value) (hi : Option Value) (mx : Option Value) (n : Nat) (t : HT) (K : CK) : Bool := match x with
    | .slice a m k => bndT mx k k fun mm => bndT hi m mm fun h => bndT lo 0 h fun l => match a with
      | none => K (.slice none 0 0) n t
      | some ⟨b, o, none⟩ => t.getK b fun ao => match ao with
        | .cells _ room esz' _ _ => asT (Nat.beq esz' esz || !room) (forceN (o + l * esz) fun o' => forceN (h - l) fun m' => forceN (mm - l) fun k' => K (slc b o' m' k') n t)
        | _ => false
      | _ => false
    | _ => false
noncomputable def t_faddr (off : Nat) (x : Value) (n : Nat) (t : HT) (K : CK) : Bool := match x with
    | .pointer (some ⟨b, o, none⟩) => forceN (o + off) fun o' => K (ptr b o') n t
    | _ => false
noncomputable def t_fld1 (off : Nat) (x : Value) (n : Nat) (t : HT) (K : CK) : Bool := match x with
    | .agg cs => nthO cs.toList off fun v => K v n t
    | _ => false
noncomputable def t_fldn (off : Nat) (n : Nat) (x : Value) (n0 : Nat) (t0 : HT) (K : CK) : Bool := optK (match x with
    | .agg cs => if off + n ≤ cs.size then some (.agg ((cs.toList.drop off).take n).toArray) else none
    | _ => none) fun v => K v n0 t0
noncomputable def t_iaddr (esz : Nat) (x : Value) (i : Value) (n : Nat) (t : HT) (K : CK) : Bool := match x, i with
    | .slice (some ⟨b, o, none⟩) m _, .int _ (.ofNat i) => asT (Nat.ble (i + 1) m) (forceN (o + i * esz) fun o' => K (ptr b o') n t)
    | _, _ => false
noncomputable def t_idxs (x : Value) (i : Value) (n0 : Nat) (t0 : HT) (K : CK) : Bool := optK (match x, i with
    | .string s, .int _ i => if 0 ≤ i ∧ i < (s.size : Int) then (s.data.toList[i.toNat]?).map fun b => .int .u8 b.toNat else none
    | _, _ => none) fun v => K v n0 t0
noncomputable def t_assert (t : TypeId) (z : Value) (ok : Bool) (x : Value) (n0 : Nat) (t0 : HT) (K : CK) : Bool := optK (match x with
    | .iface u v => if u = t then some (if ok then .tuple #[v, .bool true] else v) else if ok then some (.tuple #[z, .bool false]) else none
    | .nilIface => if ok then some (.tuple #[z, .bool false]) else none
    | _ => none) fun v => K v n0 t0
noncomputable def t_extract (x : Value) (i : Nat) (n : Nat) (t : HT) (K : CK) : Bool := match x with
    | .tuple vs => nthO vs.toList i fun v => K v n t
    | _ => false
noncomputable def t_len (str : Bool) (x : Value) (n : Nat) (t : HT) (K : CK) : Bool := match str, x with
    | false, .slice _ m _ => K (.int .i64 (.ofNat m)) n t
    | true, .string s => forceN (bLen s) fun m => K (.int .i64 (.ofNat m)) n t
    | _, _ => false
noncomputable def t_mark (x : Value) (n : Nat) (t : HT) (K : CK) : Bool := match x with
    | .slice (some ⟨b, _, none⟩) _ _ => t.getK b fun ao => match ao with
      | .cells true _ _ _ _ => K x n t
      | _ => false
    | _ => false
noncomputable def t_iaddrp (esz : Nat) (m : Nat) (x : Value) (i : Value) (n : Nat) (t : HT) (K : CK) : Bool := match x, i with
    | .pointer (some ⟨b, o, none⟩), .int _ (.ofNat i) => asT (Nat.ble (i + 1) m) (forceN (o + i * esz) fun o' => K (ptr b o') n t)
    | _, _ => false
noncomputable def t_idxa (agg : Bool) (esz : Nat) (n : Nat) (x : Value) (i : Value) (n0 : Nat) (t0 : HT) (K : CK) : Bool := optK (match x, i with
    | .agg cs, .int _ i => if 0 ≤ i ∧ i < (n : Int) then
        (if agg then (if i.toNat * esz + esz ≤ cs.size then some (.agg ((cs.toList.drop (i.toNat * esz)).take esz).toArray) else none)
        else cs.toList[i.toNat * esz]?) else none
    | _, _ => none) fun v => K v n0 t0
noncomputable def t_slarr (esz : Nat) (len : Nat) (x : Value) (lo : Option Value) (hi : Option Value) (mx : Option Value) (n : Nat) (t : HT) (K : CK) : Bool := match x with
    | .pointer (some ⟨b, o, none⟩) => bndT mx len len fun mm => bndT hi len mm fun h => bndT lo 0 h fun l => forceN (o + l * esz) fun o' => forceN (h - l) fun m' => forceN (mm - l) fun k' => K (slc b o' m' k') n t
    | _ => false
noncomputable def t_eqs (cs : List Nat) (neg : Bool) (x : Value) (y : Value) (n0 : Nat) (t0 : HT) (K : CK) : Bool := optK (match x, y with
    | .agg xs, .agg ys => (eqCs cs xs.toList ys.toList).map fun b => .bool (if neg then !b else b)
    | _, _ => none) fun v => K v n0 t0
noncomputable def t_mm (mx : Bool) (x : Value) (y : Value) (n0 : Nat) (t0 : HT) (K : CK) : Bool := optK (match x, y with
    | .int k a, .int k' b => if k = k' then some (.int k (if mx then (if b > a then b else a) else (if b < a then b else a))) else none
    | _, _ => none) fun v => K v n0 t0
noncomputable def t_mm4 (mx : Bool) (x : Value) (y : Value) (z : Value) (w : Value) (n : Nat) (t : HT) (K : CK) : Bool := match x, y, z, w with
    | .int k a, .int k1 b, .int k2 c, .int k3 d => asT (decide (k = k1 ∧ k = k2 ∧ k = k3)) (forceI (mmI mx (mmI mx (mmI mx a b) c) d) fun r => K (.int k r) n t)
    | _, _, _, _ => false
noncomputable def t_i2str (x : Value) (n0 : Nat) (t0 : HT) (K : CK) : Bool := optK (match x with
    | .int _ n => some (.string (Utf8.encode n))
    | _ => none) fun v => K v n0 t0
noncomputable def t_rng (x : Value) (n : Nat) (t : HT) (K : CK) : Bool := match x with
    | .string s => allocT (.obj true (.stringIter s 0)) n t fun n' t' => K (ptr n 0) n' t'
    | _ => false
noncomputable def t_next (x : Value) (n : Nat) (t : HT) (K : CK) : Bool := match x with
    | .pointer (some ⟨b, 0, none⟩) => t.getK b fun ao => match ao with
      | .obj true (.stringIter s pos) => match Nat.ble (pos + 1) (bLen s) with
        | true => forceI (Utf8.decode s pos).1 fun c => forceN (pos + (Utf8.decode s pos).2) fun q => t.setK b (.obj true (.stringIter s q)) fun t' => K (.tuple #[.bool true, .int .i64 pos, .int .i32 c]) n t'
        | false => K (.tuple #[.bool false]) n t
      | _ => false
    | _ => false
noncomputable def t_clr (esz : Nat) (z : List Value) (x : Value) (n : Nat) (t : HT) (K : CK) : Bool := match x with
    | .slice none a k => asT (Nat.beq a 0) (asT (Nat.beq k 0) (K (.tuple #[]) n t))
    | .slice (some ⟨b, o, none⟩) a _ => match Nat.beq a 0 with
      | true => K (.tuple #[]) n t
      | false => t.getK b fun ao => match ao with
        | .cells own room esz' c e => asT own (asT (Nat.ble (o + a * esz) c.length) (asT (Nat.beq z.length esz) (asT (allOne z) (t.setK b (.cells own room esz' (c.take o ++ (List.replicate a z).flatten ++ c.drop (o + a * esz)) e) fun t' => K (.tuple #[]) n t'))))
        | _ => false
    | _ => false
noncomputable def t_mkmap  (n : Nat) (t : HT) (K : CK) : Bool := allocT (.obj true (.map #[] 0)) n t fun n' t' => K (.map (some n)) n' t'
noncomputable def t_mget (kk : TypeDesc) (z : Value) (ok : Bool) (m : Value) (k : Value) (n : Nat) (t : HT) (K : CK) : Bool := asT (keyB kk k) (match m with
      | .map none => optK (mgetA z ok (some none)) fun v => K v n t
      | .map (some b) => t.getK b fun ao => match ao with
        | .obj _ (.map es _) => optK (mgetA z ok (Instr.findNow kk k es.toList 0)) fun v => K v n t
        | _ => false
      | _ => false)
noncomputable def t_mset (kk : TypeDesc) (m : Value) (k : Value) (x : Value) (n : Nat) (t : HT) (K : CK) : Bool := asT (keyB kk k) (match m with
      | .map (some b) => t.getK b fun ao => match ao with
        | .obj true (.map es clock) => match Instr.findNow kk k es.toList 0 with
          | some (some (i, _)) => t.setK b (.obj true (.map (es.modify i fun e => { e with key := k, val := x }) clock)) fun t' => K undef n t'
          | some none => t.setK b (.obj true (.map (es.push { key := k, val := x, born := clock }) (clock + 1))) fun t' => K undef n t'
          | none => false
        | _ => false
      | _ => false)
noncomputable def t_cap (x : Value) (n : Nat) (t : HT) (K : CK) : Bool := match x with
    | .slice none a k => asT (Nat.beq a 0) (asT (Nat.beq k 0) (K (.int .i64 0) n t))
    | .slice (some ⟨b, _, none⟩) _ k => t.getK b fun ao => match ao with
      | .cells _ false _ _ _ => K (.int .i64 (.ofNat k)) n t
      | _ => false
    | _ => false
noncomputable def t_appz (e : TypeId) (esz : Nat) (bytes : Nat) (z : List Value) (s : Value) (x : Value) (n : Nat) (t : HT) (K : CK) : Bool := match x with
    | .int .i64 (.ofNat m) => asT (Nat.ble (m * bytes) 140737488355328) (asT (Nat.ble m 140737488355328) (forceN m fun m => appT e esz bytes s m (List.replicate m z).flatten n t K))
    | _ => false
noncomputable def s_mov (x : AX) (call : Caller) (yc : YC) (fr tm : List Value) (n : Nat) (t : HT) (K : CK) : Bool := evF x fr tm fun v => K v n t
noncomputable def s_pick (c : AX) (a : AX) (b : AX) (call : Caller) (yc : YC) (fr tm : List Value) (n : Nat) (t : HT) (K : CK) : Bool := evF c fr tm fun c => evF a fr tm fun a => evF b fr tm fun b => t_pick c a b n t K
noncomputable def s_new (e : TypeId) (s : Nat) (z : List Value) (call : Caller) (yc : YC) (fr tm : List Value) (n : Nat) (t : HT) (K : CK) : Bool := t_new e s z n t K
noncomputable def s_box (e : TypeId) (s : Nat) (x : AX) (call : Caller) (yc : YC) (fr tm : List Value) (n : Nat) (t : HT) (K : CK) : Bool := evF x fr tm fun x => t_box e s x n t K
noncomputable def s_build (z : List Value) (ps : List (Nat × Nat × AX)) (call : Caller) (yc : YC) (fr tm : List Value) (n : Nat) (t : HT) (K : CK) : Bool := evPs ps fr tm fun ps => t_build z ps n t K
noncomputable def s_bslice (e : TypeId) (s : Nat) (m : Nat) (z : List Value) (ps : List (Nat × Nat × AX)) (call : Caller) (yc : YC) (fr tm : List Value) (n : Nat) (t : HT) (K : CK) : Bool := evPs ps fr tm fun ps => t_bslice e s m z ps n t K
noncomputable def s_load1 (x : AX) (call : Caller) (yc : YC) (fr tm : List Value) (n : Nat) (t : HT) (K : CK) : Bool := evF x fr tm fun x => t_load1 x n t K
noncomputable def s_loadn (m : Nat) (x : AX) (call : Caller) (yc : YC) (fr tm : List Value) (n : Nat) (t : HT) (K : CK) : Bool := evF x fr tm fun x => t_loadn m x n t K
noncomputable def s_store1 (a : AX) (x : AX) (call : Caller) (yc : YC) (fr tm : List Value) (n : Nat) (t : HT) (K : CK) : Bool := evF a fr tm fun a => evF x fr tm fun x => t_store1 a x n t K
noncomputable def s_storen (m : Nat) (a : AX) (x : AX) (call : Caller) (yc : YC) (fr tm : List Value) (n : Nat) (t : HT) (K : CK) : Bool := evF a fr tm fun a => evF x fr tm fun x => t_storen m a x n t K
noncomputable def s_nilck (x : AX) (call : Caller) (yc : YC) (fr tm : List Value) (n : Nat) (t : HT) (K : CK) : Bool := evF x fr tm fun x => t_nilck x n t K
noncomputable def s_bin (op : BinOp) (x : AX) (y : AX) (call : Caller) (yc : YC) (fr tm : List Value) (n : Nat) (t : HT) (K : CK) : Bool := evF x fr tm fun x => evF y fr tm fun y => binF op x y fun v => K v n t
noncomputable def s_eqv (k : Nat) (m : Bool) (x : AX) (y : AX) (call : Caller) (yc : YC) (fr tm : List Value) (n : Nat) (t : HT) (K : CK) : Bool := evF x fr tm fun x => evF y fr tm fun y => t_eqv k m x y n t K
noncomputable def s_un (op : UnOp) (x : AX) (call : Caller) (yc : YC) (fr tm : List Value) (n : Nat) (t : HT) (K : CK) : Bool := evF x fr tm fun x => t_un op x n t K
noncomputable def s_i2i (k : IntKind) (x : AX) (call : Caller) (yc : YC) (fr tm : List Value) (n : Nat) (t : HT) (K : CK) : Bool := evF x fr tm fun x => t_i2i k x n t K
noncomputable def s_s2s (x : AX) (call : Caller) (yc : YC) (fr tm : List Value) (n : Nat) (t : HT) (K : CK) : Bool := evF x fr tm fun x => t_s2s x n t K
noncomputable def s_s2b (e : TypeId) (x : AX) (call : Caller) (yc : YC) (fr tm : List Value) (n : Nat) (t : HT) (K : CK) : Bool := evF x fr tm fun x => t_s2b e x n t K
noncomputable def s_b2s (x : AX) (call : Caller) (yc : YC) (fr tm : List Value) (n : Nat) (t : HT) (K : CK) : Bool := evF x fr tm fun x => t_b2s x n t K
noncomputable def s_iface (u : TypeId) (x : AX) (call : Caller) (yc : YC) (fr tm : List Value) (n : Nat) (t : HT) (K : CK) : Bool := evF x fr tm fun x => K (.iface u x) n t
noncomputable def s_mkfn (fn : Fn) (xs : List AX) (ys : List AX) (call : Caller) (yc : YC) (fr tm : List Value) (n : Nat) (t : HT) (K : CK) : Bool := evXs xs fr tm fun xs => evXs ys fr tm fun ys => t_mkfn fn xs ys n t K
noncomputable def s_mksl (e : TypeId) (s : Nat) (b : Nat) (z : List Value) (l : AX) (c : AX) (call : Caller) (yc : YC) (fr tm : List Value) (n : Nat) (t : HT) (K : CK) : Bool := evF l fr tm fun l => evF c fr tm fun c => t_mksl e s b z l c n t K
noncomputable def s_slstr (x : AX) (lo : Option AX) (hi : Option AX) (call : Caller) (yc : YC) (fr tm : List Value) (n : Nat) (t : HT) (K : CK) : Bool := evF x fr tm fun x => evO lo fr tm fun lo => evO hi fr tm fun hi => t_slstr x lo hi n t K
noncomputable def s_slsl (s : Nat) (x : AX) (lo : Option AX) (hi : Option AX) (mx : Option AX) (call : Caller) (yc : YC) (fr tm : List Value) (n : Nat) (t : HT) (K : CK) : Bool := evF x fr tm fun x => evO lo fr tm fun lo => evO hi fr tm fun hi => evO mx fr tm fun mx => t_slsl s x lo hi mx n t K
noncomputable def s_faddr (o : Nat) (x : AX) (call : Caller) (yc : YC) (fr tm : List Value) (n : Nat) (t : HT) (K : CK) : Bool := evF x fr tm fun x => t_faddr o x n t K
noncomputable def s_fld1 (o : Nat) (x : AX) (call : Caller) (yc : YC) (fr tm : List Value) (n : Nat) (t : HT) (K : CK) : Bool := evF x fr tm fun x => t_fld1 o x n t K
noncomputable def s_fldn (o : Nat) (m : Nat) (x : AX) (call : Caller) (yc : YC) (fr tm : List Value) (n : Nat) (t : HT) (K : CK) : Bool := evF x fr tm fun x => t_fldn o m x n t K
noncomputable def s_iaddr (s : Nat) (x : AX) (i : AX) (call : Caller) (yc : YC) (fr tm : List Value) (n : Nat) (t : HT) (K : CK) : Bool := evF x fr tm fun x => evF i fr tm fun i => t_iaddr s x i n t K
noncomputable def s_idxs (x : AX) (i : AX) (call : Caller) (yc : YC) (fr tm : List Value) (n : Nat) (t : HT) (K : CK) : Bool := evF x fr tm fun x => evF i fr tm fun i => t_idxs x i n t K
noncomputable def s_assert (u : TypeId) (z : Value) (ok : Bool) (x : AX) (call : Caller) (yc : YC) (fr tm : List Value) (n : Nat) (t : HT) (K : CK) : Bool := evF x fr tm fun x => t_assert u z ok x n t K
noncomputable def s_extract (x : AX) (i : Nat) (call : Caller) (yc : YC) (fr tm : List Value) (n : Nat) (t : HT) (K : CK) : Bool := evF x fr tm fun x => t_extract x i n t K
noncomputable def s_len (s : Bool) (x : AX) (call : Caller) (yc : YC) (fr tm : List Value) (n : Nat) (t : HT) (K : CK) : Bool := evF x fr tm fun x => t_len s x n t K
noncomputable def s_app (e : TypeId) (s : Nat) (b : Nat) (x : AX) (y : AX) (call : Caller) (yc : YC) (fr tm : List Value) (n : Nat) (t : HT) (K : CK) : Bool := evF x fr tm fun x => evF y fr tm fun y => t_app e s b x y n t K
noncomputable def s_mark (x : AX) (call : Caller) (yc : YC) (fr tm : List Value) (n : Nat) (t : HT) (K : CK) : Bool := evF x fr tm fun x => t_mark x n t K
noncomputable def s_iaddrp (s : Nat) (m : Nat) (x : AX) (i : AX) (call : Caller) (yc : YC) (fr tm : List Value) (n : Nat) (t : HT) (K : CK) : Bool := evF x fr tm fun x => evF i fr tm fun i => t_iaddrp s m x i n t K
noncomputable def s_idxa (a : Bool) (s : Nat) (m : Nat) (x : AX) (i : AX) (call : Caller) (yc : YC) (fr tm : List Value) (n : Nat) (t : HT) (K : CK) : Bool := evF x fr tm fun x => evF i fr tm fun i => t_idxa a s m x i n t K
noncomputable def s_slarr (s : Nat) (m : Nat) (x : AX) (lo : Option AX) (hi : Option AX) (mx : Option AX) (call : Caller) (yc : YC) (fr tm : List Value) (n : Nat) (t : HT) (K : CK) : Bool := evF x fr tm fun x => evO lo fr tm fun lo => evO hi fr tm fun hi => evO mx fr tm fun mx => t_slarr s m x lo hi mx n t K
noncomputable def s_eqs (cs : List Nat) (m : Bool) (x : AX) (y : AX) (call : Caller) (yc : YC) (fr tm : List Value) (n : Nat) (t : HT) (K : CK) : Bool := evF x fr tm fun x => evF y fr tm fun y => t_eqs cs m x y n t K
noncomputable def s_mm (m : Bool) (x : AX) (y : AX) (call : Caller) (yc : YC) (fr tm : List Value) (n : Nat) (t : HT) (K : CK) : Bool := evF x fr tm fun x => evF y fr tm fun y => t_mm m x y n t K
noncomputable def s_mm4 (m : Bool) (x : AX) (y : AX) (z : AX) (w : AX) (call : Caller) (yc : YC) (fr tm : List Value) (n : Nat) (t : HT) (K : CK) : Bool := evF x fr tm fun x => evF y fr tm fun y => evF z fr tm fun z => evF w fr tm fun w => t_mm4 m x y z w n t K
noncomputable def s_i2str (x : AX) (call : Caller) (yc : YC) (fr tm : List Value) (n : Nat) (t : HT) (K : CK) : Bool := evF x fr tm fun x => t_i2str x n t K
noncomputable def s_rng (x : AX) (call : Caller) (yc : YC) (fr tm : List Value) (n : Nat) (t : HT) (K : CK) : Bool := evF x fr tm fun x => t_rng x n t K
noncomputable def s_next (x : AX) (call : Caller) (yc : YC) (fr tm : List Value) (n : Nat) (t : HT) (K : CK) : Bool := evF x fr tm fun x => t_next x n t K
noncomputable def s_copy (s : Nat) (d : AX) (x : AX) (call : Caller) (yc : YC) (fr tm : List Value) (n : Nat) (t : HT) (K : CK) : Bool := evF d fr tm fun d => evF x fr tm fun x => t_copy s d x n t K
noncomputable def s_clr (s : Nat) (z : List Value) (x : AX) (call : Caller) (yc : YC) (fr tm : List Value) (n : Nat) (t : HT) (K : CK) : Bool := evF x fr tm fun x => t_clr s z x n t K
noncomputable def s_apps (e : TypeId) (b : Nat) (x : AX) (y : AX) (call : Caller) (yc : YC) (fr tm : List Value) (n : Nat) (t : HT) (K : CK) : Bool := evF x fr tm fun x => evF y fr tm fun y => t_apps e b x y n t K
noncomputable def s_mkmap  (call : Caller) (yc : YC) (fr tm : List Value) (n : Nat) (t : HT) (K : CK) : Bool := t_mkmap n t K
noncomputable def s_mget (kk : TypeDesc) (z : Value) (ok : Bool) (m : AX) (k : AX) (call : Caller) (yc : YC) (fr tm : List Value) (n : Nat) (t : HT) (K : CK) : Bool := evF m fr tm fun m => evF k fr tm fun k => t_mget kk z ok m k n t K
noncomputable def s_mset (kk : TypeDesc) (m : AX) (k : AX) (x : AX) (call : Caller) (yc : YC) (fr tm : List Value) (n : Nat) (t : HT) (K : CK) : Bool := evF m fr tm fun m => evF k fr tm fun k => evF x fr tm fun x => t_mset kk m k x n t K
noncomputable def s_cap (x : AX) (call : Caller) (yc : YC) (fr tm : List Value) (n : Nat) (t : HT) (K : CK) : Bool := evF x fr tm fun x => t_cap x n t K
noncomputable def s_inv (nm : String) (x : AX) (xs : List AX) (call : Caller) (yc : YC) (fr tm : List Value) (n : Nat) (t : HT) (K : CK) : Bool := evF x fr tm fun x => evXs xs fr tm fun xs => match x with
    | .iface ty u => yc.i ty nm (u :: xs) n t K
    | _ => false
noncomputable def s_callf (f : FuncId) (xs : List AX) (call : Caller) (yc : YC) (fr tm : List Value) (n : Nat) (t : HT) (K : CK) : Bool := evXs xs fr tm fun xs => call f xs n t K
noncomputable def s_callv (f : AX) (xs : List AX) (call : Caller) (yc : YC) (fr tm : List Value) (n : Nat) (t : HT) (K : CK) : Bool := evF f fr tm fun f => evXs xs fr tm fun xs => match f with
    | .func (.func g) first cap => call g (first.toList ++ xs ++ cap.toList) n t K
    | .chan (some b) => yc.y b xs n t K
    | _ => false
noncomputable def s_appz (e : TypeId) (s : Nat) (b : Nat) (z : List Value) (x : AX) (y : AX) (call : Caller) (yc : YC) (fr tm : List Value) (n : Nat) (t : HT) (K : CK) : Bool := evF x fr tm fun x => evF y fr tm fun y => t_appz e s b z x y n t K
noncomputable def s_bad  (call : Caller) (yc : YC) (fr tm : List Value) (n : Nat) (t : HT) (K : CK) : Bool := false
noncomputable def stepF (op : AOp AX) : Caller → YC → List Value → List Value → Nat → HT → CK → Bool :=
  AOp.rec (motive := fun _ => Caller → YC → List Value → List Value → Nat → HT → CK → Bool) s_mov s_pick s_new s_box s_build s_bslice s_load1 s_loadn s_store1 s_storen s_nilck s_bin s_eqv s_un s_i2i s_s2s s_s2b s_b2s s_iface s_mkfn s_mksl s_slstr s_slsl s_faddr s_fld1 s_fldn s_iaddr s_idxs s_assert s_extract s_len s_app s_mark s_iaddrp s_idxa s_slarr s_eqs s_mm s_mm4 s_i2str s_rng s_next s_copy s_clr s_apps s_mkmap s_mget s_mset s_cap s_inv s_callf s_callv s_appz s_bad op
theorem stepF_true (call : Caller) (yc : YC) (op : AOp AX) (fr tm : List Value) (n : Nat) (t : HT) (K : CK) (h : stepF op call yc fr tm n t K = true) : stepX call yc op fr tm n t K = true := by
  have e : ∀ x : AX, evF x = evX x := fun x => by cases x <;> rfl
  have e2 := binF_eq
  cases op
  case loadn =>
    simp only [stepF, s_loadn, e, evX_eq, evO_eq, evXs_eq, evPs_eq] at h
    simp only [stepX, evX_eq, evO_eq, evXs_eq, evPs_eq]
    exact t_loadn_true h
  case storen =>
    simp only [stepF, s_storen, e, evX_eq, evO_eq, evXs_eq, evPs_eq] at h
    simp only [stepX, evX_eq, evO_eq, evXs_eq, evPs_eq]
    exact t_storen_true h
  case b2s =>
    simp only [stepF, s_b2s, e, evX_eq, evO_eq, evXs_eq, evPs_eq] at h
    simp only [stepX, evX_eq, evO_eq, evXs_eq, evPs_eq]
    exact t_b2s_true h
  case app =>
    simp only [stepF, s_app, e, evX_eq, evO_eq, evXs_eq, evPs_eq] at h
    simp only [stepX, evX_eq, evO_eq, evXs_eq, evPs_eq]
    exact t_app_true h
  case copy =>
    simp only [stepF, s_copy, e, evX_eq, evO_eq, evXs_eq, evPs_eq] at h
    simp only [stepX, evX_eq, evO_eq, evXs_eq, evPs_eq]
    exact t_copy_true h
  case apps =>
    simp only [stepF, s_apps, e, evX_eq, evO_eq, evXs_eq, evPs_eq] at h
    simp only [stepX, evX_eq, evO_eq, evXs_eq, evPs_eq]
    exact t_apps_true h
  all_goals
    refine Eq.trans (Eq.symm ?_) h
    simp only [stepF, stepX] <;> first | rfl | (simp only [s_mov, s_pick, s_new, s_box, s_build, s_bslice, s_load1, s_loadn, s_store1, s_storen, s_nilck, s_bin, s_eqv, s_un, s_i2i, s_s2s, s_s2b, s_b2s, s_iface, s_mkfn, s_mksl, s_slstr, s_slsl, s_faddr, s_fld1, s_fldn, s_iaddr, s_idxs, s_assert, s_extract, s_len, s_app, s_mark, s_iaddrp, s_idxa, s_slarr, s_eqs, s_mm, s_mm4, s_i2str, s_rng, s_next, s_copy, s_clr, s_apps, s_mkmap, s_mget, s_mset, s_cap, s_inv, s_callf, s_callv, s_appz, s_bad, e, e2]; first | done | rfl)
noncomputable def d_no (v : Value) (fr tm : List Value) (K : List Value → List Value → Bool) : Bool := K fr tm
noncomputable def d_fr (i : Nat) (v : Value) (fr tm : List Value) (K : List Value → List Value → Bool) : Bool := updK v fr i fun fr => K fr tm
noncomputable def d_tm (v : Value) (fr tm : List Value) (K : List Value → List Value → Bool) : Bool := K fr (v :: tm)
noncomputable def dF (d : D) : Value → List Value → List Value → (List Value → List Value → Bool) → Bool := D.rec (motive := fun _ => Value → List Value → List Value → (List Value → List Value → Bool) → Bool) d_no d_fr d_tm d
theorem dF_eq : dF = dstK := by funext d; cases d <;> rfl
abbrev IH := List Value → List Value → Nat → HT → FK → Bool
noncomputable def nextK (d : D) (ih : IH) (fr tm : List Value) (K : FK) : CK := fun v n t => dF d v fr tm fun fr tm => ih fr tm n t K
noncomputable def g_none (op : AOp AX) (d : D) (call : Caller) (yc : YC) (ih : IH) (fr tm : List Value) (n : Nat) (t : HT) (K : FK) : Bool := stepF op call yc fr tm n t (nextK d ih fr tm K)
noncomputable def g_some (p : AX × Bool) (op : AOp AX) (d : D) (call : Caller) (yc : YC) (ih : IH) (fr tm : List Value) (n : Nat) (t : HT) (K : FK) : Bool :=
  wantK (some p) fr tm fun b => Bool.rec (motive := fun _ => Bool) (dF d undef fr tm fun fr tm => ih fr tm n t K) (stepF op call yc fr tm n t (nextK d ih fr tm K)) b
noncomputable def opF (o : AOper) : Caller → YC → IH → List Value → List Value → Nat → HT → FK → Bool := fun call yc ih => Option.rec (motive := fun _ => AOp AX → D → Caller → YC → IH → List Value → List Value → Nat → HT → FK → Bool) g_none g_some o.g o.op o.dst call yc ih
noncomputable def runOps (call : Caller) (yc : YC) (ops : List AOper) : IH := List.rec (motive := fun _ => IH) (fun fr _ n t K => K fr n t) (fun o _ ih => opF o call yc ih) ops
theorem runOps_cons (call : Caller) (yc : YC) (o : AOper) (l : List AOper) (fr tm : List Value) (n : Nat) (t : HT) (K : FK) : runOps call yc (o :: l) fr tm n t K = wantK o.g fr tm fun b => Bool.rec (motive := fun _ => Bool)
      (dstK o.dst undef fr tm fun fr tm => runOps call yc l fr tm n t K)
      (stepF o.op call yc fr tm n t fun v n t => dstK o.dst v fr tm fun fr tm => runOps call yc l fr tm n t K) b := by
  obtain ⟨op, d, g⟩ := o
  have e : runOps call yc (⟨op, d, g⟩ :: l) fr tm n t K = opF ⟨op, d, g⟩ call yc (runOps call yc l) fr tm n t K := rfl
  rw [e, ← dF_eq]
  cases g <;> rfl
def FP (RT : List RDef) (K : FK) : List Value → AHeap → Prop := fun fr H => ∃ n t, Rp RT n t H ∧ K fr n t = true
theorem runOps_sound {P : Program} {ng : Nat} {call : Caller} {yc : YC} (hc : CallOK RT P ng call) (hy : YOK RT P ng yc) : ∀ {l : List AOper} {fr tm : List Value} {n : Nat} {t : HT} {K : FK}, runOps call yc l fr tm n t K = true → ∀ {H : AHeap}, Rp RT n t H → RW P ng l fr tm H (FP RT K)
  | [], fr, tm, n, t, K, h, H, r => ⟨n, t, r, h⟩
  | o :: l, fr, tm, n, t, K, h, H, r => by
    rw [runOps_cons, wantK_eq] at h
    simp only [RW]
    cases hw : wantA o.g fr tm
    · rw [hw] at h
      rw [dstK_eq] at h
      simp only [Bool.false_eq_true, if_false]
      exact runOps_sound hc hy h r
    · rw [hw] at h
      simp only [if_true]
      refine stepA_mono ?_ (stepX_sound hc hy (stepF_true _ _ _ _ _ _ _ _ h) r)
      rintro v H' ⟨n', t', r', h'⟩
      simp only [dstK_eq] at h'
      exact runOps_sound hc hy h' r'
theorem keepsT_true {n n' : Nat} {t t' : HT} {H H' : AHeap} (r : Rp RT n t H) (r' : Rp RT n' t' H') : ∀ {l : List Nat}, keepsT l t t' = true → keepsB l H H'
  | [], _ => trivial
  | b :: l, h => by
    obtain ⟨h1, h2⟩ := asT_true h
    obtain ⟨o, h3, h4⟩ := r.getK h1 (fun own st pe L => by rw [HT.getK_spec]; split <;> first | rfl | (rename_i x _; cases x <;> rfl))
    obtain ⟨o', h5, h6⟩ := r'.getK h4
    exact ⟨by rw [h3, h5, aoEq_true h6], keepsT_true r r' h2⟩
inductive TrR RT : List TT → List TE → Prop
  | nil : TrR RT [] []
  | cons {e : TT} {x : TE} {l : List TT} {m : List TE} (hk : x.k = e.k) (hb : x.bs = e.bs) (h1 : Rp RT e.n e.t x.H) (h2 : ∃ n', Rp RT n' e.t' x.H') (h : TrR RT l m) : TrR RT (e :: l) (x :: m)
theorem TrR.snoc {l : List TT} {m : List TE} (h : TrR RT l m) {e : TT} {x : TE} (hk : x.k = e.k) (hb : x.bs = e.bs) (h1 : Rp RT e.n e.t x.H) (h2 : ∃ n', Rp RT n' e.t' x.H') : TrR RT (l ++ [e]) (m ++ [x]) := by
  induction h with
  | nil => exact .cons hk hb h1 h2 .nil
  | cons a b c d _ ih => exact .cons a b c d ih
theorem TrR.get {l : List TT} {m : List TE} (h : TrR RT l m) : ∀ {i : Nat} {e : TT}, l[i]? = some e → ∃ x, m[i]? = some x ∧ x.k = e.k ∧ x.bs = e.bs ∧ Rp RT e.n e.t x.H ∧ ∃ n', Rp RT n' e.t' x.H' := by
  induction h with
  | nil => intro i e h; simp at h
  | cons a b c d _ ih =>
    intro i e h
    cases i with
    | zero => simp at h; subst h; exact ⟨_, rfl, a, b, c, d⟩
    | succ i => simp at h; simpa using ih h
theorem oblT_true {k : Nat} {bs : List Nat} {n n' : Nat} {t t' : HT} {H H' : AHeap} (r : Rp RT n t H) (r' : Rp RT n' t' H') {tr : List TT} {tr' : List TE} (ht : TrR RT tr tr') : ∀ {un : List Nat}, oblT k bs t t' tr un = true → oblA k bs H H' tr' un
  | [], _ => trivial
  | i :: un, h => by
    simp only [oblT] at h
    split at h
    · rename_i e he
      obtain ⟨x, h1, h2, h3, h4, n2, h5⟩ := ht.get he
      simp only [oblA, h1]
      split at h
      · rename_i e1
        obtain ⟨a1, a2⟩ := asT_true h
        obtain ⟨a3, a4⟩ := asT_true a2
        rw [Bool.and_eq_true] at e1
        have q1 := Nat.eq_of_beq_eq_true e1.1
        have q2 := Nat.eq_of_beq_eq_true e1.2
        refine ⟨?_, oblT_true r r' ht a4⟩
        rw [if_pos ⟨q1, by rw [h2]; exact q2⟩]
        exact ⟨olderT_true h4.n a1, keepsT_true h4 h5 a3⟩
      · rename_i e1 e2
        obtain ⟨a1, a2⟩ := asT_true h
        rw [Bool.and_eq_true, Bool.or_eq_true] at e2
        have q1 := Nat.eq_of_beq_eq_true e2.1
        refine ⟨?_, oblT_true r r' ht a2⟩
        rw [if_neg (by rw [q1]; simp), if_pos ⟨q1, by rw [h2]; rcases e2.2 with q | q; exact .inl (Nat.eq_of_beq_eq_true q); exact .inr (Nat.eq_of_beq_eq_true q)⟩]
        rw [h3]
        exact keepsT_true r r' a1
      · rename_i e1 e2
        refine ⟨?_, oblT_true r r' ht h⟩
        split
        · rename_i hh
          rw [h2] at hh
          rw [hh.1, hh.2] at e1
          cases e1
        · split
          · rename_i hh
            rw [h2] at hh
            rw [hh.1] at e2
            rcases hh.2 with q | q <;> rw [q] at e2 <;> cases e2
          · trivial
    · cases h
noncomputable def runD (call : Caller) (yc : YC) (ops : List (AOper × List Nat)) : List Value → List Value → Nat → HT → List TT → FK → Bool :=
  List.rec (motive := fun _ => List Value → List Value → Nat → HT → List TT → FK → Bool) (fun fr _ n t _ K => K fr n t)
    (fun o _ ih fr tm n t tr K => wantK o.1.g fr tm fun b => Bool.rec (motive := fun _ => Bool)
      (dstK o.1.dst undef fr tm fun fr' tm' => ih fr' tm' n t (tr ++ [⟨9, [], n, t, t⟩]) K)
      (stepF o.1.op call yc fr tm n t fun v n' t' => asT (oblT (clsA o.1.op) (if clsA o.1.op = 1 then readsA (o.1.op.map (AX.ev fr tm)) else if clsA o.1.op = 2 then [n] else []) t t' tr o.2)
        (dstK o.1.dst v fr tm fun fr' tm' => ih fr' tm' n' t' (tr ++ [⟨clsA o.1.op, (if clsA o.1.op = 1 then readsA (o.1.op.map (AX.ev fr tm)) else if clsA o.1.op = 2 then [n] else []), n, t, t'⟩]) K)) b) ops
theorem runD_cons (call : Caller) (yc : YC) (o : AOper × List Nat) (l : List (AOper × List Nat)) (fr tm : List Value) (n : Nat) (t : HT) (tr : List TT) (K : FK) : runD call yc (o :: l) fr tm n t tr K = wantK o.1.g fr tm fun b => Bool.rec (motive := fun _ => Bool)
      (dstK o.1.dst undef fr tm fun fr' tm' => runD call yc l fr' tm' n t (tr ++ [⟨9, [], n, t, t⟩]) K)
      (stepF o.1.op call yc fr tm n t fun v n' t' => asT (oblT (clsA o.1.op) (if clsA o.1.op = 1 then readsA (o.1.op.map (AX.ev fr tm)) else if clsA o.1.op = 2 then [n] else []) t t' tr o.2)
        (dstK o.1.dst v fr tm fun fr' tm' => runD call yc l fr' tm' n' t' (tr ++ [⟨clsA o.1.op, (if clsA o.1.op = 1 then readsA (o.1.op.map (AX.ev fr tm)) else if clsA o.1.op = 2 then [n] else []), n, t, t'⟩]) K)) b := rfl
theorem runD_sound {P : Program} {ng : Nat} {call : Caller} {yc : YC} (hc : CallOK RT P ng call) (hy : YOK RT P ng yc) : ∀ {l : List (AOper × List Nat)} {fr tm : List Value} {n : Nat} {t : HT} {tr : List TT} {tr' : List TE} {K : FK}, runD call yc l fr tm n t tr K = true → TrR RT tr tr' → ∀ {H : AHeap}, Rp RT n t H → RD P ng l fr tm H tr' (FP RT K)
  | [], fr, tm, n, t, tr, tr', K, h, _, H, r => ⟨n, t, r, h⟩
  | (o, un) :: l, fr, tm, n, t, tr, tr', K, h, ht, H, r => by
    rw [runD_cons, wantK_eq] at h
    simp only [RD]
    cases hw : wantA o.g fr tm
    · simp only [hw] at h
      rw [dstK_eq] at h
      simp only [Bool.false_eq_true, if_false]
      exact runD_sound hc hy h (ht.snoc rfl rfl r ⟨n, r⟩) r
    · simp only [hw] at h
      simp only [if_true]
      refine stepA_mono ?_ (stepX_sound hc hy (stepF_true _ _ _ _ _ _ _ _ h) r)
      rintro v H' ⟨n', t', r', h'⟩
      obtain ⟨h1, h2⟩ := asT_true h'
      rw [dstK_eq] at h2
      have e : touchA (o.op.map (AX.ev fr tm)) H = (if clsA o.op = 1 then readsA (o.op.map (AX.ev fr tm)) else if clsA o.op = 2 then [n] else []) := by
        unfold touchA
        rw [cls_map, r.n]
      rw [e]
      exact ⟨oblT_true r r' ht h1, runD_sound hc hy h2 (ht.snoc rfl rfl r ⟨n', r'⟩) r'⟩
theorem cell1K_true {n : Nat} {t : HT} {H : AHeap} (r : Rp RT n t H) {v : Value} {K : Value → Bool} (h : cell1K v t K = true) : ∃ u, cell1 v H = some u ∧ K u = true := by
  unfold cell1K at h
  split at h
  · obtain ⟨o, h1, h2⟩ := r.getK h
    split at h2
    · rw [nthO_eq] at h2
      split at h2
      · rename_i u hu
        exact ⟨u, by simp only [cell1, cellA, h1]; exact hu, h2⟩
      · cases h2
    · cases h2
  · cases h
theorem cellnK_true {n m : Nat} {t : HT} {H : AHeap} (r : Rp RT n t H) {v : Value} {K : Value → Bool} (h : cellnK m v t K = true) : ∃ u, celln m v H = some u ∧ K u = true := by
  unfold cellnK at h
  split at h
  · obtain ⟨o, h1, h2⟩ := r.getK h
    split at h2
    · obtain ⟨h3, h4⟩ := asT_true h2
      exact ⟨_, by simp only [celln, rangeA, h1]; rw [if_pos (Nat.le_of_ble_eq_true h3)]; rfl, h4⟩
    · cases h2
  · cases h
theorem rxsK_true {n : Nat} {t : HT} {H : AHeap} (r : Rp RT n t H) {fr : List Value} : ∀ {l : List RX} {K : List Value → Bool}, rxsK l fr t K = true → ∃ us, resVs fr H l = some us ∧ K us = true
  | [], K, h => ⟨[], rfl, h⟩
  | x :: l, K, h => by
    have h' : rxK x fr t (fun v => rxsK l fr t fun vs => K (v :: vs)) = true := h
    have : ∃ v, x.get fr H = some v ∧ rxsK l fr t (fun vs => K (v :: vs)) = true := by
      cases x with
      | t i => simp only [rxK, nthK_eq] at h'; exact ⟨_, rfl, h'⟩
      | c1 i => simp only [rxK, nthK_eq] at h'; exact cell1K_true r h'
      | cn m i => simp only [rxK, nthK_eq] at h'; exact cellnK_true r h'
    obtain ⟨v, h1, h2⟩ := this
    obtain ⟨us, h3, h4⟩ := rxsK_true r h2
    exact ⟨_, by simp only [resVs, h1, h3], h4⟩
theorem resK_true {n : Nat} {t : HT} {H : AHeap} (r : Rp RT n t H) {res : List RX} {fr : List Value} {K : Value → Bool} (h : resK res fr t K = true) : ∃ v, resO res fr H = some v ∧ K v = true := by
  obtain ⟨us, h1, h2⟩ := rxsK_true r h
  exact ⟨_, by simp only [resO, h1, Option.map_some], h2⟩
noncomputable def rfK (RT : List RDef) : Nat → (RDef → Bool) → Bool :=
  List.rec (motive := fun _ => Nat → (RDef → Bool) → Bool) (fun _ _ => false) (fun d _ ih r K => Nat.rec (motive := fun _ => Bool) (K d) (fun m _ => ih m K) r) RT
theorem rfK_true : ∀ {RT : List RDef} {r : Nat} {K : RDef → Bool}, rfK RT r K = true → ∃ d, RT[r]? = some d ∧ K d = true
  | [], _, _, h => by cases h
  | d :: RT, 0, K, h => ⟨d, rfl, h⟩
  | d :: RT, r + 1, K, h => by
    obtain ⟨x, h1, h2⟩ := rfK_true (RT := RT) (r := r) (K := K) h
    exact ⟨x, by simpa using h1, h2⟩
noncomputable def setPsK (sl : List Nat) : List Nat → List Value → List Value → (List Value → Bool) → Bool
  | [], fr, _, K => K fr
  | _ :: _, fr, [], K => K fr
  | p :: ps, fr, v :: vs, K => match posOf sl p with
    | some i => updK v fr i fun fr => setPsK sl ps fr vs K
    | none => setPsK sl ps fr vs K
theorem setPsK_eq (sl : List Nat) : ∀ (ps : List Nat) (fr vs : List Value) (K : List Value → Bool), setPsK sl ps fr vs K = K (setPs sl fr ps vs)
  | [], fr, _, K => by simp only [setPsK, setPs]
  | _ :: _, fr, [], K => by simp only [setPsK, setPs]
  | p :: ps, fr, v :: vs, K => by
    simp only [setPsK, setPs]
    split
    · rename_i i hi; rw [updK_eq, setPsK_eq sl ps, hi]
    · rename_i hi; rw [setPsK_eq sl ps, hi]
def noRA : ACode → Bool
  | .seq a b => noRA a && noRA b
  | .cond _ a b => noRA a && noRA b
  | .block _ a => noRA a
  | .loop a => noRA a
  | .rangeF .. => false
  | _ => true
def decC (RT : List RDef) : ACode → ACode
  | .seq a b => .seq (decC RT a) (decC RT b)
  | .cond c a b => .cond c (decC RT a) (decC RT b)
  | .block id a => .block id (decC RT a)
  | .loop a => .loop (decC RT a)
  | .rangeF g r sl ps a b => match RT[r]? with
    | some d => .rangeF g d.N d.sl d.ps d.assign d.body
    | none => .rangeF g r sl ps a b
  | c => c
theorem decC_no : ∀ {c : ACode}, noRA c = true → decC RT c = c := by
  intro c
  induction c with
  | seq a b ia ib => intro h; simp only [noRA, Bool.and_eq_true] at h; simp only [decC, ia h.1, ib h.2]
  | cond c a b ia ib => intro h; simp only [noRA, Bool.and_eq_true] at h; simp only [decC, ia h.1, ib h.2]
  | block id a ia => intro h; simp only [noRA] at h; simp only [decC, ia h]
  | loop a ia => intro h; simp only [noRA] at h; simp only [decC, ia h]
  | rangeF => intro h; cases h
  | _ => intro _; rfl
def nrf : ACode → Nat
  | .seq a b => nrf a + nrf b
  | .cond _ a b => nrf a + nrf b
  | .block _ a => nrf a
  | .loop a => nrf a
  | .rangeF .. => 1
  | _ => 0
def encC : ACode → Nat → ACode
  | .seq a b, r => .seq (encC a r) (encC b (r + nrf a))
  | .cond c a b, r => .cond c (encC a r) (encC b (r + nrf a))
  | .block id a, r => .block id (encC a r)
  | .loop a, r => .loop (encC a r)
  | .rangeF g _ _ _ _ _, r => .rangeF g r [] #[] .skip .skip
  | c, _ => c
def RTok (P : Program) (ng : Nat) (RT : List RDef) : Prop := ∀ d ∈ RT, compC P ng d.N d.sl d.assign = some d.aa ∧ compC P ng d.N d.sl d.body = some d.ab ∧ (noRF d.assign && noRF d.body) = true ∧ (nodupB d.sl && d.sl.all (· < d.N)) = true ∧ noRA d.aa = true ∧ noRA d.ab = true
abbrev HF := List Value → Nat → HT → CK → Bool
def HFok (RT : List RDef) (P : Program) (ng k : Nat) (h : HF) : Prop := ∀ xs n t K, h xs n t K = true → ∀ H, Rp RT n t H → ∃ v H', ARun P ng k xs H v H' ∧ KP RT K v H'
theorem HFok.of {P : Program} {ng k : Nat} {h : HF} (hk : ∀ xs n t K, h xs n t K = true → ∀ H, Rp RT n t H → ∃ v, ARun P ng k xs H v H ∧ K v n t = true) : HFok RT P ng k h := fun xs n t K h1 H r => by
  obtain ⟨v, h2, h3⟩ := hk xs n t K h1 H r
  exact ⟨v, H, h2, n, t, r, h3⟩
def EFok (RT : List RDef) (P : Program) (ng k : Nat) (f : EF) : Prop := ∃ af, compF P ng f.sl k = some af ∧ af.sl = f.sl ∧ af.res = f.res ∧ (af.body = decC RT f.body ∨ simpC af.body = decC RT f.body) ∧ argsOK P k f.na = true
theorem ok_sf {P : Program} {ng k na : Nat} {sl : List Nat} {af : AFunc} (h : compF P ng sl k = some af) (hs : af.sl = sl) (ha : argsOK P k na = true) (hn : noRA (simpC af.body) = true := by kernel_rfl) : EFok RT P ng k ⟨na, af.sl, af.res, simpC af.body⟩ := by
  subst hs
  exact ⟨af, h, rfl, rfl, .inr (decC_no hn).symm, ha⟩
theorem ok_rf {P : Program} {ng k na : Nat} {sl : List Nat} {af : AFunc} {r : Nat} (h : compF P ng sl k = some af) (hs : af.sl = sl) (ha : argsOK P k na = true) (hn : decC RT (encC af.body r) = af.body) : EFok RT P ng k ⟨na, af.sl, af.res, encC af.body r⟩ := by
  subst hs
  exact ⟨af, h, rfl, rfl, .inl hn.symm, ha⟩
abbrev Rec := ACode → List Value → Nat → HT → EK → Bool
def QP (RT : List RDef) (K : EK) : AQ := fun e fr H => ∃ n t, Rp RT n t H ∧ K e fr n t = true
def RecOK (RT : List RDef) (P : Program) (ng : Nat) (rec : Rec) : Prop := ∀ c fr n t K, rec c fr n t K = true → ∀ H, Rp RT n t H → W P ng (decC RT c) (QP RT K) fr H
inductive FT
  | leaf
  | node (k : Nat) (f : EF) (l r : FT)
  | hook (k : Nat) (h : HF) (l r : FT)
  | hookR (k : Nat) (h : Caller → YC → Rec → HF) (l r : FT)
  | meth (ty : Nat) (nm : String) (g : FuncId) (r : FT)
noncomputable def FT.find (T : FT) (k : Nat) (K : EF → Bool) (KH : HF → Bool) (KR : (Caller → YC → Rec → HF) → Bool) : Bool :=
  FT.rec (motive := fun _ => Bool) false (fun k' f _ _ l r => Bool.rec (motive := fun _ => Bool) (Bool.rec (motive := fun _ => Bool) r l (Nat.ble k k')) (K f) (Nat.beq k k'))
    (fun k' h _ _ l r => Bool.rec (motive := fun _ => Bool) (Bool.rec (motive := fun _ => Bool) r l (Nat.ble k k')) (KH h) (Nat.beq k k'))
    (fun k' h _ _ l r => Bool.rec (motive := fun _ => Bool) (Bool.rec (motive := fun _ => Bool) r l (Nat.ble k k')) (KR h) (Nat.beq k k')) (fun _ _ _ _ r => r) T
noncomputable def FT.methK (T : FT) (ty : TypeId) (nm : String) (K : FuncId → Bool) : Bool :=
  FT.rec (motive := fun _ => Bool) false (fun _ _ _ _ _ _ => false) (fun _ _ _ _ _ _ => false) (fun _ _ _ _ _ _ => false)
    (fun ty' nm' g _ r => Bool.rec (motive := fun _ => Bool) r (K g) (Nat.beq ty' ty && (nm' == nm))) T
def HRok (RT : List RDef) (P : Program) (ng k : Nat) (h : Caller → YC → Rec → HF) : Prop := ∀ call yc rec, CallOK RT P ng call → YOK RT P ng yc → RecOK RT P ng rec → HFok RT P ng k (h call yc rec)
def FT.ok (RT : List RDef) (P : Program) (ng : Nat) : FT → Prop
  | .leaf => True
  | .node k f l r => EFok RT P ng k f ∧ l.ok RT P ng ∧ r.ok RT P ng
  | .hook k h l r => HFok RT P ng k h ∧ l.ok RT P ng ∧ r.ok RT P ng
  | .hookR k h l r => HRok RT P ng k h ∧ l.ok RT P ng ∧ r.ok RT P ng
  | .meth ty nm g r => methT P ty nm = some g ∧ r.ok RT P ng
theorem FT.find_true {P : Program} {ng : Nat} {k : Nat} {K : EF → Bool} {KH : HF → Bool} {KR : (Caller → YC → Rec → HF) → Bool} : ∀ {T : FT}, T.ok RT P ng → T.find k K KH KR = true → (∃ f, EFok RT P ng k f ∧ K f = true) ∨ (∃ h, HFok RT P ng k h ∧ KH h = true) ∨ ∃ h, HRok RT P ng k h ∧ KR h = true
  | .leaf, _, h => by cases h
  | .node k' f l r, hT, h => by
    have e : (FT.node k' f l r).find k K KH KR = Bool.rec (motive := fun _ => Bool) (Bool.rec (motive := fun _ => Bool) (r.find k K KH KR) (l.find k K KH KR) (Nat.ble k k')) (K f) (Nat.beq k k') := rfl
    rw [e] at h
    cases e1 : Nat.beq k k'
    · rw [e1] at h
      cases e2 : Nat.ble k k'
      · rw [e2] at h; exact FT.find_true hT.2.2 h
      · rw [e2] at h; exact FT.find_true hT.2.1 h
    · rw [e1] at h
      have := Nat.eq_of_beq_eq_true e1
      subst this
      exact .inl ⟨f, hT.1, h⟩
  | .hook k' f l r, hT, h => by
    have e : (FT.hook k' f l r).find k K KH KR = Bool.rec (motive := fun _ => Bool) (Bool.rec (motive := fun _ => Bool) (r.find k K KH KR) (l.find k K KH KR) (Nat.ble k k')) (KH f) (Nat.beq k k') := rfl
    rw [e] at h
    cases e1 : Nat.beq k k'
    · rw [e1] at h
      cases e2 : Nat.ble k k'
      · rw [e2] at h; exact FT.find_true hT.2.2 h
      · rw [e2] at h; exact FT.find_true hT.2.1 h
    · rw [e1] at h
      have := Nat.eq_of_beq_eq_true e1
      subst this
      exact .inr <| .inl ⟨f, hT.1, h⟩
  | .hookR k' f l r, hT, h => by
    have e : (FT.hookR k' f l r).find k K KH KR = Bool.rec (motive := fun _ => Bool) (Bool.rec (motive := fun _ => Bool) (r.find k K KH KR) (l.find k K KH KR) (Nat.ble k k')) (KR f) (Nat.beq k k') := rfl
    rw [e] at h
    cases e1 : Nat.beq k k'
    · rw [e1] at h
      cases e2 : Nat.ble k k'
      · rw [e2] at h; exact FT.find_true hT.2.2 h
      · rw [e2] at h; exact FT.find_true hT.2.1 h
    · rw [e1] at h
      have := Nat.eq_of_beq_eq_true e1
      subst this
      exact .inr <| .inr ⟨f, hT.1, h⟩
  | .meth ty nm g r, hT, h => FT.find_true (T := r) hT.2 h
theorem FT.methK_true {P : Program} {ng : Nat} {ty : TypeId} {nm : String} {K : FuncId → Bool} : ∀ {T : FT}, T.ok RT P ng → T.methK ty nm K = true → ∃ g, methT P ty nm = some g ∧ K g = true
  | .leaf, _, h => by cases h
  | .node .., _, h => by cases h
  | .hook .., _, h => by cases h
  | .hookR .., _, h => by cases h
  | .meth ty' nm' g r, hT, h => by
    have e : (FT.meth ty' nm' g r).methK ty nm K = Bool.rec (motive := fun _ => Bool) (r.methK ty nm K) (K g) (Nat.beq ty' ty && (nm' == nm)) := rfl
    rw [e] at h
    cases hb : (Nat.beq ty' ty && (nm' == nm))
    · rw [hb] at h; exact FT.methK_true (T := r) hT.2 h
    · rw [hb] at h
      rw [Bool.and_eq_true] at hb
      have e1 := Nat.eq_of_beq_eq_true hb.1
      have e2 : nm' = nm := eq_of_beq hb.2
      subst e1 e2
      exact ⟨g, hT.1, h⟩
noncomputable def roundK (b : Nat) (K : CK) : EK := fun e _ n t => t.getK b fun ao => match ao with
  | .loop true _ _ L => match e with
    | .normal => t.setK b (.loop true .ready none L) fun t' => K (.bool true) n t'
    | .ret => t.setK b (.loop true .done (some .ret) L) fun t' => K (.bool false) n t'
    | .exit id => t.setK b (.loop true .done (some (.exit id)) L) fun t' => K (.bool false) n t'
    | _ => false
  | _ => false
noncomputable def busyK (rec : Rec) (ab : ACode) (b : Nat) (K : CK) : EK := fun e fr n t => match e with
  | .normal => t.getK b fun ao => match ao with
    | .loop true .ready pe L => t.setK b (.loop true .busy pe L) fun t' => rec ab fr n t' (roundK b K)
    | _ => false
  | _ => false
noncomputable def yieldE (RT : List RDef) (rec : Rec) : Nat → List Value → Nat → HT → CK → Bool := fun b xs n t K => t.getK b fun ao => match ao with
  | .loop true .ready pe L => rfK RT L.N fun d => asT (Nat.beq d.ps.size xs.length) (setPsK d.sl d.ps.toList L.fr xs fun fr0 => rec d.aa fr0 n t (busyK rec d.ab b K))
  | _ => false
noncomputable def callB (T : FT) (rec : Rec) : Caller := fun f xs n t K => T.find f (fun ef => asT (Nat.beq xs.length ef.na) (initK ef.sl xs fun fr => rec ef.body fr n t fun e fr n t => match e with
  | .normal => resK ef.res fr t fun v => K v n t
  | .ret => resK ef.res fr t fun v => K v n t
  | _ => false)) (fun h => h xs n t K) (fun _ => false)
noncomputable def ycE (T : FT) (RT : List RDef) (rec : Rec) (call : Caller) : YC := ⟨yieldE RT rec, fun ty nm xs n t K => T.methK ty nm fun g => call g xs n t K⟩
noncomputable def callE (T : FT) (RT : List RDef) (rec : Rec) : Caller := fun f xs n t K => T.find f (fun ef => asT (Nat.beq xs.length ef.na) (initK ef.sl xs fun fr => rec ef.body fr n t fun e fr n t => match e with
  | .normal => resK ef.res fr t fun v => K v n t
  | .ret => resK ef.res fr t fun v => K v n t
  | _ => false)) (fun h => h xs n t K) (fun h => h (callB T rec) (ycE T RT rec (callB T rec)) rec xs n t K)
noncomputable def outK (b : Nat) (fr : List Value) (K : EK) : CK := fun _ n t => t.getK b fun ao => match ao with
  | .loop true st pe _ => match st with
    | .busy => false
    | _ => match pe with
      | none => t.setK b .dead fun t3 => K .normal fr n t3
      | some .ret => t.setK b .dead fun t3 => K .ret fr n t3
      | some (.exit id) => t.setK b .dead fun t3 => K (.exit id) fr n t3
      | _ => false
  | _ => false
noncomputable def rangeE (T : FT) (RT : List RDef) (call : Caller) (g : AX) (ri : Nat) (fr : List Value) (n : Nat) (t : HT) (K : EK) : Bool := evX g fr [] fun v => match v with
  | .func (.func gf) first cap => asT (T.find gf (fun _ => true) (fun _ => false) (fun _ => false)) (rfK RT ri fun _ => t.setK n (.loop true .ready none ⟨ri, [], fr, #[], .skip, .skip⟩) fun t1 => forceN (n + 1) fun n1 =>
      call gf (first.toList ++ [.chan (some n)] ++ cap.toList) n1 t1 (outK n fr K))
  | _ => false
noncomputable def runS (T : FT) (RT : List RDef) (rec : Rec) (c : ACode) : List Value → Nat → HT → EK → Bool :=
  ACode.rec (motive := fun _ => List Value → Nat → HT → EK → Bool)
    (fun fr n t K => K .normal fr n t)
    (fun ops fr n t K => runOps (callE T RT rec) (ycE T RT rec (callE T RT rec)) ops fr [] n t fun fr n t => K .normal fr n t)
    (fun ops fr n t K => runD (callE T RT rec) (ycE T RT rec (callE T RT rec)) ops fr [] n t [] fun fr n t => K .normal fr n t)
    (fun _ _ iha ihb fr n t K => iha fr n t (seqK ihb K))
    (fun c _ _ iht ihe fr n t K => evX c fr [] fun v => condK v (iht fr n t K) (ihe fr n t K))
    (fun id _ ih fr n t K => ih fr n t (blockK id K))
    (fun c ih fr n t K => ih fr n t (seqK (rec (.loop c)) K))
    (fun id fr n t K => K (.exit id) fr n t)
    (fun fr n t K => K .ret fr n t)
    (fun g ri _ _ _ _ => rangeE T RT (callE T RT rec) g ri) c
noncomputable def run (T : FT) (RT : List RDef) (fuel : Nat) : Rec :=
  Nat.rec (motive := fun _ => Rec) (fun _ _ _ _ _ => false) (fun _ ih => runS T RT ih) fuel
theorem QP_seq {P : Program} {ng : Nat} {c : ACode} {K : EK} {ihb : List Value → Nat → HT → EK → Bool} (hb : ∀ fr n t, ihb fr n t K = true → ∀ H, Rp RT n t H → W P ng c (QP RT K) fr H) (e : Exit) (fr : List Value) (H : AHeap) (h : QP RT (seqK ihb K) e fr H) : AQ.andThen (QP RT K) (W P ng c (QP RT K)) e fr H := by
  obtain ⟨n, t, r, h⟩ := h
  cases e with
  | normal => exact hb fr n t h H r
  | exit id => exact ⟨n, t, r, h⟩
  | ret => exact ⟨n, t, r, h⟩
  | goto l => exact ⟨n, t, r, h⟩
  | panic ch => exact ⟨n, t, r, h⟩
  | outgrown => exact ⟨n, t, r, h⟩
section
variable {P : Program} {ng : Nat} {T : FT}
theorem node_ok {rec : Rec} (hr : RecOK RT P ng rec) {f : FuncId} {xs : List Value} {n : Nat} {t : HT} {K : CK} {ef : EF} (he : EFok RT P ng f ef) (h6 : asT (Nat.beq xs.length ef.na) (initK ef.sl xs fun fr => rec ef.body fr n t fun e fr n t => match e with
  | .normal => resK ef.res fr t fun v => K v n t
  | .ret => resK ef.res fr t fun v => K v n t
  | _ => false) = true) {H : AHeap} (r : Rp RT n t H) : ∃ v H', ARun P ng f xs H v H' ∧ KP RT K v H' := by
  obtain ⟨af, h1, h2, h3, h4, h5⟩ := he
  obtain ⟨h7, h8⟩ := asT_true h6
  have hlen := Nat.eq_of_beq_eq_true h7
  rw [initK_eq] at h8
  have hw := hr _ _ _ _ _ h8 H r
  have hw2 : W P ng af.body (QP RT fun e fr n t => match e with
    | .normal => resK ef.res fr t fun v => K v n t
    | .ret => resK ef.res fr t fun v => K v n t
    | _ => false) (initFr ef.sl xs) H := by
    rcases h4 with h4 | h4
    · rw [h4]; exact hw
    · rw [← h4] at hw; exact W_simp af.body hw
  refine walk h1 (by rw [hlen]; exact h5) ?_
  rw [h2]
  refine W_mono ?_ hw2
  rintro e fr H' ⟨n', t', r', h'⟩
  cases e with
  | normal => obtain ⟨v, h9, h10⟩ := resK_true r' h'; rw [h3]; exact ⟨v, h9, n', t', r', h10⟩
  | ret => obtain ⟨v, h9, h10⟩ := resK_true r' h'; rw [h3]; exact ⟨v, h9, n', t', r', h10⟩
  | exit id => cases h'
  | goto l => cases h'
  | panic ch => cases h'
  | outgrown => cases h'
theorem callB_ok (hT : T.ok RT P ng) {rec : Rec} (hr : RecOK RT P ng rec) : CallOK RT P ng (callB T rec) := by
  intro f xs n t K h H r
  rcases FT.find_true hT h with ⟨ef, he, h6⟩ | ⟨hf, h1, h2⟩ | ⟨hf, h1, h2⟩
  · exact node_ok hr he h6 r
  · exact h1 xs n t K h2 H r
  · cases h2
theorem roundK_ok {b : Nat} {K : CK} (e : Exit) (fr : List Value) (H : AHeap) (h : QP RT (roundK b K) e fr H) : roundQ b (KP RT K) e fr H := by
  obtain ⟨n, t, r, h⟩ := h
  obtain ⟨o, h1, h2⟩ := r.getd h
  split at h2
  · rename_i x y L
    unfold roundQ
    rw [h1]
    simp only [dec]
    have hs : (H.get b).isSome = true := by rw [h1]; rfl
    split at h2
    · obtain ⟨t', h3, h4⟩ := r.setd hs h2; exact ⟨n, t', h4, h3⟩
    · obtain ⟨t', h3, h4⟩ := r.setd hs h2; exact ⟨n, t', h4, h3⟩
    · obtain ⟨t', h3, h4⟩ := r.setd hs h2; exact ⟨n, t', h4, h3⟩
    · cases h2
  · cases h2
theorem yieldE_ok (hR : RTok P ng RT) {rec : Rec} (hr : RecOK RT P ng rec) : ∀ b xs n t K, yieldE RT rec b xs n t K = true → ∀ H, Rp RT n t H → ∃ v H', AYield P ng b xs H v H' ∧ KP RT K v H' := by
  intro b xs n t K h H r
  obtain ⟨o, h1, h2⟩ := r.getd h
  split at h2
  · rename_i pe L
    obtain ⟨d, h3, h4⟩ := rfK_true h2
    obtain ⟨h5, h6⟩ := asT_true h4
    rw [setPsK_eq] at h6
    obtain ⟨q1, q2, q3, q4, q5, q6⟩ := hR d (List.mem_of_getElem? h3)
    have hd : decL RT L = ⟨d.N, d.sl, L.fr, d.ps, d.assign, d.body⟩ := by unfold decL; rw [h3]
    simp only [dec, hd] at h1
    refine yield_of h1 q1 q2 q3 q4 (Nat.eq_of_beq_eq_true h5) ?_
    have hw := hr _ _ _ _ _ h6 H r
    rw [decC_no q5] at hw
    refine W_mono ?_ hw
    rintro e fr1 H1 ⟨n1, t1, r1, h7⟩
    unfold busyK at h7
    split at h7
    · refine ⟨rfl, ?_⟩
      obtain ⟨o1, g1, g2⟩ := r1.getd h7
      split at g2
      · rename_i pe1 L1
        refine ⟨pe1, decL RT L1, g1, ?_⟩
        obtain ⟨t2, g3, g4⟩ := r1.setd (by rw [g1]; rfl) g2
        have hw2 := hr _ _ _ _ _ g3 _ g4
        rw [decC_no q6] at hw2
        exact W_mono (fun e fr H h => roundK_ok e fr H h) hw2
      · cases g2
    · cases h7
  · cases h2
theorem ycE_ok (hT : T.ok RT P ng) (hR : RTok P ng RT) {rec : Rec} (hr : RecOK RT P ng rec) {call : Caller} (hc : CallOK RT P ng call) : YOK RT P ng (ycE T RT rec call) := by
  refine ⟨yieldE_ok hR hr, ?_⟩
  intro ty nm xs n t K h H r
  obtain ⟨g, h1, h2⟩ := FT.methK_true hT h
  exact ⟨g, h1, hc _ _ _ _ _ h2 H r⟩
theorem callE_ok (hT : T.ok RT P ng) (hR : RTok P ng RT) {rec : Rec} (hr : RecOK RT P ng rec) : CallOK RT P ng (callE T RT rec) := by
  intro f xs n t K h H r
  rcases FT.find_true hT h with ⟨ef, he, h6⟩ | ⟨hf, h1, h2⟩ | ⟨hf, h1, h2⟩
  · exact node_ok hr he h6 r
  · exact h1 xs n t K h2 H r
  · exact h1 _ _ _ (callB_ok hT hr) (ycE_ok hT hR hr (callB_ok hT hr)) hr xs n t K h2 H r
theorem bodied_find (hT : T.ok RT P ng) {g : FuncId} (h : T.find g (fun _ => true) (fun _ => false) (fun _ => false) = true) : Bodied P g := by
  rcases FT.find_true hT h with ⟨ef, ⟨af, h1, _⟩, _⟩ | ⟨hf, h1, h2⟩ | ⟨hf, h1, h2⟩
  · unfold compF at h1
    split at h1
    · cases h1
    · rename_i fn hfn
      split at h1
      · cases h1
      · rename_i c hb
        split at h1
        · rename_i hcond
          simp only [Bool.and_eq_true, Bool.not_eq_true'] at hcond
          exact ⟨fn, hfn, by simp [hb], hcond.2⟩
        · cases h1
  · cases h2
  · cases h2
theorem outK_ok {b : Nat} {fr : List Value} {K : EK} {v : Value} {H : AHeap} (h : KP RT (outK b fr K) v H) : afterR (QP RT K) fr b H := by
  obtain ⟨n, t, r, h⟩ := h
  obtain ⟨o, h1, h2⟩ := r.getd h
  split at h2
  · rename_i st pe L
    unfold afterR
    rw [h1]
    simp only [dec]
    have hs : (H.get b).isSome = true := by rw [h1]; rfl
    split at h2
    · cases h2
    · rename_i hst
      refine ⟨hst, ?_⟩
      split at h2
      · obtain ⟨t', h3, h4⟩ := r.set hs h2; exact ⟨n, t', h4, h3⟩
      · obtain ⟨t', h3, h4⟩ := r.set hs h2; exact ⟨n, t', h4, h3⟩
      · obtain ⟨t', h3, h4⟩ := r.set hs h2; exact ⟨n, t', h4, h3⟩
      · cases h2
  · cases h2
theorem rangeE_ok (hT : T.ok RT P ng) {call : Caller} (hc : CallOK RT P ng call) {g : AX} {ri : Nat} {sl : List Nat} {ps : Array Tmp} {a b : Code} {fr : List Value} {n : Nat} {t : HT} {K : EK} (h : rangeE T RT call g ri fr n t K = true) {H : AHeap} (r : Rp RT n t H) : W P ng (decC RT (.rangeF g ri sl ps a b)) (QP RT K) fr H := by
  unfold rangeE at h
  rw [evX_eq] at h
  split at h
  · rename_i gf first cap hg
    obtain ⟨h1, h2⟩ := asT_true h
    obtain ⟨d, h3, h4⟩ := rfK_true h2
    obtain ⟨t1, h5, h6⟩ := r.allocd h4
    rw [forceN_eq] at h5
    simp only [decC, h3]
    refine W_rangeF hg (bodied_find hT h1) ?_
    have hn := r.n
    have hd : dec RT (.loop true .ready none ⟨ri, [], fr, #[], .skip, .skip⟩) = .loop true .ready none ⟨d.N, d.sl, fr, d.ps, d.assign, d.body⟩ := by
      simp only [dec, decL, h3]
    rw [hd] at h6
    rw [hn]
    obtain ⟨v, H1, h7, h8⟩ := hc _ _ _ _ _ h5 _ h6
    exact ⟨v, H1, h7, outK_ok h8⟩
  · cases h
theorem runS_sound (hT : T.ok RT P ng) (hR : RTok P ng RT) {rec : Rec} (hr : RecOK RT P ng rec) : RecOK RT P ng (runS T RT rec) := by
  have hcall := callE_ok hT hR hr
  have hy := ycE_ok hT hR hr hcall
  intro c
  induction c with
  | skip => intro fr n t K h H r; exact ⟨n, t, r, h⟩
  | reg ops => intro fr n t K h H r; exact runOps_sound hcall hy (K := fun fr n t => K .normal fr n t) h r
  | dreg ops => intro fr n t K h H r; exact runD_sound hcall hy (K := fun fr n t => K .normal fr n t) h .nil r
  | seq a b iha ihb =>
    intro fr n t K h H r
    show W P ng (decC RT a) (AQ.andThen (QP RT K) (W P ng (decC RT b) (QP RT K))) fr H
    exact W_mono (QP_seq (fun fr n t h H r => ihb fr n t K h H r)) (iha fr n t _ h H r)
  | cond c a b iha ihb =>
    intro fr n t K h H r
    have e : runS T RT rec (.cond c a b) fr n t K = evX c fr [] fun v => condK v (runS T RT rec a fr n t K) (runS T RT rec b fr n t K) := rfl
    rw [e, evX_eq] at h
    simp only [decC, W]
    unfold condK at h
    split at h
    · rename_i tt ht
      rw [ht]
      cases tt
      · exact ihb fr n t K h H r
      · exact iha fr n t K h H r
    · cases h
  | block id c ih =>
    intro fr n t K h H r
    show W P ng (decC RT c) (AQ.inBlock (QP RT K) id) fr H
    refine W_mono ?_ (ih fr n t _ h H r)
    rintro e fr' H' ⟨n', t', r', h'⟩
    cases e with
    | exit id' =>
      simp only [blockK] at h'
      simp only [AQ.inBlock]
      cases e : Nat.beq id' id
      · rw [e] at h'
        rw [if_neg (fun hh => by subst hh; rw [Nat.beq_refl] at e; cases e)]
        exact ⟨n', t', r', h'⟩
      · rw [e] at h'
        rw [if_pos (Nat.eq_of_beq_eq_true e)]
        exact ⟨n', t', r', h'⟩
    | normal => exact ⟨n', t', r', h'⟩
    | ret => exact ⟨n', t', r', h'⟩
    | goto l => exact ⟨n', t', r', h'⟩
    | panic ch => exact ⟨n', t', r', h'⟩
    | outgrown => exact ⟨n', t', r', h'⟩
  | loop c ih =>
    intro fr n t K h H r
    exact W_again (W_mono (QP_seq (c := .loop (decC RT c)) (fun fr n t h H r => hr (.loop c) fr n t K h H r)) (ih fr n t _ h H r))
  | exit id => intro fr n t K h H r; exact ⟨n, t, r, h⟩
  | ret => intro fr n t K h H r; exact ⟨n, t, r, h⟩
  | rangeF g N sl ps a b => intro fr n t K h H r; exact rangeE_ok hT hcall h r
theorem run_sound (hT : T.ok RT P ng) (hR : RTok P ng RT) : ∀ (fuel : Nat), RecOK RT P ng (run T RT fuel)
  | 0 => fun c fr n t K h => by cases h
  | m + 1 => runS_sound hT hR (rec := run T RT m) (run_sound hT hR m)
noncomputable def runF (T : FT) (RT : List RDef) (fuel : Nat) (f : FuncId) (xs : List Value) (n : Nat) (t : HT) (K : CK) : Bool := callE T RT (run T RT fuel) f xs n t K
theorem runF_sound (hT : T.ok RT P ng) (hR : RTok P ng RT) {fuel : Nat} {f : FuncId} {xs : List Value} {n : Nat} {t : HT} {K : CK} (h : runF T RT fuel f xs n t K = true) {H : AHeap} (r : Rp RT n t H) : ∃ v H', ARun P ng f xs H v H' ∧ KP RT K v H' :=
  callE_ok hT hR (run_sound hT hR fuel) f xs n t K h H r
end
theorem Rp.empty : Rp RT 0 .leaf ⟨0, []⟩ := ⟨rfl, fun b => rfl⟩
theorem closed_any {P : Program} {T : FT} (hT : T.ok RT P 0) (hR : RTok P 0 RT) {fuel : Nat} {f : FuncId} (h : runF T RT fuel f [] 0 .leaf isTrue = true) (H : AHeap) : ARun P 0 f [] H (.bool true) H := by
  obtain ⟨v, H', ⟨h0, _, h1⟩, h2⟩ := runF_sound hT hR h Rp.empty
  obtain ⟨n, t, _, h2⟩ := h2
  have hv : v = .bool true := by
    unfold isTrue at h2
    split at h2
    · cases h2; rfl
    · cases h2
  subst hv
  refine ⟨h0, Nat.le_refl _, fun σ w args' hr ha => ?_⟩
  cases ha
  refine (h1 (fun _ => none) w [] (HR.empty w) .nil).mono ?_
  rintro e w' ⟨v', σ', rfl, k1, k2, k3⟩
  have hk : ∀ k, k < w.heap.size → w'.heap[k]? = w.heap[k]? := fun k hk => k2.keep k hk (fun b i o hb => by cases hb)
  have hsz := k2.size
  refine ⟨v', σ, rfl, ⟨fun b i hb => ?_, hr.inj, fun b i hb => Nat.lt_of_lt_of_le (hr.lt b i hb) hsz, hr.glob⟩, ⟨Sg.le.refl σ, (fun b i h1 h2 => by rw [h1] at h2; cases h2), fun _ _ o' _ a b => ⟨o', a, b⟩, fun _ _ o' _ a b => ⟨o', a, b⟩, fun k a _ => hk k a, hsz, Nat.le_refl _, k2.os, k2.tape, k2.output⟩, ?_⟩
  · obtain ⟨o, a1, a2⟩ := hr.obj b i hb
    exact ⟨o, a1, a2.congr (fun _ => hk _ (hr.lt b i hb))⟩
  · rw [k3.bool_inv]; exact .bool _
end Ev
end Go.AM

set_option linter.unusedSimpArgs false
set_option linter.unusedVariables false
namespace Go.AM
def WR (H : AHeap) (e esz : Nat) (v : Value) (n : Nat) (c : List Value) : Prop :=
  (v = .slice none 0 0 ∧ n = 0 ∧ c = []) ∨ ∃ b k room d, v = slc b 0 n k ∧ n ≤ k ∧ d.length = k * esz ∧ d.take (n * esz) = c ∧ H.get b = some (.cells true room esz d e)
section
variable {H H' : AHeap} {e esz : Nat} {v : Value} {n : Nat} {c : List Value}
theorem AP.wr (h : AP H e esz v n c) : WR H e esz v n c := by
  rcases h with h | ⟨b, room, rfl, h1, h2⟩
  · exact .inl h
  · exact .inr ⟨b, n, room, c, rfl, Nat.le_refl _, h1, by rw [← h1, List.take_length], h2⟩
theorem WR.len (h : WR H e esz v n c) : c.length = n * esz := by
  rcases h with ⟨rfl, rfl, rfl⟩ | ⟨b, k, room, d, rfl, h1, h2, rfl, h4⟩
  · simp
  · have := Nat.mul_le_mul_right esz h1
    rw [List.length_take, h2]; omega
theorem WR.elems (h : WR H e esz v n c) : elemsA H esz v = some c := by
  rcases h with ⟨rfl, rfl, rfl⟩ | ⟨b, k, room, d, rfl, h1, h2, rfl, h4⟩
  · rfl
  · have := Nat.mul_le_mul_right esz h1
    simp only [elemsA, slc, h4]
    rw [if_pos (by omega), List.drop_zero]
theorem WR.shape (h : WR H e esz v n c) : ∃ a k, v = .slice a n k := by
  rcases h with ⟨rfl, rfl, rfl⟩ | ⟨b, k, room, d, rfl, h1, h2, h3, h4⟩
  · exact ⟨_, _, rfl⟩
  · exact ⟨_, _, rfl⟩
theorem WR.is (h : WR H e esz v n c) : isS v = true := by obtain ⟨a, k, rfl⟩ := h.shape; rfl
theorem WR.lenS (h : WR H e esz v n c) : Go.AM.lenS v = n := by obtain ⟨a, k, rfl⟩ := h.shape; rfl
theorem WR.one (h : WR H e esz v n c) : v.oneCell' = true := by obtain ⟨a, k, rfl⟩ := h.shape; rfl
theorem WR.lt (h : WR H e esz v n c) {b : Nat} (hb : blk v = some b) : b < H.n := by
  rcases h with ⟨rfl, rfl, rfl⟩ | ⟨b', k, room, d, rfl, h1, h2, h3, h4⟩
  · cases hb
  · cases hb; exact AHeap.get_lt h4
theorem WR.chg {S : List Nat} (h : WR H e esz v n c) (k : Chg S H H') (hS : ∀ x ∈ blkL v, x ∉ S) : WR H' e esz v n c := by
  rcases h with h | ⟨b, m, room, d, rfl, h1, h2, h3, h4⟩
  · exact .inl h
  · exact .inr ⟨b, m, room, d, rfl, h1, h2, h3, k.at_ h4 (hS b (mem_blkL.2 rfl))⟩
theorem WR.keeps (h : WR H e esz v n c) (k : Keeps H H') : WR H' e esz v n c := h.chg (k.chg []) (by simp)
theorem WR.sl {rows : List (List Value)} (h : WR H e esz v n rows.flatten) (hr : ∀ r ∈ rows, r.length = esz) (hn : n = rows.length) : Sl H esz v rows := by
  obtain ⟨a, k, rfl⟩ := h.shape
  exact ⟨⟨a, k, by rw [hn]⟩, hr, h.elems⟩
theorem WR.app {bytes m : Nat} {news : List Value} (h : WR H e esz v n c) (hm : news.length = m * esz) (hs : (n + m) * bytes ≤ 140737488355328 ∧ n + m ≤ 140737488355328) :
    ∃ v' H', appA H e esz bytes v m news = some (v', H') ∧ WR H' e esz v' (n + m) (c ++ news) ∧ Chg (blkL v) H H' ∧ (blk v' = blk v ∨ blk v' = some H.n) := by
  rcases h with ⟨rfl, rfl, rfl⟩ | ⟨b, k, room, d, rfl, h1, h2, h3, h4⟩
  · obtain ⟨v', H', a, b, d⟩ := AP.app (H := H) (e := e) (esz := esz) (v := .slice none 0 0) (n := 0) (c := []) (.inl ⟨rfl, rfl, rfl⟩) hm hs
    exact ⟨v', H', a, b.wr, d⟩
  · simp only [appA, slc]
    by_cases hm0 : m = 0
    · subst hm0
      have : news = [] := by rw [← List.length_eq_zero_iff]; omega
      subst this
      rw [if_pos rfl]
      exact ⟨_, _, rfl, .inr ⟨b, k, room, d, rfl, h1, h2, by simpa using h3, h4⟩, Chg.refl _ _, .inl rfl⟩
    · have hle := Nat.mul_le_mul_right esz h1
      have hc : c.length = n * esz := by rw [← h3, List.length_take, h2]; omega
      have hnm : (n + m) * esz = n * esz + m * esz := Nat.add_mul _ _ _
      rw [if_neg hm0, if_pos hs]
      simp only [h4, true_and]
      rw [if_pos (show 0 + k * esz ≤ d.length by omega)]
      by_cases hk : n + m ≤ k
      · have hle2 := Nat.mul_le_mul_right esz hk
        rw [if_pos hk]
        simp only [if_true]
        refine ⟨_, _, rfl, .inr ⟨b, k, room, _, rfl, hk, ?_, ?_, AHeap.get_set_same h4 _⟩, Chg.set H (AHeap.get_lt h4) _, .inl rfl⟩
        · rw [List.length_append, List.length_append, List.length_take, List.length_drop, hm]; omega
        · rw [Nat.zero_add, h3, List.take_append_of_le_length (by rw [List.length_append, hc, hm]; omega), List.take_of_length_le (by rw [List.length_append, hc, hm]; omega)]
      · rw [if_neg hk, List.drop_zero, h3]
        have hlen : (c ++ news).length = (n + m) * esz := by rw [List.length_append, hc, hm, Nat.add_mul]
        split
        · exact ⟨_, _, rfl, .inr ⟨H.n, n + m, true, _, rfl, Nat.le_refl _, hlen, by rw [← hlen, List.take_length], AHeap.get_alloc_new H _⟩, (Chg.refl _ _).alloc _, .inr rfl⟩
        · exact ⟨_, _, rfl, .inr ⟨H.n, n + m, true, _, rfl, Nat.le_refl _, hlen, by rw [← hlen, List.take_length], AHeap.get_alloc_new (H.set b .dead) _⟩, (Chg.set H (AHeap.get_lt h4) _).alloc _, .inr rfl⟩
end
section
variable {P : Program} {ng : Nat} {H : AHeap} {KF : List Value → AHeap → Prop} {fr tm : List Value} {tr : List TE} {e esz : Nat} {v : Value} {n : Nat} {c : List Value}
end
end Go.AM

set_option linter.unusedSimpArgs false
set_option linter.unusedVariables false
namespace Go.AM
structure SepH (H K : AHeap) (ts : List Th) : Prop where
  sep : Sep K ts
  k : Keeps H K
  ge : ∀ t ∈ ts, ∀ y ∈ t.F, H.n ≤ y
section
variable {H K K' : AHeap} {t t' a b c d : Th} {r ts : List Th}
theorem SepH.keeps (h : SepH H K ts) (k : Keeps K K') : SepH H K' ts := ⟨h.sep.keeps k, h.k.trans k, h.ge⟩
theorem SepH.upd {l : List Th} (h : SepH H K (l ++ t :: r)) (c : Chg t.F K K') (hp : t'.P K') (hf : ∀ y ∈ t'.F, y ∈ t.F ∨ K.n ≤ y) : SepH H K' (l ++ t' :: r) := by
  refine ⟨h.sep.upd c hp hf, h.k.chg_trans c (fun y hy => h.ge t (by simp) y hy), fun x hx y hy => ?_⟩
  rcases List.mem_append.1 hx with hx | hx
  · exact h.ge x (by simp [hx]) y hy
  · rcases List.mem_cons.1 hx with rfl | hx
    · rcases hf y hy with e | e
      · exact h.ge t (by simp) y e
      · have := h.k.n; omega
    · exact h.ge x (by simp [hx]) y hy
theorem SepH.at_ (h : SepH H K ts) (i : Nat) (hi : ts[i]? = some t) : t.P K := h.sep.get i hi
theorem SepH.apart (h : SepH H K ts) (i j : Nat) (hij : i < j) (hi : ts[i]? = some a) (hj : ts[j]? = some b) {y : Nat} (hy : y ∈ a.F) : y ∉ b.F := h.sep.apart i j hij hi hj y hy
theorem SepH.lt (h : SepH H K ts) (i : Nat) (hi : ts[i]? = some t) {y : Nat} (hy : y ∈ t.F) : y < K.n := t.lt K (h.at_ i hi) y hy
theorem SepH.gei (h : SepH H K ts) (i : Nat) (hi : ts[i]? = some t) {y : Nat} (hy : y ∈ t.F) : H.n ≤ y := h.ge t (List.mem_of_getElem? hi) y hy
theorem SepH.old (h : SepH H K ts) (i : Nat) (hi : ts[i]? = some t) {y : Nat} (hy : y < H.n) : y ∉ t.F := fun hf => by have := h.gei i hi hf; omega
theorem SepH.add (h : SepH H K ts) (k : Keeps K K') (hp : t.P K') (hf : ∀ y ∈ t.F, K.n ≤ y) : SepH H K' (t :: ts) :=
  ⟨h.sep.add k hp hf, h.k.trans k, fun x hx y hy => by
    rcases List.mem_cons.1 hx with rfl | hx
    · have := hf y hy; have := h.k.n; omega
    · exact h.ge x hx y hy⟩
theorem SepH.nil (H : AHeap) : SepH H H [] := ⟨Sep.nil H, Keeps.refl H, by simp⟩
end
end Go.AM

set_option linter.unusedSimpArgs false
set_option linter.unusedVariables false
namespace Go.AM
section
variable {P : Program} {ng : Nat} {H : AHeap} {Q : AQ} {fr tm : List Value}
end
theorem blen (ba : ByteArray) : ba.data.toList.length = ba.size := Array.length_toList
theorem bloop {β : Type} (f : β → UInt8 → β) (ba : ByteArray) : ∀ (i j : Nat) (b : β), j + i = ba.size →
    ByteArray.foldlM.loop (m := _root_.Id) (fun b x => pure (f b x)) ba ba.size (Nat.le_refl _) i j b = (ba.data.toList.drop j).foldl f b := by
  intro i
  induction i with
  | zero =>
    intro j b h
    unfold ByteArray.foldlM.loop
    rw [dif_neg (by omega), List.drop_of_length_le (by rw [blen]; omega)]
    rfl
  | succ i ih =>
    intro j b h
    unfold ByteArray.foldlM.loop
    have hj : j < ba.size := by omega
    rw [dif_pos hj]
    have hl : j < ba.data.toList.length := by rw [blen]; exact hj
    rw [List.drop_eq_getElem_cons hl, List.foldl_cons]
    exact ih (j + 1) _ (by omega)
theorem bfold {β : Type} (f : β → UInt8 → β) (ba : ByteArray) (b : β) : ba.foldl f b = ba.data.toList.foldl f b := by
  unfold ByteArray.foldl ByteArray.foldlM
  rw [dif_pos (Nat.le_refl _)]
  exact bloop f ba ba.size 0 b (by omega)
def cB (c : UInt8) : List UInt8 → Nat
  | [] => 0
  | x :: l => if x = c then cB c l + 1 else cB c l
theorem cB_fold (c : UInt8) : ∀ (l : List UInt8) (n : Int), l.foldl (fun (n : Int) x => if x == c then n + 1 else n) n = n + (cB c l : Int)
  | [], n => by simp [cB]
  | x :: l, n => by
    rw [List.foldl_cons, cB_fold]
    by_cases h : x = c
    · have e : cB c (x :: l) = cB c l + 1 := by simp [cB, h]
      rw [e, if_pos (by simpa using h)]; push_cast; omega
    · have e : cB c (x :: l) = cB c l := by simp [cB, h]
      rw [e, if_neg (by simpa using h)]
end Go.AM

set_option linter.unusedSimpArgs false
set_option linter.unusedVariables false
namespace Go.AM
namespace Ev
variable {RT : List RDef} {P : Program} {ng : Nat}
theorem arun_extH {H : AHeap} {f : FuncId} {fn : Func} {e : Array Value → Sem Value} (hf : P.funcs[f]? = some fn) (hname : (fn.name == "runtime.NumGoroutine") = false) (hb : fn.body.isNone = true) (hn : Extern.findNext fn = none) (he : Extern.find fn = some e)
    {args : List Value} {v : Value} (hv : ∀ σ, VR σ v v) (h : ∀ σ w args', HR ng σ H.get w → VL σ args args' → (e args'.toArray).run P w = .ok v w) : ARun P ng f args H v H := by
  refine ⟨⟨fn, hf⟩, Nat.le_refl _, fun σ w args' hr ha => ?_⟩
  refine .ext v w ?_ ⟨v, σ, rfl, hr, Ext.refl _ _ _ _, hv σ⟩
  rw [run_callFunc_extern hf hname hb hn he, h σ w args' hr ha]
  rfl
theorem run_lbytes {w : World} : ∀ (zs : List Int) (a : Addr) (acc : ByteArray), (∀ (j : Nat) (v : Value), (zs.map (Value.int .u8))[j]? = some v → w.cell? (a.add j) = some v) →
    (Extern.Bytes.loadBytes a zs.length acc).run P w = .ok (zs.foldl (fun r n => r.push (UInt8.ofNat n.toNat)) acc) w
  | [], a, acc, _ => by simp [Extern.Bytes.loadBytes]
  | z :: zs, a, acc, h => by
    have h0 : w.cell? a = some (.int .u8 z) := by
      have := h 0 _ rfl
      simpa [Addr.add] using this
    have ih := run_lbytes zs (a.add 1) (acc.push z.toNat.toUInt8) (fun j v hv => by
      have := h (j + 1) v (by simpa using hv)
      have e : (a.add 1).add j = a.add (j + 1) := by
        unfold Addr.add
        by_cases hj : j = 0
        · subst hj; simp
        · simp [hj]; omega
      rw [e]; exact this)
    simp only [List.length_cons, Extern.Bytes.loadBytes, Sem.run_bind, run_load, h0, Result.andThen]
    exact ih
theorem run_count_slice {σ : Sg} {H : AHeap} {w : World} (hr : HR ng σ H.get w) {a a' : Value} (ha : VR σ a a') {c : List Value} {l : List UInt8} (hel : elemsA H 1 a = some c) (hb : bytesOf c = some l) (ch : Int) :
    (Extern.BytealgCount.count #[a', .int .u8 ch]).run P w = .ok (.int .i64 ((cB ch.toNat.toUInt8 l : Nat) : Int)) w := by
  have key : (Extern.Bytes.bytesOf a').run P w = .ok ⟨l.toArray⟩ w := by
    obtain ⟨zs, rfl, rfl⟩ := bytesOf_some hb
    obtain ⟨x', n, k', l', rfl, _, e3, e4, _, e6⟩ := elemsA_sound hr ha hel
    have := VL.ints_inv e3
    subst this
    rw [Nat.mul_one] at e4
    rcases e6 with ⟨rfl, rfl⟩ | ⟨ad, rfl, hc⟩
    · have : zs = [] := List.eq_nil_of_length_eq_zero (by simpa using e4)
      subst this
      rfl
    · have h2 := run_lbytes (P := P) zs ad .empty hc
      rw [foldl_push_bytes] at h2
      have e : n = zs.length := by simpa using e4.symm
      subst e
      exact h2.trans (by simp)
  change Sem.run P (do
    let b ← Extern.Bytes.bytesOf a'
    let c' ← Extern.Bytes.asByte (.int .u8 ch)
    pure (goInt (b.foldl (fun n x => if x == c' then n + 1 else n) ((0 : Nat) : Int)))) w = _
  simp only [Extern.Bytes.asByte, Sem.run_bind, key, Sem.run_pure, Result.andThen_ok, bfold, cB_fold]
  simp [goInt]
noncomputable def cntK (c : UInt8) (l : List UInt8) : Nat → (Nat → Bool) → Bool :=
  List.rec (motive := fun _ => Nat → (Nat → Bool) → Bool) (fun k K => K k) (fun x _ ih k K => Bool.rec (motive := fun _ => Bool) (ih k K) (forceN (k + 1) fun k => ih k K) (Nat.beq x.toNat c.toNat)) l
theorem cntK_eq (c : UInt8) : ∀ (l : List UInt8) (k : Nat) (K : Nat → Bool), cntK c l k K = K (k + cB c l)
  | [], k, K => rfl
  | x :: l, k, K => by
    have e : cntK c (x :: l) k K = Bool.rec (motive := fun _ => Bool) (cntK c l k K) (forceN (k + 1) fun k => cntK c l k K) (Nat.beq x.toNat c.toNat) := rfl
    rw [e]
    cases h : Nat.beq x.toNat c.toNat
    · have : x ≠ c := fun hh => by subst hh; rw [Nat.beq_refl] at h; cases h
      show cntK c l k K = _
      rw [cntK_eq c l, cB, if_neg this]
    · have : x = c := UInt8.toNat_inj.1 (Nat.eq_of_beq_eq_true h)
      show forceN (k + 1) (fun k => cntK c l k K) = _
      rw [forceN_eq, cntK_eq c l, cB, if_pos this]
      congr 1; omega
noncomputable def cntH : HF := fun xs n t K => match xs with
  | [v, .int .u8 (.ofNat c)] => elemsT t 1 v fun cs => match bytesOf cs with
    | some l => cntK (c.toUInt8) l 0 fun m => K (.int .i64 (.ofNat m)) n t
    | none => false
  | _ => false
theorem cnt_ok {f : FuncId} {fn : Func} (hf : P.funcs[f]? = some fn) (hname : (fn.name == "runtime.NumGoroutine") = false) (hb : fn.body.isNone = true) (hn : Extern.findNext fn = none) (he : Extern.find fn = some Extern.BytealgCount.count) : HFok RT P ng f cntH := HFok.of fun xs n t K h H r => by
  unfold cntH at h
  split at h
  · rename_i v c
    obtain ⟨cs, h1, h2⟩ := elemsT_true r h
    split at h2
    · rename_i l hl
      rw [cntK_eq, Nat.zero_add] at h2
      refine ⟨_, arun_extH hf hname hb hn he (fun σ => .int _ _) ?_, h2⟩
      intro σ w args' hr hv
      cases hv with
      | cons a hv =>
        cases hv with
        | cons b hv =>
          cases hv
          cases b
          exact run_count_slice hr a h1 hl c
    · cases h2
  · cases h
end Ev
end Go.AM

set_option linter.unusedSimpArgs false
set_option linter.unusedVariables false
namespace Go.AM
namespace Ev
open Go.Proofs Go.AM.F Go.AM.Fd
variable {RT : List RDef}
theorem bqK_true {n : Nat} {t : HT} {H : AHeap} (r : Rp RT n t H) {v : Value} {K : List UInt8 → Bool} (h : Hk.bqK v t K = true) : ∃ l, BQ H v l ∧ K l = true := by
  unfold Hk.bqK at h
  split at h
  · obtain ⟨h1, h2⟩ := asT_true h
    obtain ⟨h3, h4⟩ := asT_true h2
    have := Nat.eq_of_beq_eq_true h1
    have := Nat.eq_of_beq_eq_true h3
    subst_vars
    exact ⟨[], .inl ⟨rfl, rfl⟩, h4⟩
  · rename_i b o n k
    obtain ⟨ob, h1, h2⟩ := r.getK h
    split at h2
    · rename_i own room esz c e
      obtain ⟨h3, h4⟩ := asT_true h2
      obtain ⟨h5, h6⟩ := asT_true h4
      obtain ⟨h7, h8⟩ := asT_true h6
      rw [Hk.dropK_eq, Hk.takeK_eq] at h8
      obtain ⟨l, h9, h10⟩ := Hk.byK_true h8
      have h3 := Nat.eq_of_beq_eq_true h3
      have h5 := Nat.le_of_ble_eq_true h5
      have h7 : o + n ≤ c.length := Nat.le_of_ble_eq_true h7
      have hl : l.length = n := by
        have := congrArg List.length h9
        rw [cellsOf_length, List.length_take, List.length_drop] at this; omega
      subst hl
      exact ⟨l, .inr (.inr ⟨b, o, k, own, room, esz, c, e, rfl, h5, h1, .inl h3, h9, h7⟩), h10⟩
    · cases h2
  · cases h
noncomputable def eiK (n : Nat) : Nat → (Nat → Bool) → Bool := Nat.rec (motive := fun _ => Nat → (Nat → Bool) → Bool) (fun r K => K r) (fun _ ih r K => forceN (ah r) fun r' => ih r' K) n
theorem eiK_eq : ∀ (n r : Nat) (K : Nat → Bool), eiK n r K = K (ei n r)
  | 0, r, K => rfl
  | n + 1, r, K => by
    show forceN (ah r) (fun r' => eiK n r' K) = _
    rw [forceN_eq, eiK_eq n]; rfl
noncomputable def crcK (l : List UInt8) : Nat → (Nat → Bool) → Bool := List.rec (motive := fun _ => Nat → (Nat → Bool) → Bool) (fun r K => K r) (fun c _ ih r K => forceN (Nat.xor r c.toNat) fun r1 => eiK 8 r1 fun r2 => ih r2 K) l
theorem crcK_eq : ∀ (l : List UInt8) (r : Nat) (K : Nat → Bool), crcK l r K = K (l.foldl crcS r)
  | [], r, K => rfl
  | c :: l, r, K => by
    show forceN (Nat.xor r c.toNat) (fun r1 => eiK 8 r1 fun r2 => crcK l r2 K) = _
    rw [forceN_eq, eiK_eq, crcK_eq l]; rfl
noncomputable def sumH : HF := fun xs n t K => match xs with
  | [v] => Hk.bqK v t fun l => asT (Nat.ble l.length 1000000) (crcK l 4294967295 fun r => forceN (Nat.xor 4294967295 r) fun r => K (.int .u32 (.ofNat r)) n t)
  | _ => false
theorem sumH_true {xs : List Value} {n : Nat} {t : HT} {K : CK} (h : sumH xs n t K = true) {H : AHeap} (r : Rp RT n t H) : ∃ v l, xs = [v] ∧ BQ H v l ∧ l.length ≤ 1000000 ∧ K (.int .u32 (crc l : Nat)) n t = true := by
  unfold sumH at h
  split at h
  · rename_i v
    obtain ⟨l, h1, h2⟩ := bqK_true r h
    obtain ⟨h3, h4⟩ := asT_true h2
    rw [crcK_eq, forceN_eq] at h4
    exact ⟨v, l, rfl, h1, Nat.le_of_ble_eq_true h3, h4⟩
  · cases h
theorem sum249 : HFok RT Tryz.prog 0 249 sumH := HFok.of fun xs n t K h H r => by
  obtain ⟨v, l, rfl, h1, h2, h3⟩ := sumH_true h r
  obtain ⟨w, H', a, rfl, rfl⟩ := t249 h1.bs (by omega)
  exact ⟨_, a, h3⟩
noncomputable def cntF : Func := (Tryz.prog.funcs[292]?).getD default
theorem cntF_f : Tryz.prog.funcs[292]? = some cntF := by kernel_rfl
theorem cnt292 : HFok RT Tryz.prog 0 292 cntH := cnt_ok cntF_f (by kernel_rfl) (by kernel_rfl) (by kernel_rfl) (by kernel_rfl)
end Ev
end Go.AM

set_option linter.unusedSimpArgs false
set_option linter.unusedVariables false
namespace Go.AM
def QL (R : Act → World → Prop) (Q : Exit → Act → World → Prop) : Exit → Act → World → Prop
  | .normal, a, w => R a w
  | .exit id, a, w => Q (.exit id) a w
  | .goto l, a, w => Q (.goto l) a w
  | .ret, a, w => Q .ret a w
  | .panic ch, a, w => Q (.panic ch) a w
  | .outgrown, a, w => Q .outgrown a w
section
variable {F : Fence} {m : Nat} {P : Program} {R : Act → World → Prop} {Q : Exit → Act → World → Prop}
theorem wpIn_QL {o : Oper} {a : Act} {w : World} {K K2 : Act → World → Prop} (hh : o.wpIn F m P a w K (QL R Q)) (h : ∀ a w, K a w → K2 a w) : o.wpIn F m P a w K2 Q := by
  unfold Oper.wpIn at *
  refine ⟨hh.1, ?_⟩
  have hh := hh.2
  generalize (o.semAt F.round a.eval).run P w = r at *
  cases r with
  | ok x w' =>
    cases x <;> simp only [Oper.uponIn] at hh ⊢ <;>
      first
        | exact h _ _ hh
        | exact ⟨hh.1, CallsIn.mono hh.2 (fun e w'' he => by cases e <;> first | exact h _ _ he | exact he)⟩
        | exact ⟨hh.1, RowsIn.mono hh.2 (fun _ _ he => h _ _ he)⟩
        | exact ⟨hh.1, RoundIn.mono hh.2 (fun e w'' he => by cases e <;> first | exact h _ _ he | exact he)⟩
  | halt x w' => cases x <;> simp only [Oper.uponIn] at hh ⊢ <;> exact hh
structure Like (ops ops' : Array Oper) (j : Nat) (o : Oper) (v0 : Value) : Prop where
  size : ops'.size = ops.size
  same : ∀ i, i ≠ j → ops'[i]? = ops[i]?
  at_ : ops[j]? = some o
  at' : ops'[j]? = some { o with op := .move (.const v0) }
  guard : o.guard = none
variable {ops ops' : Array Oper} {j : Nat} {o : Oper} {v0 : Value}
theorem Like.map {α : Type} (L : Like ops ops' j o v0) (f : Oper → α) (hf : ∀ o op, f { o with op := op } = f o) (i : Nat) : (ops'[i]?).map f = (ops[i]?).map f := by
  by_cases h : i = j
  · subst h; rw [L.at_, L.at']; simp only [Option.map_some, hf]
  · rw [L.same i h]
theorem Like.yielded (L : Like ops ops' j o v0) (t : Array Value) : Go.yielded ops' t = Go.yielded ops t := by
  funext k
  unfold Go.yielded
  have h : (ops'[k]?).bind (·.dst) = (ops[k]?).bind (·.dst) := by
    by_cases h : k = j
    · subst h; rw [L.at_, L.at']; rfl
    · rw [L.same k h]
  rw [h]
theorem Like.ready (L : Like ops ops' j o v0) (l : Array Bool) : Region.ready .any ops' l = Region.ready .any ops l := by
  unfold Region.ready
  rw [L.size]
  congr 1
  funext i
  rw [L.map (fun o => o.after.all fun e => !Region.binds .any e || l.getD e.on false) (fun _ _ => rfl) i]
theorem Like.wanted (L : Like ops ops' j o v0) (y : Nat → Option Bool) : Region.wanted o y = true := by
  unfold Region.wanted; rw [L.guard]
theorem Like.wanted' (L : Like ops ops' j o v0) (op : Op) (y : Nat → Option Bool) : Region.wanted { o with op := op } y = true := by
  unfold Region.wanted; simp only [L.guard]
theorem move_wp (hF : IsW F) {a : Act} {w : World} {K : Act → World → Prop} {Q : Exit → Act → World → Prop} (h : ({ o with op := .move (.const v0) } : Oper).wpIn F m P a w K Q) : K (a.put o.dst v0) w := by
  have h := h.2
  rw [Oper.semAt_eq _ _ _ (by intro c; simp)] at h
  simpa [execOp, Oper.uponIn, Act.eval] using h
theorem list_last (hF : IsW F) (L : Like ops ops' j o v0) (hP : ∀ a w, R (a.put o.dst v0) w → o.wpIn F m P a w (fun a' w' => Q .normal a' w') Q) : ∀ (l : List Oper) (a : Act) (w : World),
    wpListIn F m P ops' (QL R Q) (l ++ [{ o with op := .move (.const v0) }]) a w → wpListIn F m P ops Q (l ++ [o]) a w
  | [], a, w, h => by
    simp only [List.nil_append, wpListIn, L.wanted, L.wanted', if_true] at h ⊢
    exact hP a w (move_wp hF h)
  | p :: l, a, w, h => by
    simp only [List.cons_append, wpListIn, L.yielded] at h ⊢
    split
    · rename_i hw
      rw [if_pos hw] at h
      exact wpIn_QL h (fun a w => list_last hF L hP l a w)
    · rename_i hw
      rw [if_neg hw] at h
      exact ⟨h.1, list_last hF L hP l _ w h.2⟩
theorem mem_ready' {l : Array Bool} {i : Nat} : i ∈ Region.ready .any ops l ↔ i < ops.size ∧ l.getD i true = false ∧ ∃ o, ops[i]? = some o ∧ ∀ e ∈ o.after, Region.binds .any e = true → l.getD e.on false = true := by
  unfold Region.ready
  rw [List.mem_filter, List.mem_range]
  constructor
  · rintro ⟨h1, h2⟩
    simp only [Bool.and_eq_true, Bool.not_eq_true'] at h2
    refine ⟨h1, h2.1, ?_⟩
    cases ho : ops[i]? with
    | none => rw [ho] at h2; simp at h2
    | some o =>
      rw [ho] at h2
      refine ⟨o, rfl, fun e he hb => ?_⟩
      have := h2.2
      simp only [Option.map_some, Option.getD_some] at this
      rw [Array.all_eq_true'] at this
      have := this e he
      simpa [hb] using this
  · rintro ⟨h1, h2, o, h3, h4⟩
    refine ⟨h1, ?_⟩
    simp only [Bool.and_eq_true, Bool.not_eq_true']
    refine ⟨h2, ?_⟩
    rw [h3]
    simp only [Option.map_some, Option.getD_some]
    rw [Array.all_eq_true']
    intro e he
    by_cases hb : Region.binds .any e = true
    · rw [h4 e he hb]; simp
    · simp [hb]
theorem any_last (hF : IsW F) (L : Like ops ops' j o v0) (hjs : j < ops.size) (hlast : ∀ i, i < ops.size → i ≠ j → ordB (anc ops) i j = true) (hedge : ∀ i o e, ops[i]? = some o → e ∈ o.after → Region.binds .any e = true → e.on < i)
    (hP : ∀ a w, R (a.put o.dst v0) w → o.wpIn F m P a w (fun a' w' => Q .normal a' w') Q) :
    ∀ (fuel : Nat) (S : Nat → Bool) (l : Array Bool) (a : Act) (w : World), l.size = ops.size → (∀ i, i < ops.size → l[i]? = some (S i)) → cntU ops.size S = fuel → Closed ops S → S j = false →
      wpAnyIn F m P .any ops' (QL R Q) fuel l a w → wpAnyIn F m P .any ops Q fuel l a w
  | 0, S, l, a, w, hsz, hl, hc, hS, hj, h => by
    rw [cntU_zero hc j hjs] at hj; cases hj
  | fuel + 1, S, l, a, w, hsz, hl, hc, hS, hj, h => by
    have rd : ∀ i, i ∈ Region.ready .any ops l → i < ops.size ∧ Ready ops S i := by
      intro i hi
      obtain ⟨h1, h2, o1, h3, h4⟩ := mem_ready'.1 hi
      refine ⟨h1, ?_, fun o2 ho e he hb => ?_⟩
      · rw [Array.getD_eq_getD_getElem?, hl i h1] at h2; simpa using h2
      · rw [h3] at ho; cases ho
        have h5 := h4 e he hb
        have := hedge i o1 e h3 he hb
        rw [Array.getD_eq_getD_getElem?, hl e.on (by omega)] at h5
        simpa using h5
    refine ⟨fun hnil => ?_, fun i hi => ?_⟩
    · exfalso
      have all : ∀ k i, i < k → i < ops.size → S i = true := by
        intro k
        induction k with
        | zero => intro i h; omega
        | succ k ih =>
          intro i hik his
          cases hs : S i with
          | true => rfl
          | false =>
            exfalso
            have : i ∈ Region.ready .any ops l := mem_ready'.2 ⟨his, by rw [Array.getD_eq_getD_getElem?, hl i his, hs]; rfl, ops[i], Array.getElem?_eq_getElem his, fun e he hb => by
              have := hedge i _ e (Array.getElem?_eq_getElem his) he hb
              rw [Array.getD_eq_getD_getElem?, hl e.on (by omega), ih e.on (by omega) (by omega)]; rfl⟩
            rw [hnil] at this
            simp at this
      rw [all (j + 1) j (by omega) hjs] at hj; cases hj
    · obtain ⟨his, hr⟩ := rd i hi
      have h2 := h.2 i (by rw [L.ready]; exact hi)
      by_cases e : i = j
      · subst e
        have hoth : ∀ k, k < ops.size → k ≠ i → S k = true := by
          intro k hk hne
          have := anc_spec (hS.add hr) (hlast k hk hne) (addS_same ..)
          rwa [addS_ne hne] at this
        have hnil : Region.ready .any ops (l.setIfInBounds i true) = [] := by
          rw [List.eq_nil_iff_forall_not_mem]
          intro k hk
          obtain ⟨h1, h2, _⟩ := mem_ready'.1 hk
          by_cases e : k = i
          · subst e
            rw [Array.getD_eq_getD_getElem?, Array.getElem?_setIfInBounds_self_of_lt (by omega)] at h2
            cases h2
          · rw [Array.getD_eq_getD_getElem?, Array.getElem?_setIfInBounds_ne (Ne.symm e), hl k h1, hoth k h1 e] at h2
            cases h2
        unfold wpOpIn at h2 ⊢
        rw [L.at'] at h2
        rw [L.at_]
        simp only [L.wanted, L.wanted', if_true] at h2 ⊢
        have h3 := move_wp hF h2
        have h4 : R (a.put o.dst v0) w := by
          cases fuel with
          | zero => exact h3.2
          | succ f => exact h3.1 (by rw [L.ready]; exact hnil)
        refine Oper.wpIn_mono ?_ (hP a w h4)
        intro a' w' hq
        cases fuel with
        | zero => exact ⟨hnil, hq⟩
        | succ f => exact ⟨fun _ => hq, fun k hk => by rw [hnil] at hk; simp at hk⟩
      · have next : ∀ a w, wpAnyIn F m P .any ops' (QL R Q) fuel (l.setIfInBounds i true) a w → wpAnyIn F m P .any ops Q fuel (l.setIfInBounds i true) a w := by
          intro a w hh
          refine any_last hF L hjs hlast hedge hP fuel (addS S i) _ a w (by simpa using hsz) ?_ ?_ (hS.add hr) (by rw [addS_ne (Ne.symm e)]; exact hj) hh
          · intro k hk
            by_cases e : i = k
            · subst e
              rw [addS_same]
              simp [hsz, hk]
            · rw [Array.getElem?_setIfInBounds_ne e, addS_ne (Ne.symm e)]
              exact hl k hk
          · have := (cntU_add (S := S) hr.1 (n := ops.size)).1 his
            omega
        unfold wpOpIn at h2 ⊢
        rw [L.same i e] at h2
        split
        · rename_i hn; rw [hn] at h2; exact next _ _ h2
        · rename_i o1 ho
          rw [ho] at h2
          simp only [L.yielded] at h2
          split
          · rename_i hw; rw [if_pos hw] at h2; exact wpIn_QL h2 next
          · rename_i hw; rw [if_neg hw] at h2; exact ⟨h2.1, next _ _ h2.2⟩
end
end Go.AM

set_option linter.unusedSimpArgs false
set_option linter.unusedVariables false
namespace Go.AM
inductive PC
  | plain (c : ACode)
  | seq (a b : PC)
  | cond (c : AX) (a b : PC)
  | lastR (al : List AOper) (e : AX)
  | lastD (al : List (AOper × List Nat)) (e : AX)
abbrev KPan := Int → AHeap → Prop
def lastK (e : AX) (Q : AQ) (KP : KPan) (fr : List Value) (H : AHeap) : Prop := ∃ k : Int, e.ev fr [] = .int .i64 k ∧ if k = 0 then Q .normal fr H else KP k H
def WX (P : Program) (ng : Nat) : PC → AQ → KPan → List Value → AHeap → Prop
  | .plain c, Q, _, fr, H => W P ng c Q fr H
  | .seq a b, Q, KP, fr, H => WX P ng a (Q.andThen (WX P ng b Q KP)) KP fr H
  | .cond c x y, Q, KP, fr, H => match c.ev fr [] with
    | .bool b => if b then WX P ng x Q KP fr H else WX P ng y Q KP fr H
    | _ => False
  | .lastR al e, Q, KP, fr, H => RW P ng al fr [] H (lastK e Q KP)
  | .lastD al e, Q, KP, fr, H => RD P ng al fr [] H [] (lastK e Q KP)
def mustOp (mf : FuncId) (o : Oper) : Option Operand := match o.op with
  | .call c => match c.callee, c.args.toList with
    | .value (.func f), [x] => if f = mf ∧ o.guard = none then some x else none
    | _, _ => none
  | _ => none
theorem mustOp_spec {mf : FuncId} {o : Oper} {x : Operand} (h : mustOp mf o = some x) : o.guard = none ∧ ∃ tys, o.op = .call { callee := .value (.func mf), args := #[x], argTypes := tys } := by
  unfold mustOp at h
  split at h
  · rename_i c hc
    split at h
    · rename_i f y h1 h2
      split at h
      · rename_i h3
        cases h
        refine ⟨h3.2, c.argTypes, ?_⟩
        obtain ⟨callee, args, tys⟩ := c
        simp only at h1 h2
        rw [hc, h1, h3.1]
        congr 2
        rw [← Array.toArray_toList (xs := args), h2]
      · cases h
    · cases h
  · cases h
def lastO (mf : FuncId) (ops : Array Oper) : Option (Oper × Operand) := match ops[ops.size - 1]? with
  | some o => (mustOp mf o).map fun x => (o, x)
  | none => none
def opsL (ops : Array Oper) (o : Oper) : Array Oper := ops.setIfInBounds (ops.size - 1) { o with op := .move (.const (.tuple #[])) }
def freeOf (x : Operand) (o : Oper) : Bool := match x with
  | .tmp t => match o.dst with
    | some u => !(t == u)
    | none => true
  | .const _ => true
  | _ => false
def lastOK (P : Program) (ops : Array Oper) (o : Oper) (d : Bool) : Bool := !d || (drawOK P (opsL ops o) (drawUns P (opsL ops o)) && (List.range ops.size).all fun i => i == ops.size - 1 || ordB (anc ops) i (ops.size - 1))
def compP (P : Program) (ng N : Nat) (sl : List Nat) (mf : FuncId) : Code → Option PC
  | .seq a b => match compP P ng N sl mf a, compP P ng N sl mf b with
    | some x, some y => some (.seq x y)
    | _, _ => none
  | .cond c t e => match compX ng sl [] c, compP P ng N sl mf t, compP P ng N sl mf e with
    | some x, some y, some z => some (.cond x y z)
    | _, _, _ => none
  | .region id ops d => match lastO mf ops with
    | some (o, x) => if freeOf x o && lastOK P ops o d then
        match compX ng sl [] x, compR P ng N sl (opsL ops o) (opsL ops o).toList [] with
        | some e, some al => some (if d then .lastD (al.zip (drawUns P (opsL ops o))) e else .lastR al e)
        | _, _ => none
      else none
    | none => (compC P ng N sl (.region id ops d)).map .plain
  | c => (compC P ng N sl c).map .plain
def MustOK (P : Program) (mf : FuncId) (T : TypeId) : Prop := Bodied P mf ∧ ∀ (k : Int) (w : World), Calls P mf #[.int .i64 k] w fun e w' => w' = w ∧ e = if k = 0 then .returned (.tuple #[]) else .panicked [{ v := .iface T (.int .i64 k), recovered := false }]
def LQX (ng N : Nat) (sl : List Nat) (σ0 : Sg) (H0 : AHeap) (w0 : World) (T : TypeId) (Q : AQ) (KP : KPan) : Exit → Act → World → Prop
  | .normal, a, w => LQ ng N sl σ0 H0 w0 Q .normal a w
  | .exit id, a, w => LQ ng N sl σ0 H0 w0 Q (.exit id) a w
  | .ret, a, w => LQ ng N sl σ0 H0 w0 Q .ret a w
  | .panic ch, a, w => ∃ k H σ ds, ch = [{ v := .iface T (.int .i64 k), recovered := false }] ∧ a.defers = ds ∧ HR ng σ H.get w ∧ Ext H0.n σ0 H0.get w0 H.n σ H.get w ∧ DM w0.heap.size σ w ds ∧ KP k H
  | .goto _, _, _ => False
  | .outgrown, _, _ => False
theorem wpListIn_mono {F : Fence} {m : Nat} {P : Program} {ops : Array Oper} {Q Q' : Exit → Act → World → Prop} (h : ∀ e a w, Q e a w → Q' e a w) : ∀ (l : List Oper) (a : Act) (w : World), wpListIn F m P ops Q l a w → wpListIn F m P ops Q' l a w
  | [], a, w, hh => h _ _ _ hh
  | o :: l, a, w, hh => by
    simp only [wpListIn] at hh ⊢
    split
    · rename_i hw
      rw [if_pos hw] at hh
      unfold Oper.wpIn at *
      refine ⟨hh.1, ?_⟩
      have hh := hh.2
      generalize (o.semAt F.round a.eval).run P w = r at *
      cases r with
      | ok x w' =>
        cases x <;> simp only [Oper.uponIn] at hh ⊢ <;>
          first
            | exact wpListIn_mono h l _ _ hh
            | exact ⟨hh.1, CallsIn.mono hh.2 (fun e w'' he => by
                cases e with
                | returned v => exact wpListIn_mono h l _ _ he
                | panicked ch => exact h _ _ _ he
                | outgrown => obtain ⟨a, w, q⟩ := he; exact ⟨a, w, h _ _ _ q⟩)⟩
            | exact ⟨hh.1, RowsIn.mono hh.2 (fun _ _ he => wpListIn_mono h l _ _ he)⟩
            | exact ⟨hh.1, RoundIn.mono hh.2 (fun e w'' he => by
                cases e with
                | returned v => exact wpListIn_mono h l _ _ he
                | panicked ch => exact h _ _ _ he
                | outgrown => obtain ⟨a, w, q⟩ := he; exact ⟨a, w, h _ _ _ q⟩)⟩
      | halt x w' => cases x <;> simp only [Oper.uponIn] at hh ⊢ <;> first | exact h _ _ _ hh | exact hh
    · rename_i hw
      rw [if_neg hw] at hh
      exact ⟨hh.1, wpListIn_mono h l _ _ hh.2⟩
section
variable {P : Program} {ng N : Nat} {sl : List Nat} {mf : FuncId} {T : TypeId}
theorem lastO_spec {ops : Array Oper} {o : Oper} {x : Operand} (h : lastO mf ops = some (o, x)) : ops[ops.size - 1]? = some o ∧ mustOp mf o = some x ∧ 0 < ops.size := by
  unfold lastO at h
  split at h
  · rename_i p hp
    simp only [Option.map_eq_some_iff] at h
    obtain ⟨y, h1, h2⟩ := h
    cases h2
    have := (Array.getElem?_eq_some_iff.1 hp).1
    exact ⟨hp, h1, by omega⟩
  · cases h
theorem like_of {ops : Array Oper} {o : Oper} {x : Operand} (h : lastO mf ops = some (o, x)) : Like ops (opsL ops o) (ops.size - 1) o (.tuple #[]) := by
  obtain ⟨h1, h2, h3⟩ := lastO_spec h
  refine ⟨by simp [opsL], fun i hi => ?_, h1, ?_, (mustOp_spec h2).1⟩
  · unfold opsL; rw [Array.getElem?_setIfInBounds_ne (Ne.symm hi)]
  · unfold opsL; rw [Array.getElem?_setIfInBounds_self_of_lt (by omega)]
theorem list_split {ops : Array Oper} {o : Oper} (h : ops[ops.size - 1]? = some o) (h0 : 0 < ops.size) : ∃ l, ops.toList = l ++ [o] ∧ (opsL ops o).toList = l ++ [{ o with op := .move (.const (.tuple #[])) }] := by
  have e : ops.toList = ops.toList.take (ops.size - 1) ++ [o] := by
    have h1 : ops.toList[ops.size - 1]? = some o := by simpa using h
    have h2 : ops.size - 1 < ops.toList.length := by simp; omega
    rw [List.getElem?_eq_getElem h2] at h1
    simp only [Option.some.injEq] at h1
    have h3 := List.take_concat_get (l := ops.toList) (i := ops.size - 1) h2
    rw [h1] at h3
    rw [List.concat_eq_append] at h3
    rw [h3]
    exact (List.take_of_length_le (by simp; omega)).symm
  refine ⟨_, e, ?_⟩
  unfold opsL
  rw [Array.toList_setIfInBounds]
  have hl : (ops.toList.take (ops.size - 1)).length = ops.size - 1 := by simp
  conv => lhs; rw [e]
  rw [List.set_append_right _ _ (by omega), hl, Nat.sub_self]
  rfl
theorem must_wp (hM : MustOK P mf T) {o : Oper} {x : Operand} {e : AX} (ho : mustOp mf o = some x) (hx : compX ng sl [] x = some e) (hfree : freeOf x o = true) {F : Fence} (hF : IsW F) {m : Nat} {σ0 : Sg} {H0 : AHeap} {w0 : World} {Q : AQ} {KP : KPan} {a : Act} {w : World}
    (h : ∃ fr H σ ds, ER σ N sl [] ds fr [] (a.put o.dst (.tuple #[])) ∧ HR ng σ H.get w ∧ Ext H0.n σ0 H0.get w0 H.n σ H.get w ∧ DM w0.heap.size σ w ds ∧ lastK e Q KP fr H) :
    o.wpIn F m P a w (fun a' w' => LQX ng N sl σ0 H0 w0 T Q KP .normal a' w') (LQX ng N sl σ0 H0 w0 T Q KP) := by
  obtain ⟨fr, H, σ, ds, k1, k2, k3, k4, k, k5, k6⟩ := h
  obtain ⟨hg, tys, hop⟩ := mustOp_spec ho
  have hv := compX_sound k1 k2 hx
  rw [k5] at hv
  have hev : (a.put o.dst (.tuple #[])).eval x = .int .i64 k := by
    generalize (a.put o.dst (.tuple #[])).eval x = u at hv
    cases hv; rfl
  have hev2 : a.eval x = .int .i64 k := by
    rw [← hev]
    unfold freeOf at hfree
    split at hfree
    · rename_i t
      split at hfree
      · rename_i u hu
        have hne : t ≠ u := fun hh => by subst hh; simp at hfree
        rw [hu]
        simp only [Act.eval, Act.put, Array.getD_eq_getD_getElem?]
        rw [Array.getElem?_setIfInBounds_ne (Ne.symm hne)]
      · rename_i hu; rw [hu]; rfl
    · rfl
    · cases hfree
  have hd : ∀ c, o.op ≠ .defer c := fun c => by rw [hop]; simp
  have hrun : (execOp a.eval o).run P w = .ok (.enter mf #[.int .i64 k]) w := by
    have : (execOp a.eval o).run P w = (callFunc mf #[.int .i64 k]).run P w := by
      obtain ⟨dst, op, type, pos, after, guard⟩ := o
      simp only at hop
      subst hop
      have e1 : a.eval (.func mf) = .func (.func mf) #[] #[] := rfl
      simp [execOp, resolve, Deferred.ofValue, e1, hev2, invoke]
    rw [this, hM.1.run]
  refine wpIn_exec hF hd hrun ⟨hF.deep, ?_⟩
  refine CallsIn.mono (hF.calls (hM.2 k w)) ?_
  rintro e' w' ⟨rfl, rfl⟩
  by_cases hk : k = 0
  · rw [if_pos hk] at k6 ⊢
    exact ⟨fr, H, σ, ds, k1, k2, k3, k4, k6⟩
  · rw [if_neg hk] at k6 ⊢
    refine ⟨k, H, σ, ds, rfl, ?_, k2, k3, k4, k6⟩
    rw [← k1.dfr]
    cases o.dst <;> rfl
theorem LQ_X {σ0 : Sg} {H0 : AHeap} {w0 : World} {Q : AQ} {KP : KPan} {e : Exit} {a : Act} {w : World} (h : LQ ng N sl σ0 H0 w0 Q e a w) : LQX ng N sl σ0 H0 w0 T Q KP e a w := by
  cases e with
  | normal => exact h
  | exit id => exact h
  | ret => exact h
  | goto l => exact h
  | panic ch => exact h.elim
  | outgrown => exact h
theorem WX_sound (hM : MustOK P mf T) {F : Fence} (hF : IsW F) (hFw : F = Fence.wide) {m : Nat} (hnd : sl.Nodup) : ∀ (c : Code) (pc : PC), compP P ng N sl mf c = some pc → ∀ (Q : AQ) (KP : KPan) (fr : List Value) (H : AHeap), WX P ng pc Q KP fr H →
    ∀ (σ0 : Sg) (H0 : AHeap) (w0 : World) (σ : Sg) (a : Act) (w : World) (ds : List Deferred), ER σ N sl [] ds fr [] a → HR ng σ H.get w → Ext H0.n σ0 H0.get w0 H.n σ H.get w → DM w0.heap.size σ w ds → c.wpIn F m P (LQX ng N sl σ0 H0 w0 T Q KP) a w := by
  have plain : ∀ (c : Code) (pc : PC), (compC P ng N sl c).map .plain = some pc → ∀ (Q : AQ) (KP : KPan) (fr : List Value) (H : AHeap), WX P ng pc Q KP fr H →
      ∀ (σ0 : Sg) (H0 : AHeap) (w0 : World) (σ : Sg) (a : Act) (w : World) (ds : List Deferred), ER σ N sl [] ds fr [] a → HR ng σ H.get w → Ext H0.n σ0 H0.get w0 H.n σ H.get w → DM w0.heap.size σ w ds → c.wpIn F m P (LQX ng N sl σ0 H0 w0 T Q KP) a w := by
    intro c pc hc Q KP fr H h σ0 H0 w0 σ a w ds he hr hx hd
    simp only [Option.map_eq_some_iff] at hc
    obtain ⟨ac, h1, rfl⟩ := hc
    exact wpIn_mono (W_sound hF hnd c ac h1 (.inl hFw) Q fr H h σ0 H0 w0 σ a w ds he hr hx hd) (fun e a w h => LQ_X h)
  intro c
  induction c with
  | seq x y ihx ihy =>
    intro pc hc Q KP fr H hw σ0 H0 w0 σ a w ds he hr hx hd
    simp only [compP] at hc
    split at hc
    · rename_i px py h1 h2
      simp only [Option.some.injEq] at hc; subst hc
      refine wpIn_seq (wpIn_mono (ihx px h1 _ KP fr H hw σ0 H0 w0 σ a w ds he hr hx hd) ?_)
      intro e a' w' hq
      cases e with
      | normal =>
        obtain ⟨fr', H', σ', ds', k1, k2, k3, k5, k4⟩ := hq
        exact ihy py h2 Q KP fr' H' k4 σ0 H0 w0 σ' a' w' ds' k1 k2 k3 k5
      | exit id => exact hq
      | ret => exact hq
      | goto l => exact hq
      | panic ch => exact hq
      | outgrown => exact hq
    · cases hc
  | cond c t e iht ihe =>
    intro pc hc Q KP fr H hw σ0 H0 w0 σ a w ds he hr hx hd
    simp only [compP] at hc
    split at hc
    · rename_i cx pt pe h1 h2 h3
      simp only [Option.some.injEq] at hc; subst hc
      simp only [WX] at hw
      split at hw
      · rename_i b hb
        have hv := compX_sound he hr h1
        rw [hb] at hv
        have hev : a.eval c = .bool b := by
          generalize a.eval c = u at hv
          cases hv; rfl
        refine wpIn_cond hev ?_
        cases b
        · exact ihe pe h3 Q KP fr H (by simpa using hw) σ0 H0 w0 σ a w ds he hr hx hd
        · exact iht pt h2 Q KP fr H (by simpa using hw) σ0 H0 w0 σ a w ds he hr hx hd
      · exact hw.elim
    · cases hc
  | region id ops d =>
    intro pc hc Q KP fr H hw σ0 H0 w0 σ a w ds he hr hx hd
    simp only [compP] at hc
    split at hc
    · rename_i o x hlo
      split at hc
      · rename_i hcond
        rw [Bool.and_eq_true] at hcond
        split at hc
        · rename_i e al hex hal
          simp only [Option.some.injEq] at hc
          have L := like_of hlo
          obtain ⟨g1, g2, g3⟩ := lastO_spec hlo
          have hP : ∀ (a : Act) (w : World), (∃ fr H σ ds, ER σ N sl [] ds fr [] (a.put o.dst (.tuple #[])) ∧ HR ng σ H.get w ∧ Ext H0.n σ0 H0.get w0 H.n σ H.get w ∧ DM w0.heap.size σ w ds ∧ lastK e Q KP fr H) → o.wpIn F m P a w (fun a' w' => LQX ng N sl σ0 H0 w0 T Q KP .normal a' w') (LQX ng N sl σ0 H0 w0 T Q KP) := fun a w h => must_wp (m := m) hM g2 hex hcond.1 hF h
          cases d
          · simp only [Bool.false_eq_true, if_false] at hc
            subst hc
            obtain ⟨l, e1, e2⟩ := list_split g1 g3
            have h1 := RW_sound (m := m) hF hnd (σ0 := σ0) (H0 := H0) (w0 := w0) (Q := fun e' fr H => match e' with | .normal => lastK e Q KP fr H | _ => False) (opsL ops o).toList [] al fr [] H σ a w ds hal (by simp) he hr hx hd hw
            refine wpIn_region_list ?_
            rw [e2] at h1
            rw [e1]
            refine list_last (R := fun a1 w => ∃ fr H σ ds, ER σ N sl [] ds fr [] a1 ∧ HR ng σ H.get w ∧ Ext H0.n σ0 H0.get w0 H.n σ H.get w ∧ DM w0.heap.size σ w ds ∧ lastK e Q KP fr H) hF L hP l a w (wpListIn_mono ?_ _ _ _ h1)
            intro e' a' w' h
            cases e' with
            | normal => exact h
            | exit id => obtain ⟨_, _, _, _, _, _, _, _, h⟩ := h; exact h.elim
            | ret => obtain ⟨_, _, _, _, _, _, _, _, h⟩ := h; exact h.elim
            | goto l => exact h
            | panic ch => exact h.elim
            | outgrown => exact h
          · simp only [if_true] at hc
            subst hc
            have hok := hcond.2
            unfold lastOK at hok
            simp only [Bool.not_true, Bool.false_or, Bool.and_eq_true] at hok
            have hlk := drawOK_spec hok.1
            refine wpIn_region_any hlk.mix ?_
            refine any_last (R := fun a1 w => ∃ fr H σ ds, ER σ N sl [] ds fr [] a1 ∧ HR ng σ H.get w ∧ Ext H0.n σ0 H0.get w0 H.n σ H.get w ∧ DM w0.heap.size σ w ds ∧ lastK e Q KP fr H) hF L (by omega) (fun i hi hne => ?_) (fun i p ed hp he hb => ?_) hP ops.size (fun _ => false) _ a _ (by simp) (fun i hi => by simp [hi]) (cntU_false _) (fun j o ho h => by cases h) rfl ?_
            · have := List.all_eq_true.1 hok.2 i (by simpa using hi)
              simpa [hne] using this
            · by_cases e : i = ops.size - 1
              · subst e
                rw [g1] at hp; cases hp
                exact hlk.edge _ _ ed L.at' he hb
              · exact hlk.edge i p ed (by rw [L.same i e]; exact hp) he hb
            · rw [← L.size]
              refine RD_sound hF (σ0 := σ) (H0 := H) (fr0 := fr) hnd hal hok.1 he (hr.world (w' := { w with drawn := w.drawn + 1 }) rfl) hw ?_
              intro a' w' σ' fr' H' k1 k2 k3 k4
              exact ⟨fr', H', σ', ds, k1, k2, (hx.world (w2 := { w with drawn := w.drawn + 1 }) rfl rfl rfl rfl).trans k3, DM.ext k3 (DM.world (w := w) (w' := { w with drawn := w.drawn + 1 }) rfl hd), k4⟩
        · cases hc
      · cases hc
    · exact plain _ _ hc Q KP fr H hw σ0 H0 w0 σ a w ds he hr hx hd
  | _ =>
    intro pc hc Q KP fr H hw σ0 H0 w0 σ a w ds he hr hx hd
    exact plain _ _ hc Q KP fr H hw σ0 H0 w0 σ a w ds he hr hx hd
theorem WX_grow {n : Nat} : ∀ (pc : PC) {Q Q' : AQ} {KP KP' : KPan} {fr : List Value} {H : AHeap}, n ≤ H.n → (∀ e fr H, Q e fr H → n ≤ H.n → Q' e fr H) → (∀ k H, KP k H → n ≤ H.n → KP' k H) → WX P ng pc Q KP fr H → WX P ng pc Q' KP' fr H := by
  have lk : ∀ {e : AX} {Q Q' : AQ} {KP KP' : KPan} {fr : List Value} {H : AHeap}, (∀ e fr H, Q e fr H → n ≤ H.n → Q' e fr H) → (∀ k H, KP k H → n ≤ H.n → KP' k H) → lastK e Q KP fr H → n ≤ H.n → lastK e Q' KP' fr H := by
    rintro e Q Q' KP KP' fr H hq hk ⟨k, h1, h2⟩ hn
    refine ⟨k, h1, ?_⟩
    by_cases hk0 : k = 0
    · rw [if_pos hk0] at h2 ⊢; exact hq _ _ _ h2 hn
    · rw [if_neg hk0] at h2 ⊢; exact hk _ _ h2 hn
  intro pc
  induction pc with
  | plain c => intro Q Q' KP KP' fr H hn hq hk h; exact W_grow c hn hq h
  | seq a b iha ihb =>
    intro Q Q' KP KP' fr H hn hq hk h
    refine iha hn ?_ hk h
    intro e fr H h hn
    cases e with
    | normal => exact ihb hn hq hk h
    | exit id => exact hq _ _ _ h hn
    | ret => exact hq _ _ _ h hn
    | goto l => exact hq _ _ _ h hn
    | panic ch => exact hq _ _ _ h hn
    | outgrown => exact hq _ _ _ h hn
  | cond c x y ihx ihy =>
    intro Q Q' KP KP' fr H hn hq hk h
    simp only [WX] at h ⊢
    split at h
    · rename_i b hb
      cases b
      · simpa using ihy hn hq hk (by simpa using h)
      · simpa using ihx hn hq hk (by simpa using h)
    · exact h.elim
  | lastR al e => intro Q Q' KP KP' fr H hn hq hk h; exact RW_grow hn (fun fr H h1 h2 => lk hq hk h1 h2) h
  | lastD al e => intro Q Q' KP KP' fr H hn hq hk h; exact RD_grow hn (fun fr H h1 h2 => lk hq hk h1 h2) h
def noP : KPan := fun _ _ => False
def noQ : AQ := fun _ _ _ => False
def oneP (k : Int) (H : AHeap) : KPan := fun k' H' => k' = k ∧ H' = H
theorem WX_out : ∀ (pc : PC) {Q : AQ} {KP : KPan} {fr : List Value} {H : AHeap}, WX P ng pc Q KP fr H → (∃ e fr' H', Q e fr' H' ∧ WX P ng pc (exactly e fr' H') noP fr H) ∨ ∃ k H', KP k H' ∧ WX P ng pc noQ (oneP k H') fr H := by
  have lk : ∀ {e : AX} {Q : AQ} {KP : KPan} {fr : List Value} {H : AHeap}, lastK e Q KP fr H → (Q .normal fr H ∧ lastK e (exactly .normal fr H) noP fr H) ∨ ∃ k, KP k H ∧ lastK e noQ (oneP k H) fr H := by
    rintro e Q KP fr H ⟨k, h1, h2⟩
    by_cases hk0 : k = 0
    · rw [if_pos hk0] at h2
      exact .inl ⟨h2, k, h1, by rw [if_pos hk0]; exact ⟨rfl, rfl, rfl⟩⟩
    · rw [if_neg hk0] at h2
      exact .inr ⟨k, h2, k, h1, by rw [if_neg hk0]; exact ⟨rfl, rfl⟩⟩
  intro pc
  induction pc with
  | plain c =>
    intro Q KP fr H h
    obtain ⟨e, fr', H', h1, h2⟩ := W_out c h
    exact .inl ⟨e, fr', H', h1, h2⟩
  | seq a b iha ihb =>
    intro Q KP fr H h
    rcases iha h with ⟨e, fr', H', h1, h2⟩ | ⟨k, H', h1, h2⟩
    · by_cases he : e = .normal
      · subst he
        rcases ihb (show WX P ng b Q KP fr' H' from h1) with ⟨e2, fr2, H2, h3, h4⟩ | ⟨k, H2, h3, h4⟩
        · refine .inl ⟨e2, fr2, H2, h3, ?_⟩
          refine WX_grow (n := 0) a (Nat.zero_le _) ?_ (fun k H h _ => h) h2
          rintro e fr H ⟨rfl, rfl, rfl⟩ _
          exact h4
        · refine .inr ⟨k, H2, h3, ?_⟩
          refine WX_grow (n := 0) a (Nat.zero_le _) ?_ (fun k H h _ => h.elim) h2
          rintro e fr H ⟨rfl, rfl, rfl⟩ _
          exact h4
      · refine .inl ⟨e, fr', H', by cases e <;> first | exact absurd rfl he | exact h1, ?_⟩
        refine WX_grow (n := 0) a (Nat.zero_le _) ?_ (fun k H h _ => h) h2
        rintro e2 fr2 H2 ⟨rfl, rfl, rfl⟩ _
        cases e2 <;> first | exact absurd rfl he | exact ⟨rfl, rfl, rfl⟩
    · refine .inr ⟨k, H', h1, ?_⟩
      exact WX_grow (n := 0) a (Nat.zero_le _) (fun e fr H h _ => h.elim) (fun k H h _ => h) h2
  | cond c x y ihx ihy =>
    intro Q KP fr H h
    simp only [WX] at h ⊢
    split at h
    · rename_i b hb
      cases b
      · simpa using ihy (by simpa using h)
      · simpa using ihx (by simpa using h)
    · exact h.elim
  | lastR al e =>
    intro Q KP fr H h
    obtain ⟨fr', H', h1, h2⟩ := RW_out h
    rcases lk h1 with ⟨h3, h4⟩ | ⟨k, h3, h4⟩
    · exact .inl ⟨.normal, fr', H', h3, RW_grow (n := 0) (Nat.zero_le _) (by rintro fr H ⟨rfl, rfl⟩ _; exact h4) h2⟩
    · exact .inr ⟨k, H', h3, RW_grow (n := 0) (Nat.zero_le _) (by rintro fr H ⟨rfl, rfl⟩ _; exact h4) h2⟩
  | lastD al e =>
    intro Q KP fr H h
    obtain ⟨fr', H', h1, h2⟩ := RD_out h
    rcases lk h1 with ⟨h3, h4⟩ | ⟨k, h3, h4⟩
    · exact .inl ⟨.normal, fr', H', h3, RD_grow (n := 0) (Nat.zero_le _) (by rintro fr H ⟨rfl, rfl⟩ _; exact h4) h2⟩
    · exact .inr ⟨k, H', h3, RD_grow (n := 0) (Nat.zero_le _) (by rintro fr H ⟨rfl, rfl⟩ _; exact h4) h2⟩
def AGive (P : Program) (ng : Nat) (T : TypeId) (f : FuncId) (args : List Value) (H : AHeap) (k : Int) (H' : AHeap) : Prop :=
  Bodied P f ∧ H.n ≤ H'.n ∧ ∀ (σ : Sg) (w : World) (args' : List Value), HR ng σ H.get w → VL σ args args' →
    Calls P f args'.toArray w fun e w' => ∃ σ', e = .panicked [{ v := .iface T (.int .i64 k), recovered := false }] ∧ HR ng σ' H'.get w' ∧ Ext H.n σ H.get w H'.n σ' H'.get w'
theorem leaveM {fn : Func} {tmps : Array Value} {R : Ending → World → Prop} {σ σ' : Sg} {H H2 : AHeap} {w0 : World} {u : FrameMode} (hu : u ≠ .run) (hfin : ∀ w, HR ng σ' H2.get w → Ext H.n σ H.get w0 H2.n σ' H2.get w → LeavesInM Fence.wide 0 P fn tmps R [] u w) :
    ∀ (ds : List Deferred) (w : World), HR ng σ' H2.get w → Ext H.n σ H.get w0 H2.n σ' H2.get w → DM w0.heap.size σ' w ds → LeavesInM Fence.wide 0 P fn tmps R ds u w
  | [], w, h1, h2, _ => hfin w h1 h2
  | d :: ds, w, k2, k3, ⟨⟨D, h1, q2, q3, q4, q5⟩, q6⟩ => by
    subst h1
    refine ⟨hu, .inl ⟨D, w.putObj D (.deferred none), rfl, run_takeDeferred q3, ?_⟩⟩
    exact leaveM hu hfin ds _ (k2.other (by simp) (fun b i hb => World.putObj_heap_other (q4 b i hb))) (k3.other (by simp) (fun k hk => World.putObj_heap_other (by omega)) rfl rfl rfl) (DM.shut q5 q6)
theorem give_core (hM : MustOK P mf T) {f : FuncId} {fn : Func} {c : Code} {pc : PC} (hfn : P.funcs[f]? = some fn) (hb : fn.body = some c) (hres : fn.results = #[]) (hsl : (nodupB sl && sl.all (· < fn.ntmps)) = true)
    (hc : compP P ng fn.ntmps sl mf c = some pc) {args : List Value} {H : AHeap} (hargs : args.length ≤ fn.ntmps) {Q : AQ} {KP : KPan} (hx : ∀ id fr H, ¬ Q (.exit id) fr H) (h : WX P ng pc Q KP (initFr sl args) H)
    (σ : Sg) (w : World) (args' : List Value) (hr : HR ng σ H.get w) (hv : VL σ args args') :
    Calls P f args'.toArray w fun e w' => (∃ e0 fr H2 σ', (e0 = .normal ∨ e0 = .ret) ∧ Q e0 fr H2 ∧ e = .returned (.tuple #[]) ∧ HR ng σ' H2.get w' ∧ Ext H.n σ H.get w H2.n σ' H2.get w') ∨
      ∃ k H2 σ', KP k H2 ∧ e = .panicked [{ v := .iface T (.int .i64 k), recovered := false }] ∧ HR ng σ' H2.get w' ∧ Ext H.n σ H.get w H2.n σ' H2.get w' := by
  simp only [Bool.and_eq_true] at hsl
  have hl := hv.length
  refine (callsIn_wide (n := 0)).1 (callsIn_of_wp_marks hfn hb trivial ?_)
  have he : ER σ fn.ntmps sl [] [] (initFr sl args) [] { tmps := args'.toArray ++ Array.replicate (fn.ntmps - args'.toArray.size) undef, defers := [] } := by
    refine ⟨by simp; omega, by simp [initFr], rfl, ?_, fun i s v h => by simp at h, rfl⟩
    intro i s u hs hu
    simp only [initFr, List.getElem?_map, hs, Option.map_some, Option.some.injEq] at hu
    subst hu
    have hsN : s < fn.ntmps := by simpa using List.all_eq_true.1 hsl.2 s (List.mem_of_getElem? hs)
    by_cases hsa : s < args.length
    · obtain ⟨v', k1, k2⟩ := hv.get (i := s) (v := args[s]) (List.getElem?_eq_getElem hsa)
      refine ⟨v', ?_, by simpa [List.getD, List.getElem?_eq_getElem hsa] using k2⟩
      rw [Array.getElem?_append_left (by simp; omega)]
      simpa using k1
    · refine ⟨undef, ?_, ?_⟩
      · rw [Array.getElem?_append_right (by simp; omega)]
        rw [Array.getElem?_replicate, if_pos (by simp; omega)]
      · rw [List.getD, List.getElem?_eq_none (by omega)]
        exact .tuple _ _ rfl (fun i a => by simp at a)
  refine wpIn_mono (WX_sound hM .wide rfl (nodupB_spec hsl.1) c pc hc Q KP _ H h σ H w σ _ w [] he hr (Ext.refl _ _ _ _) trivial) ?_
  intro e a' w' hq
  have ok : ∀ (e0 : Exit) (a' : Act) (w' : World), (e0 = .normal ∨ e0 = .ret) → (∃ fr H2 σ' ds, ER σ' fn.ntmps sl [] ds fr [] a' ∧ HR ng σ' H2.get w' ∧ Ext H.n σ H.get w H2.n σ' H2.get w' ∧ DM w.heap.size σ' w' ds ∧ Q e0 fr H2) →
      LeavesInM Fence.wide 0 P fn a'.tmps (fun e w' => (∃ e0 fr H2 σ', (e0 = .normal ∨ e0 = .ret) ∧ Q e0 fr H2 ∧ e = .returned (.tuple #[]) ∧ HR ng σ' H2.get w' ∧ Ext H.n σ H.get w H2.n σ' H2.get w') ∨
      ∃ k H2 σ', KP k H2 ∧ e = .panicked [{ v := .iface T (.int .i64 k), recovered := false }] ∧ HR ng σ' H2.get w' ∧ Ext H.n σ H.get w H2.n σ' H2.get w') a'.defers .returning w' := by
    rintro e0 a' w' h0 ⟨fr, H2, σ', ds, k1, k2, k3, k4, k5⟩
    rw [k1.dfr]
    refine leaveM (by simp) (fun w2 q1 q2 => ?_) ds w' k2 k3 k4
    refine ⟨.tuple #[], ?_, .inl ⟨e0, fr, H2, σ', h0, k5, rfl, q1, q2⟩⟩
    unfold results
    rw [hres]
    simp
  cases e with
  | normal => exact ok .normal a' w' (.inl rfl) hq
  | ret => exact ok .ret a' w' (.inr rfl) hq
  | exit id => obtain ⟨fr, H2, σ', ds, k1, k2, k3, k4, k5⟩ := hq; exact (hx _ _ _ k5).elim
  | goto l => exact hq.elim
  | panic ch =>
    obtain ⟨k, H2, σ', ds, rfl, k1, k2, k3, k4, k5⟩ := hq
    simp only [bodyPostM]
    rw [k1]
    refine leaveM (by simp) (fun w2 q1 q2 => ?_) ds w' k2 k3 k4
    exact Or.inr ⟨k, H2, σ', k5, rfl, q1, q2⟩
  | outgrown => exact hq.elim
theorem give_of (hM : MustOK P mf T) {f : FuncId} {fn : Func} {c : Code} {pc : PC} (hfn : P.funcs[f]? = some fn) (hb : fn.body = some c) (hnm : (fn.name == "runtime.NumGoroutine") = false) (hres : fn.results = #[]) (hsl : (nodupB sl && sl.all (· < fn.ntmps)) = true)
    (hc : compP P ng fn.ntmps sl mf c = some pc) {args : List Value} {H : AHeap} (hargs : args.length ≤ fn.ntmps) {Q : AQ} {RP : KPan} (h : WX P ng pc Q RP (initFr sl args) H) (hQ : ∀ e fr H, Q e fr H → e = .normal ∨ e = .ret) :
    (∃ e fr H', ARun P ng f args H (.tuple #[]) H' ∧ Q e fr H') ∨ ∃ k H', AGive P ng T f args H k H' ∧ RP k H' := by
  have hbd : Bodied P f := ⟨fn, hfn, by simp [hb], hnm⟩
  have h1 := WX_grow (n := H.n) (Q' := fun e fr H2 => Q e fr H2 ∧ H.n ≤ H2.n) (KP' := fun k H2 => RP k H2 ∧ H.n ≤ H2.n) pc (Nat.le_refl _) (fun e fr H a b => ⟨a, b⟩) (fun k H a b => ⟨a, b⟩) h
  rcases WX_out pc h1 with ⟨e, fr, H', ⟨h2, h3⟩, h4⟩ | ⟨k, H', ⟨h2, h3⟩, h4⟩
  · refine .inl ⟨e, fr, H', ⟨⟨fn, hfn⟩, h3, fun σ w args' hr hv => .body hbd ?_⟩, h2⟩
    refine (give_core hM hfn hb hres hsl hc hargs ?_ h4 σ w args' hr hv).mono ?_
    · rintro id fr2 H2 ⟨rfl, _, _⟩
      rcases hQ _ _ _ h2 with hh | hh <;> cases hh
    · rintro e' w' (⟨e0, fr2, H2, σ', _, ⟨rfl, rfl, rfl⟩, rfl, q1, q2⟩ | ⟨_, _, _, hh, _⟩)
      · exact ⟨_, σ', rfl, q1, q2, .tuple _ _ rfl (fun i a => by simp at a)⟩
      · exact hh.elim
  · refine .inr ⟨k, H', ⟨hbd, h3, fun σ w args' hr hv => ?_⟩, h2⟩
    refine (give_core hM hfn hb hres hsl hc hargs ?_ h4 σ w args' hr hv).mono ?_
    · intro id fr2 H2 hh; exact hh
    · rintro e' w' (⟨e0, fr2, H2, σ', _, hh, _⟩ | ⟨k2, H2, σ', ⟨rfl, rfl⟩, rfl, q1, q2⟩)
      · exact hh.elim
      · exact ⟨σ', rfl, q1, q2⟩
end
end Go.AM

set_option linter.unusedSimpArgs false
set_option linter.unusedVariables false
namespace Go.AM
namespace Ev
variable {RT : List RDef} {P : Program} {ng : Nat}
abbrev PK := Int → Nat → HT → Bool
noncomputable def lastE (e : AX) (K : EK) (KP : PK) : FK := fun fr n t => evX e fr [] fun v => match v with
  | .int .i64 k => forceB (iEq k (.ofNat 0)) fun b => Bool.rec (motive := fun _ => Bool) (KP k n t) (K .normal fr n t) b
  | _ => false
noncomputable def runPC (call : Caller) (yc : YC) (rec : Rec) : PC → List Value → Nat → HT → EK → PK → Bool
  | .plain c, fr, n, t, K, _ => rec c fr n t K
  | .seq a b, fr, n, t, K, KP => runPC call yc rec a fr n t (fun e fr n t => match e with
    | .normal => runPC call yc rec b fr n t K KP
    | e => K e fr n t) KP
  | .cond c a b, fr, n, t, K, KP => evX c fr [] fun v => condK v (runPC call yc rec a fr n t K KP) (runPC call yc rec b fr n t K KP)
  | .lastR al e, fr, n, t, K, KP => runOps call yc al fr [] n t (lastE e K KP)
  | .lastD al e, fr, n, t, K, KP => runD call yc al fr [] n t [] (lastE e K KP)
def noRP : PC → Bool
  | .plain c => noRA c
  | .seq a b => noRP a && noRP b
  | .cond _ a b => noRP a && noRP b
  | _ => true
def KPP (RT : List RDef) (KP : PK) : KPan := fun k H => ∃ n t, Rp RT n t H ∧ KP k n t = true
theorem lastE_ok {e : AX} {K : EK} {KP : PK} {fr : List Value} {H : AHeap} (h : FP RT (lastE e K KP) fr H) : lastK e (QP RT K) (KPP RT KP) fr H := by
  obtain ⟨n, t, r, h⟩ := h
  unfold lastE at h
  rw [evX_eq] at h
  split at h
  · rename_i k hk
    rw [forceB_eq] at h
    refine ⟨k, hk, ?_⟩
    cases hb : iEq k (.ofNat 0)
    · rw [hb] at h
      rw [iEq_eq] at hb
      rw [if_neg (by simpa using hb)]
      exact ⟨n, t, r, h⟩
    · rw [hb] at h
      rw [iEq_eq] at hb
      rw [if_pos (by simpa using hb)]
      exact ⟨n, t, r, h⟩
  · cases h
theorem runPC_ok {call : Caller} {yc : YC} {rec : Rec} (hc : CallOK RT P ng call) (hy : YOK RT P ng yc) (hr : RecOK RT P ng rec) : ∀ (pc : PC), noRP pc = true → ∀ (fr : List Value) (n : Nat) (t : HT) (K : EK) (KP : PK), runPC call yc rec pc fr n t K KP = true → ∀ H, Rp RT n t H → WX P ng pc (QP RT K) (KPP RT KP) fr H := by
  intro pc
  induction pc with
  | plain c =>
    intro hn fr n t K KP h H r
    have := hr c fr n t K (by simpa only [runPC] using h) H r
    rw [decC_no hn] at this
    exact this
  | seq a b iha ihb =>
    intro hn fr n t K KP h H r
    simp only [noRP, Bool.and_eq_true] at hn
    simp only [runPC] at h
    have h1 := iha hn.1 fr n t _ KP h H r
    refine WX_grow (n := 0) a (Nat.zero_le _) ?_ (fun k H h _ => h) h1
    rintro e fr H ⟨n, t, r, h⟩ _
    cases e with
    | normal => exact ihb hn.2 fr n t K KP h H r
    | exit id => exact ⟨n, t, r, h⟩
    | ret => exact ⟨n, t, r, h⟩
    | goto l => exact ⟨n, t, r, h⟩
    | panic ch => exact ⟨n, t, r, h⟩
    | outgrown => exact ⟨n, t, r, h⟩
  | cond c a b iha ihb =>
    intro hn fr n t K KP h H r
    simp only [noRP, Bool.and_eq_true] at hn
    simp only [runPC] at h
    rw [evX_eq] at h
    simp only [WX]
    unfold condK at h
    split at h
    · rename_i tt ht
      rw [ht]
      cases tt
      · exact ihb hn.2 fr n t K KP h H r
      · exact iha hn.1 fr n t K KP h H r
    · cases h
  | lastR al e =>
    intro hn fr n t K KP h H r
    simp only [runPC] at h
    exact RW_grow (n := 0) (Nat.zero_le _) (fun fr H h _ => lastE_ok h) (runOps_sound hc hy h r)
  | lastD al e =>
    intro hn fr n t K KP h H r
    simp only [runPC] at h
    exact RD_grow (n := 0) (Nat.zero_le _) (fun fr H h _ => lastE_ok h) (runD_sound hc hy h .nil r)
structure PFn where
  g : FuncId
  na : Nat
  sl : List Nat
  pc : PC
def PFnOK (P : Program) (ng : Nat) (mf : FuncId) (d : PFn) : Prop := ∃ fn c, P.funcs[d.g]? = some fn ∧ fn.body = some c ∧ (fn.name == "runtime.NumGoroutine") = false ∧ fn.results = #[] ∧ (nodupB d.sl && d.sl.all (· < fn.ntmps)) = true ∧ compP P ng fn.ntmps d.sl mf c = some d.pc ∧ d.na ≤ fn.ntmps ∧ noRP d.pc = true
noncomputable def pfK (l : List PFn) (g : FuncId) (K : PFn → Bool) : Bool :=
  List.rec (motive := fun _ => Bool) false (fun d _ ih => Bool.rec (motive := fun _ => Bool) ih (K d) (Nat.beq d.g g)) l
theorem pfK_true : ∀ {l : List PFn} {g : FuncId} {K : PFn → Bool}, pfK l g K = true → ∃ d ∈ l, d.g = g ∧ K d = true
  | [], g, K, h => by cases h
  | d :: l, g, K, h => by
    have e : pfK (d :: l) g K = Bool.rec (motive := fun _ => Bool) (pfK l g K) (K d) (Nat.beq d.g g) := rfl
    rw [e] at h
    cases hb : Nat.beq d.g g
    · rw [hb] at h
      obtain ⟨d', h1, h2⟩ := pfK_true (l := l) (g := g) (K := K) h
      exact ⟨d', List.mem_cons_of_mem _ h1, h2⟩
    · rw [hb] at h
      exact ⟨d, List.mem_cons_self .., Nat.eq_of_beq_eq_true hb, h⟩
noncomputable def toldH (l : List PFn) : Caller → YC → Rec → HF := fun call yc rec xs n t K => match xs with
  | [.func (.func g) first cap] => pfK l g fun d => asT (Nat.beq (first.toList ++ cap.toList).length d.na) (initK d.sl (first.toList ++ cap.toList) fun fr => runPC call yc rec d.pc fr n t (fun e _ n t => match e with
      | .normal => K (.int .i64 (.ofNat 0)) n t
      | .ret => K (.int .i64 (.ofNat 0)) n t
      | _ => false) fun k n t => K (.int .i64 k) n t)
  | _ => false
theorem told_ok {mf told : FuncId} {T : TypeId} (hM : MustOK P mf T) (ht : ∀ {H H1 : AHeap} {g : FuncId} {first cap : Array Value} {k : Int}, Bodied P g →
      ((k = 0 ∧ ARun P ng g (first.toList ++ cap.toList) H (.tuple #[]) H1) ∨ AGive P ng T g (first.toList ++ cap.toList) H k H1) → ARun P ng told [.func (.func g) first cap] H (.int .i64 k) H1) {l : List PFn} (hl : ∀ d ∈ l, PFnOK P ng mf d) : HRok RT P ng told (toldH l) := by
  intro call yc rec hc hy hr xs n t K h H r
  unfold toldH at h
  split at h
  · rename_i g first cap
    obtain ⟨d, h1, rfl, h3⟩ := pfK_true h
    obtain ⟨h4, h5⟩ := asT_true h3
    rw [initK_eq] at h5
    obtain ⟨fn, c, p1, p2, p3, p4, p5, p6, p7, p8⟩ := hl d h1
    have hw := runPC_ok hc hy hr d.pc p8 _ n t _ _ h5 H r
    have hlen := Nat.eq_of_beq_eq_true h4
    have hbd : Bodied P d.g := ⟨fn, p1, by simp [p2], p3⟩
    have hq : ∀ (e : Exit) (fr : List Value) (H : AHeap), QP RT (fun e _ n t => match e with | .normal => K (.int .i64 (.ofNat 0)) n t | .ret => K (.int .i64 (.ofNat 0)) n t | _ => false) e fr H → e = .normal ∨ e = .ret := by
      rintro e fr H ⟨n, t, _, q⟩
      cases e <;> first | exact .inl rfl | exact .inr rfl | cases q
    rcases give_of hM p1 p2 p3 p4 p5 p6 (by omega) hw hq with ⟨e, fr, H', q1, n', t', r', q2⟩ | ⟨k, H', q1, n', t', r', q2⟩
    · refine ⟨_, H', ht hbd (.inl ⟨rfl, q1⟩), n', t', r', ?_⟩
      cases e <;> first | exact q2 | cases q2
    · exact ⟨_, H', ht hbd (.inr q1), n', t', r', q2⟩
  · cases h
end Ev
end Go.AM

set_option linter.unusedSimpArgs false
set_option linter.unusedVariables false
namespace Go.AM
open Go.Proofs
theorem must313_go (w : World) : Calls Tryz.prog 313 #[.int .i64 0] w fun e w' => w' = w ∧ e = .returned (.tuple #[]) := by
  go_enter Tryz.func313, Tryz.ntmps313
  go_wp2
  go_end0
  exact ⟨rfl, rfl⟩
theorem must313_up (k : Int) (h : k ≠ 0) (w : World) : Calls Tryz.prog 313 #[.int .i64 k] w fun e w' => w' = w ∧ e = .panicked [{ v := .iface 23 (.int .i64 k), recovered := false }] := by
  go_enter Tryz.func313, Tryz.ntmps313
  go_wp2
  exact ⟨rfl, rfl, rfl⟩
theorem must313 : MustOK Tryz.prog 313 23 := by
  refine ⟨bodied_of (by kernel_rfl), fun k w => ?_⟩
  by_cases h : k = 0
  · subst h; rw [if_pos rfl]; exact must313_go w
  · rw [if_neg h]; exact must313_up k h w
theorem und23 : Tryz.prog.underlying 23 = some (.int .i64) := by kernel_rfl
theorem assert23 (k : Int) (w : World) : (Instr.typeAssert (.iface 23 (.int .i64 k)) 20 23 false).run Tryz.prog w = .ok (.int .i64 k) w := by
  simp [Instr.typeAssert, run_underlying und23]
theorem told337_idle (p : Addr) (w : World) : CallsD Tryz.prog 337 #[.pointer (some p)] .returning w fun e u' w' => e = .returned (.tuple #[]) ∧ u' = .returning ∧ w' = w := by
  refine callsD_of_wpS Tryz.func337 rfl fun c₀ cs hu => ?_
  apply wpS_seq
  apply wpS_region
  simp [wpOpsS, go_sem, recoverD, hu, Tryz.ntmps337, Exit.thenS]
  apply wpS_seq
  apply wpS_region
  simp [wpOpsS, go_sem, recoverD, Tryz.ntmps337, Exit.thenS, Act.eval, Act.put, Array.replicate_succ]
  refine wpS_cond (t := false) (by simp [Act.eval, Array.replicate]) ?_
  simp only [Bool.false_eq_true, if_false]
  refine wpS_of_wp (wp_skip ?_)
  cases c₀
  simp_all [bodyPostS, results, Tryz.results337]
theorem told337_up (p : Addr) (k x : Int) (older : List PanicEntry) (w : World) (hc : w.cell? p = some (.int .i64 x)) (hz : w.frozen? p = false) :
    CallsD Tryz.prog 337 #[.pointer (some p)] (.panicking ({ v := .iface 23 (.int .i64 k), recovered := false } :: older)) w fun e u' w' =>
      e = .returned (.tuple #[]) ∧ u' = .panicking ({ v := .iface 23 (.int .i64 k), recovered := true } :: older) ∧ w' = w.setCell p (.int .i64 k) := by
  refine callsD_of_wpS Tryz.func337 rfl fun c₀ cs hu => ?_
  apply wpS_seq
  apply wpS_region
  simp [wpOpsS, go_sem, recoverD, hu, Tryz.ntmps337, Exit.thenS]
  apply wpS_seq
  apply wpS_region
  simp [wpOpsS, go_sem, recoverD, Tryz.ntmps337, Exit.thenS, Act.eval, Act.put, Array.replicate_succ]
  refine wpS_cond (t := true) (by simp [Act.eval, Array.replicate]) ?_
  simp only [if_true]
  apply wpS_region
  simp [wpOpsS, go_sem, assert23, hc, hz, bodyPostS, results, Tryz.results337]
end Go.AM

set_option linter.unusedSimpArgs false
set_option linter.unusedVariables false
namespace Go.AM
open Go.Proofs
theorem told311_walk {g : FuncId} {xs ys : Array Value} {w : World} {R : Ending → World → Prop} (hb : Bodied Tryz.prog g)
    (h : Calls Tryz.prog g (xs ++ ys) (w.alloc (.cells #[.int .i64 0] 23)) R)
    (hR : ∀ e w', R e w' → (∃ c, w'.cell? ⟨w.heap.size, 0, none⟩ = some (.int .i64 c)) ∧ w'.frozen? ⟨w.heap.size, 0, none⟩ = false ∧ ((∃ v, e = .returned v) ∨ ∃ k, e = .panicked [{ v := .iface 23 (.int .i64 k), recovered := false }])) :
    Calls Tryz.prog 311 #[.func (.func g) xs ys] w fun e w' => ∃ e1 w1 k, R e1 w1 ∧ e = .returned (.int .i64 k) ∧ w' = w1.setCell ⟨w.heap.size, 0, none⟩ (.int .i64 k) ∧ ((∃ v, e1 = .returned v ∧ k = 0) ∨ e1 = .panicked [{ v := .iface 23 (.int .i64 k), recovered := false }]) := by
  have hmf : ∀ (fn : Fn) (first cap : Array Value) (w : World), (Instr.makeFunc fn first cap).run Tryz.prog w = .ok (.func fn first cap) w := fun _ _ _ _ => rfl
  have hcf := hb.run (xs ++ ys)
  go_enter_defers Tryz.func311, Tryz.ntmps311
  go_wp2
  refine h.mono ?_
  intro e w' hr
  obtain ⟨⟨c, hc⟩, hz, hk⟩ := hR e w' hr
  rcases hk with ⟨v, rfl⟩ | ⟨k, rfl⟩
  · go_wp2
    refine leaves_cons (f := 337) (args := #[.pointer (some ⟨w.heap.size, 0, none⟩)]) (by simp) (by simp [go_sem]) ?_
    refine (told337_idle _ _).mono ?_
    rintro e u' w'' ⟨rfl, rfl, rfl⟩
    exact ⟨.int .i64 0, by simp [results, Tryz.results311, go_sem, hc], _, w', 0, hr, rfl, rfl, .inl ⟨v, rfl, rfl⟩⟩
  · refine leaves_cons (f := 337) (args := #[.pointer (some ⟨w.heap.size, 0, none⟩)]) (by simp) (by simp [go_sem]) ?_
    refine (told337_up _ k c [] _ hc hz).mono ?_
    rintro e u' w'' ⟨rfl, rfl, rfl⟩
    exact ⟨.int .i64 k, by simp [results, Tryz.results311, go_sem, hc], _, w', k, hr, rfl, rfl, .inr rfl⟩
theorem setCell_oth (w : World) (D : Nat) (v : Value) {j : Nat} (hj : j ≠ D) : (w.setCell ⟨D, 0, none⟩ v).heap[j]? = w.heap[j]? := by
  unfold World.setCell
  simp only [Array.getElem?_modify]
  rw [if_neg (Ne.symm hj)]
theorem setCell_sz (w : World) (D : Nat) (v : Value) : (w.setCell ⟨D, 0, none⟩ v).heap.size = w.heap.size := by
  unfold World.setCell
  simp
theorem told311 {H H1 : AHeap} {g : FuncId} {first cap : Array Value} {k : Int} (hb : Bodied Tryz.prog g)
    (h : (k = 0 ∧ ARun Tryz.prog 0 g (first.toList ++ cap.toList) H (.tuple #[]) H1) ∨ AGive Tryz.prog 0 23 g (first.toList ++ cap.toList) H k H1) : ARun Tryz.prog 0 311 [.func (.func g) first cap] H (.int .i64 k) H1 := by
  have hbd : Bodied Tryz.prog 311 := bodied_of (by kernel_rfl)
  have hn : H.n ≤ H1.n := by rcases h with ⟨_, h⟩ | h; exact h.2.1; exact h.2.1
  refine ⟨by obtain ⟨fn, f1, _⟩ := hbd; exact ⟨fn, f1⟩, hn, fun σ w args' hr hv => ?_⟩
  cases hv with
  | cons a hv =>
    cases hv
    cases a with
    | func _ _ xs _ ys p1 p2 p3 p4 =>
      refine .body hbd ?_
      have hvl : VL σ (first.toList ++ cap.toList) (xs ++ ys).toList := by
        rw [Array.toList_append]; exact (VL.of_arr p1 p2).append (VL.of_arr p3 p4)
      obtain ⟨j1, j2⟩ := junk_alloc hr (.cells #[.int .i64 0] 23)
      let D := w.heap.size
      have hD1 : (w.alloc (.cells #[.int .i64 0] 23)).heap[w.heap.size]? = some (.cells #[.int .i64 0] 23) := by
        show (w.heap.push _)[w.heap.size]? = _
        simp
      have hlt1 : w.heap.size < (w.alloc (.cells #[.int .i64 0] 23)).heap.size := (Array.getElem?_eq_some_iff.1 hD1).1
      have hold : ∀ b i, σ b = some i → i.c ≠ w.heap.size := fun b i hb => by have := hr.lt b i hb; omega
      have keep : ∀ (σ' : Sg) (w' : World), Ext H.n σ H.get (w.alloc (.cells #[.int .i64 0] 23)) H1.n σ' H1.get w' → w'.heap[w.heap.size]? = some (.cells #[.int .i64 0] 23) ∧ ∀ b i, σ' b = some i → i.c ≠ w.heap.size := by
        intro σ' w' hx
        refine ⟨by rw [hx.keep _ hlt1 (fun b i o hb _ _ => hold b i hb)]; exact hD1, fun b i hb => ?_⟩
        cases hs : σ b with
        | some j =>
          have := hx.sub b j hs
          rw [hb] at this; cases this
          exact hold b i hs
        | none =>
          rcases (hx.new b i hs hb).2 with q | ⟨b0, i0, o0, e1, _, _, e4⟩
          · omega
          · rw [← e4]; exact hold b0 i0 e1
      have hcall : Calls Tryz.prog g (xs ++ ys) (w.alloc (.cells #[.int .i64 0] 23)) fun e w' => (∃ σ', HR 0 σ' H1.get w' ∧ Ext H.n σ H.get (w.alloc (.cells #[.int .i64 0] 23)) H1.n σ' H1.get w') ∧
          ((k = 0 ∧ ∃ v, e = .returned v) ∨ e = .panicked [{ v := .iface 23 (.int .i64 k), recovered := false }]) := by
        rcases h with ⟨rfl, h⟩ | h
        · have := (h.2.2 σ _ (xs ++ ys).toList j1 hvl).calls hb
          rw [Array.toArray_toList] at this
          refine this.mono ?_
          rintro e w' ⟨v', σ', rfl, k1, k2, _⟩
          exact ⟨⟨σ', k1, k2⟩, .inl ⟨rfl, v', rfl⟩⟩
        · have := h.2.2 σ _ (xs ++ ys).toList j1 hvl
          rw [Array.toArray_toList] at this
          refine this.mono ?_
          rintro e w' ⟨σ', rfl, k1, k2⟩
          exact ⟨⟨σ', k1, k2⟩, .inr rfl⟩
      refine (told311_walk hb hcall ?_).mono ?_
      · rintro e w' ⟨⟨σ', k1, k2⟩, k3⟩
        obtain ⟨q1, _⟩ := keep σ' w' k2
        refine ⟨⟨0, by simp [World.cell?, q1]⟩, by simp [World.frozen?, q1], ?_⟩
        rcases k3 with ⟨_, k3⟩ | k3
        · exact .inl k3
        · exact .inr ⟨k, k3⟩
      · rintro e w' ⟨e1, w1, k', ⟨⟨σ', k1, k2⟩, k3⟩, rfl, rfl, k4⟩
        obtain ⟨q1, q2⟩ := keep σ' w1 k2
        have hkk : k' = k := by
          rcases k3 with ⟨rfl, v, rfl⟩ | rfl
          · rcases k4 with ⟨_, _, h⟩ | h
            · exact h
            · cases h
          · rcases k4 with ⟨_, h, _⟩ | h
            · cases h
            · simp at h; exact h.symm
        subst hkk
        have hoth : ∀ j, j ≠ w.heap.size → (w1.setCell ⟨w.heap.size, 0, none⟩ (.int .i64 k')).heap[j]? = w1.heap[j]? := fun j hj => setCell_oth w1 _ _ hj
        have hsz : (w1.setCell ⟨w.heap.size, 0, none⟩ (.int .i64 k')).heap.size = w1.heap.size := setCell_sz w1 _ _
        refine ⟨_, σ', rfl, k1.other (by rw [hsz]; exact Nat.le_refl _) (fun b i hb => hoth i.c (q2 b i hb)), ?_, .int _ _⟩
        have k5 := j2.trans k2
        refine ⟨k5.sub, k5.new, k5.own, k5.live, fun x hx hno => ?_, by rw [hsz]; exact k5.size, k5.num, k5.os, k5.tape, k5.output⟩
        rw [hoth x (by omega)]
        exact k5.keep x hx hno
end Go.AM

set_option maxRecDepth 100000
set_option maxHeartbeats 0
namespace Go.AM.F
open Go.Proofs
noncomputable def fnOf (k : Nat) : Func := (Tryz.prog.funcs[k]?).getD default
noncomputable def bodyOf (k : Nat) : Code := (fnOf k).body.getD .skip
noncomputable def pc312 : PC := by
 refine (fun (_ : compP Tryz.prog 0 39 [0, 1, 3, 19, 30, 37] 313 (bodyOf 312) = some ?a) => ?a) ?h
 case h => conv => lhs; cbv
theorem pc312_ok : compP Tryz.prog 0 39 [0, 1, 3, 19, 30, 37] 313 (bodyOf 312) = some pc312 := by kernel_rfl
noncomputable def pfs : List Ev.PFn := [⟨312, 2, [0, 1, 3, 19, 30, 37], pc312⟩]
theorem fnOf_at {k : Nat} (h : (Tryz.prog.funcs[k]?).isSome = true) : Tryz.prog.funcs[k]? = some (fnOf k) := by
 unfold fnOf; cases e : Tryz.prog.funcs[k]? with
 | none => rw [e] at h; cases h
 | some f => rfl
theorem body_at {k : Nat} (h : ((fnOf k).body).isSome = true) : (fnOf k).body = some (bodyOf k) := by
 unfold bodyOf; cases e : (fnOf k).body with
 | none => rw [e] at h; cases h
 | some f => rfl
theorem nt312 : (fnOf 312).ntmps = 39 := by kernel_rfl
theorem pfs_ok : ∀ d ∈ pfs, Ev.PFnOK Tryz.prog 0 313 d := by
 intro d hd
 simp only [pfs, List.mem_cons, List.not_mem_nil, or_false] at hd
 rcases hd with rfl
 exact ⟨fnOf 312, bodyOf 312, fnOf_at (by kernel_rfl), body_at (by kernel_rfl), by kernel_rfl, by kernel_rfl, by rw [nt312]; decide, by rw [nt312]; exact pc312_ok, by rw [nt312]; decide, by kernel_rfl⟩
theorem toldR {RT : List Ev.RDef} : Ev.HRok RT Tryz.prog 0 311 (Ev.toldH pfs) := Ev.told_ok must313 (fun hb h => told311 hb h) pfs_ok
end Go.AM.F

set_option maxRecDepth 100000
set_option maxHeartbeats 0
namespace Go.AM.F
def Z68G : List Value := [(.int .u64 0), (.int .u64 0), (.int .u64 0)] ++ List.replicate 64 (.int .u8 0) ++ [(.int .u32 0)]
def Z70G : List Value := [(.int .i64 0), (.int .i64 0), (.int .u64 0), (.int .u64 0), (.int .u64 0)] ++ List.replicate 64 (.int .u8 0) ++ [(.int .u32 0)]
def Z79G : List Value := [(.int .i64 0), (.slice none 0 0), (.slice none 0 0), (.slice none 0 0), (.slice none 0 0), .nilIface, (.int .u64 0), (.int .u64 0), (.int .u64 0)] ++ List.replicate 64 (.int .u8 0) ++ [(.int .u32 0), (.int .i64 0), (.int .i64 0), (.pointer none), (.bool false), (.pointer none)]
def Z136G : List Value := [(.int .u64 0), (.int .u64 0), (.int .u64 0)] ++ List.replicate 64 (.int .u8 0) ++ [(.int .u32 0), (.int .u64 0), (.int .u64 0), (.int .u64 0)] ++ List.replicate 64 (.int .u8 0) ++ [(.int .u32 0)]
def Z77G : List Value := [(.int .u8 0), (.int .i64 0), (.int .i64 0), (.int .u64 0), (.int .u32 0), (.int .u32 0), (.slice none 0 0), (.slice none 0 0), (.slice none 0 0), (.int .u64 0), (.int .u64 0), (.int .u64 0)] ++ List.replicate 64 (.int .u8 0) ++ [(.int .u32 0)]
def zclG : TypeId → List Value
 | 45 => Z68G
 | 234 => [(.int .i64 0), (.int .i64 0), (.int .i64 0)]
 | 40 => [(.int .u64 0), (.int .u32 0), (.int .u32 0), (.slice none 0 0)]
 | 150 => [(.int .i64 0), (.int .i64 0), .nilIface]
 | 93 => [(.string ByteArray.empty), (.int .i64 0), (.slice none 0 0), (.slice none 0 0), (.slice none 0 0), (.slice none 0 0)]
 | 174 => [.nilFunc, .nilFunc, .nilFunc, .nilFunc]
 | 53 => Z70G
 | 230 => Z79G
 | 352 => Z136G
 | 353 => [(.int .i64 0), (.int .i64 0), (.int .u64 0), (.int .u32 0), (.int .i64 0), (.int .i64 0), (.int .u64 0), (.int .u32 0)]
 | 358 => [.nilFunc, .nilFunc, .nilFunc, .nilFunc, .nilFunc]
 | 459 => [(.int .u8 0), (.int .i64 0), (.int .u64 0), (.int .u32 0), (.int .u32 0), (.slice none 0 0)]
 | 281 => [(.int .u8 0), (.int .i64 0), (.int .i64 0), (.int .u64 0), (.int .u32 0)]
 | 238 => [(.int .u8 0), (.int .u8 0), (.int .i64 0), (.int .i64 0), (.slice none 0 0)]
 | 27 => [(.string ByteArray.empty), (.int .i64 0)]
 | 33 => [(.slice none 0 0), (.slice none 0 0), (.slice none 0 0), (.slice none 0 0)]
 | 47 => Z77G
 | 49 => [(.int .u64 0), (.int .u32 0)]
 | _ => []
def zvlG : TypeId → Value
 | 53 => (.agg Z70G.toArray)
 | 459 => (.agg #[(.int .u8 0), (.int .i64 0), (.int .u64 0), (.int .u32 0), (.int .u32 0), (.slice none 0 0)])
 | 281 => (.agg #[(.int .u8 0), (.int .i64 0), (.int .i64 0), (.int .u64 0), (.int .u32 0)])
 | 238 => (.agg #[(.int .u8 0), (.int .u8 0), (.int .i64 0), (.int .i64 0), (.slice none 0 0)])
 | _ => undef
def zklG : TypeId → List Nat
 | 49 => [1, 1]
 | _ => []
def zrlG : Nat → TypeId → List Value
 | 2, 2 => [(.int .i64 0), (.int .i64 0)]
 | 1, 3 => [(.int .i64 0)]
 | 1, 2 => [(.int .i64 0)]
 | 1, 27 => [(.string ByteArray.empty), (.int .i64 0)]
 | _, _ => []
noncomputable def f64 : AFunc := by
 refine (fun (_ : Cz zclG zvlG zklG zrlG Go.Proofs.Tryz.prog 0 [0, 2, 3] 64 ?a) => ?a) ?h
 case h =>
 intro zc zv zk zr hc hv hk hr
 conv => lhs; cbv; try simp only [hc, hv, hk, hr, zclG, zvlG, zklG, zrlG]
theorem f64_ok : compF Go.Proofs.Tryz.prog 0 [0, 2, 3] 64 = some f64 := by kernel_rfl
theorem f64_n : argsOK Go.Proofs.Tryz.prog 64 1 = true := by kernel_rfl
noncomputable def f203 : AFunc := by
 refine (fun (_ : Cz zclG zvlG zklG zrlG Go.Proofs.Tryz.prog 0 [0, 1, 2, 3, 4, 5, 6, 15, 23] 203 ?a) => ?a) ?h
 case h =>
 intro zc zv zk zr hc hv hk hr
 conv => lhs; cbv; try simp only [hc, hv, hk, hr, zclG, zvlG, zklG, zrlG]
theorem f203_ok : compF Go.Proofs.Tryz.prog 0 [0, 1, 2, 3, 4, 5, 6, 15, 23] 203 = some f203 := by kernel_rfl
theorem f203_n : argsOK Go.Proofs.Tryz.prog 203 2 = true := by kernel_rfl
noncomputable def f274 : AFunc := by
 refine (fun (_ : Cz zclG zvlG zklG zrlG Go.Proofs.Tryz.prog 0 [0, 2, 3, 25] 274 ?a) => ?a) ?h
 case h =>
 intro zc zv zk zr hc hv hk hr
 conv => lhs; cbv; try simp only [hc, hv, hk, hr, zclG, zvlG, zklG, zrlG]
theorem f274_ok : compF Go.Proofs.Tryz.prog 0 [0, 2, 3, 25] 274 = some f274 := by kernel_rfl
theorem f274_n : argsOK Go.Proofs.Tryz.prog 274 1 = true := by kernel_rfl
noncomputable def f219 : AFunc := by
 refine (fun (_ : Cz zclG zvlG zklG zrlG Go.Proofs.Tryz.prog 0 [0, 1, 2, 3, 6, 7, 8, 24, 42] 219 ?a) => ?a) ?h
 case h =>
 intro zc zv zk zr hc hv hk hr
 conv => lhs; cbv; try simp only [hc, hv, hk, hr, zclG, zvlG, zklG, zrlG]
theorem f219_ok : compF Go.Proofs.Tryz.prog 0 [0, 1, 2, 3, 6, 7, 8, 24, 42] 219 = some f219 := by kernel_rfl
theorem f219_n : argsOK Go.Proofs.Tryz.prog 219 3 = true := by kernel_rfl
noncomputable def f112 : AFunc := by
 refine (fun (_ : Cz zclG zvlG zklG zrlG Go.Proofs.Tryz.prog 0 [0, 1, 2, 4, 5, 6, 7, 21, 23, 24, 25, 26, 42] 112 ?a) => ?a) ?h
 case h =>
 intro zc zv zk zr hc hv hk hr
 conv => lhs; cbv; try simp only [hc, hv, hk, hr, zclG, zvlG, zklG, zrlG]
theorem f112_ok : compF Go.Proofs.Tryz.prog 0 [0, 1, 2, 4, 5, 6, 7, 21, 23, 24, 25, 26, 42] 112 = some f112 := by kernel_rfl
theorem f112_n : argsOK Go.Proofs.Tryz.prog 112 2 = true := by kernel_rfl
noncomputable def f90 : AFunc := by
 refine (fun (_ : Cz zclG zvlG zklG zrlG Go.Proofs.Tryz.prog 0 [0, 1, 4, 5, 8, 19, 24, 31, 46] 90 ?a) => ?a) ?h
 case h =>
 intro zc zv zk zr hc hv hk hr
 conv => lhs; cbv; try simp only [hc, hv, hk, hr, zclG, zvlG, zklG, zrlG]
theorem f90_ok : compF Go.Proofs.Tryz.prog 0 [0, 1, 4, 5, 8, 19, 24, 31, 46] 90 = some f90 := by kernel_rfl
theorem f90_n : argsOK Go.Proofs.Tryz.prog 90 2 = true := by kernel_rfl
noncomputable def f42 : AFunc := by
 refine (fun (_ : Cz zclG zvlG zklG zrlG Go.Proofs.Tryz.prog 0 [0, 1, 2, 5, 6, 8, 19, 20, 21, 22, 63] 42 ?a) => ?a) ?h
 case h =>
 intro zc zv zk zr hc hv hk hr
 conv => lhs; cbv; try simp only [hc, hv, hk, hr, zclG, zvlG, zklG, zrlG]
theorem f42_ok : compF Go.Proofs.Tryz.prog 0 [0, 1, 2, 5, 6, 8, 19, 20, 21, 22, 63] 42 = some f42 := by kernel_rfl
theorem f42_n : argsOK Go.Proofs.Tryz.prog 42 3 = true := by kernel_rfl
noncomputable def f170 : AFunc := by
 refine (fun (_ : Cz zclG zvlG zklG zrlG Go.Proofs.Tryz.prog 0 [0, 1, 2, 5, 6, 7, 8, 25] 170 ?a) => ?a) ?h
 case h =>
 intro zc zv zk zr hc hv hk hr
 conv => lhs; cbv; try simp only [hc, hv, hk, hr, zclG, zvlG, zklG, zrlG]
theorem f170_ok : compF Go.Proofs.Tryz.prog 0 [0, 1, 2, 5, 6, 7, 8, 25] 170 = some f170 := by kernel_rfl
theorem f170_n : argsOK Go.Proofs.Tryz.prog 170 3 = true := by kernel_rfl
noncomputable def f269 : AFunc := by
 refine (fun (_ : Cz zclG zvlG zklG zrlG Go.Proofs.Tryz.prog 0 [0, 1, 2, 3, 5, 8, 9, 12] 269 ?a) => ?a) ?h
 case h =>
 intro zc zv zk zr hc hv hk hr
 conv => lhs; cbv; try simp only [hc, hv, hk, hr, zclG, zvlG, zklG, zrlG]
theorem f269_ok : compF Go.Proofs.Tryz.prog 0 [0, 1, 2, 3, 5, 8, 9, 12] 269 = some f269 := by kernel_rfl
theorem f269_n : argsOK Go.Proofs.Tryz.prog 269 4 = true := by kernel_rfl
noncomputable def f137 : AFunc := by
 refine (fun (_ : Cz zclG zvlG zklG zrlG Go.Proofs.Tryz.prog 0 [0, 1, 3, 4, 5, 6, 7, 10, 28, 32, 49] 137 ?a) => ?a) ?h
 case h =>
 intro zc zv zk zr hc hv hk hr
 conv => lhs; cbv; try simp only [hc, hv, hk, hr, zclG, zvlG, zklG, zrlG]
theorem f137_ok : compF Go.Proofs.Tryz.prog 0 [0, 1, 3, 4, 5, 6, 7, 10, 28, 32, 49] 137 = some f137 := by kernel_rfl
theorem f137_n : argsOK Go.Proofs.Tryz.prog 137 2 = true := by kernel_rfl
noncomputable def f143 : AFunc := by
 refine (fun (_ : Cz zclG zvlG zklG zrlG Go.Proofs.Tryz.prog 0 [0, 1, 2, 3, 4, 6, 7, 10, 16, 27, 28, 29, 33] 143 ?a) => ?a) ?h
 case h =>
 intro zc zv zk zr hc hv hk hr
 conv => lhs; cbv; try simp only [hc, hv, hk, hr, zclG, zvlG, zklG, zrlG]
theorem f143_ok : compF Go.Proofs.Tryz.prog 0 [0, 1, 2, 3, 4, 6, 7, 10, 16, 27, 28, 29, 33] 143 = some f143 := by kernel_rfl
theorem f143_n : argsOK Go.Proofs.Tryz.prog 143 1 = true := by kernel_rfl
noncomputable def f173 : AFunc := by
 refine (fun (_ : Cz zclG zvlG zklG zrlG Go.Proofs.Tryz.prog 0 [0, 2, 3, 4, 5, 7] 173 ?a) => ?a) ?h
 case h =>
 intro zc zv zk zr hc hv hk hr
 conv => lhs; cbv; try simp only [hc, hv, hk, hr, zclG, zvlG, zklG, zrlG]
theorem f173_ok : compF Go.Proofs.Tryz.prog 0 [0, 2, 3, 4, 5, 7] 173 = some f173 := by kernel_rfl
theorem f173_n : argsOK Go.Proofs.Tryz.prog 173 1 = true := by kernel_rfl
noncomputable def f52 : AFunc := by
 refine (fun (_ : Cz zclG zvlG zklG zrlG Go.Proofs.Tryz.prog 0 [0, 2, 3, 4, 5, 6, 7, 22] 52 ?a) => ?a) ?h
 case h =>
 intro zc zv zk zr hc hv hk hr
 conv => lhs; cbv; try simp only [hc, hv, hk, hr, zclG, zvlG, zklG, zrlG]
theorem f52_ok : compF Go.Proofs.Tryz.prog 0 [0, 2, 3, 4, 5, 6, 7, 22] 52 = some f52 := by kernel_rfl
theorem f52_n : argsOK Go.Proofs.Tryz.prog 52 1 = true := by kernel_rfl
noncomputable def f250 : AFunc := by
 refine (fun (_ : Cz zclG zvlG zklG zrlG Go.Proofs.Tryz.prog 0 [0, 2, 3, 4, 5, 6, 7, 8, 9, 10, 16, 40, 52] 250 ?a) => ?a) ?h
 case h =>
 intro zc zv zk zr hc hv hk hr
 conv => lhs; cbv; try simp only [hc, hv, hk, hr, zclG, zvlG, zklG, zrlG]
theorem f250_ok : compF Go.Proofs.Tryz.prog 0 [0, 2, 3, 4, 5, 6, 7, 8, 9, 10, 16, 40, 52] 250 = some f250 := by kernel_rfl
theorem f250_n : argsOK Go.Proofs.Tryz.prog 250 1 = true := by kernel_rfl
noncomputable def f3 : AFunc := by
 refine (fun (_ : Cz zclG zvlG zklG zrlG Go.Proofs.Tryz.prog 0 [0, 2, 4, 6, 7, 8, 9, 11, 13, 14] 3 ?a) => ?a) ?h
 case h =>
 intro zc zv zk zr hc hv hk hr
 conv => lhs; cbv; try simp only [hc, hv, hk, hr, zclG, zvlG, zklG, zrlG]
theorem f3_ok : compF Go.Proofs.Tryz.prog 0 [0, 2, 4, 6, 7, 8, 9, 11, 13, 14] 3 = some f3 := by kernel_rfl
theorem f3_n : argsOK Go.Proofs.Tryz.prog 3 0 = true := by kernel_rfl
end Go.AM.F

set_option maxRecDepth 100000
set_option maxHeartbeats 0
namespace Go.AM.F
def Z70H : List Value := [(.int .i64 0), (.int .i64 0), (.int .u64 0), (.int .u64 0), (.int .u64 0)] ++ List.replicate 64 (.int .u8 0) ++ [(.int .u32 0)]
def Z68H : List Value := [(.int .u64 0), (.int .u64 0), (.int .u64 0)] ++ List.replicate 64 (.int .u8 0) ++ [(.int .u32 0)]
def Z77H : List Value := [(.int .u8 0), (.int .i64 0), (.int .i64 0), (.int .u64 0), (.int .u32 0), (.int .u32 0), (.slice none 0 0), (.slice none 0 0), (.slice none 0 0), (.int .u64 0), (.int .u64 0), (.int .u64 0)] ++ List.replicate 64 (.int .u8 0) ++ [(.int .u32 0)]
def zclH : TypeId → List Value
 | 3 => [(.int .i64 0)]
 | 37 => [(.int .u32 0)]
 | 53 => Z70H
 | 45 => Z68H
 | 176 => [(.int .i64 0), (.int .i64 0), (.int .u64 0), (.int .u32 0), (.int .u32 0), (.slice none 0 0)]
 | 40 => [(.int .u64 0), (.int .u32 0), (.int .u32 0), (.slice none 0 0)]
 | 104 => [(.int .i64 0), (.int .i64 0), (.int .i64 0), (.int .u64 0), (.int .u32 0), (.int .u32 0), (.slice none 0 0), (.bool false), (.int .u64 0), (.int .u32 0)]
 | 220 => [(.pointer none), (.pointer none), (.pointer none), (.int .i64 0), (.bool false)]
 | 275 => [(.int .i64 0), (.int .i64 0), (.int .u64 0), (.int .u32 0)]
 | 49 => [(.int .u64 0), (.int .u32 0)]
 | 121 => [(.int .u8 0), (.int .i64 0)]
 | 47 => Z77H
 | _ => []
def zvlH : TypeId → Value
 | _ => undef
def zklH : TypeId → List Nat
 | 275 => [1, 1, 1, 1]
 | _ => []
def zrlH : Nat → TypeId → List Value
 | 1, 104 => [(.int .i64 0), (.int .i64 0), (.int .i64 0), (.int .u64 0), (.int .u32 0), (.int .u32 0), (.slice none 0 0), (.bool false), (.int .u64 0), (.int .u32 0)]
 | 1, 121 => [(.int .u8 0), (.int .i64 0)]
 | _, _ => []
noncomputable def f169 : AFunc := by
 refine (fun (_ : Cz zclH zvlH zklH zrlH Go.Proofs.Tryz.prog 0 [0, 1, 4, 5, 6, 16] 169 ?a) => ?a) ?h
 case h =>
 intro zc zv zk zr hc hv hk hr
 conv => lhs; cbv; try simp only [hc, hv, hk, hr, zclH, zvlH, zklH, zrlH]
theorem f169_ok : compF Go.Proofs.Tryz.prog 0 [0, 1, 4, 5, 6, 16] 169 = some f169 := by kernel_rfl
theorem f169_n : argsOK Go.Proofs.Tryz.prog 169 2 = true := by kernel_rfl
noncomputable def f47 : AFunc := by
 refine (fun (_ : Cz zclH zvlH zklH zrlH Go.Proofs.Tryz.prog 0 [0, 1, 2, 5, 6, 30] 47 ?a) => ?a) ?h
 case h =>
 intro zc zv zk zr hc hv hk hr
 conv => lhs; cbv; try simp only [hc, hv, hk, hr, zclH, zvlH, zklH, zrlH]
theorem f47_ok : compF Go.Proofs.Tryz.prog 0 [0, 1, 2, 5, 6, 30] 47 = some f47 := by kernel_rfl
theorem f47_n : argsOK Go.Proofs.Tryz.prog 47 3 = true := by kernel_rfl
noncomputable def f366 : AFunc := by
 refine (fun (_ : Cz zclH zvlH zklH zrlH Go.Proofs.Tryz.prog 0 [0, 1, 4, 5, 6, 34] 366 ?a) => ?a) ?h
 case h =>
 intro zc zv zk zr hc hv hk hr
 conv => lhs; cbv; try simp only [hc, hv, hk, hr, zclH, zvlH, zklH, zrlH]
theorem f366_ok : compF Go.Proofs.Tryz.prog 0 [0, 1, 4, 5, 6, 34] 366 = some f366 := by kernel_rfl
theorem f366_n : argsOK Go.Proofs.Tryz.prog 366 2 = true := by kernel_rfl
noncomputable def f8 : AFunc := by
 refine (fun (_ : Cz zclH zvlH zklH zrlH Go.Proofs.Tryz.prog 0 [0, 2, 3, 5] 8 ?a) => ?a) ?h
 case h =>
 intro zc zv zk zr hc hv hk hr
 conv => lhs; cbv; try simp only [hc, hv, hk, hr, zclH, zvlH, zklH, zrlH]
theorem f8_ok : compF Go.Proofs.Tryz.prog 0 [0, 2, 3, 5] 8 = some f8 := by kernel_rfl
theorem f8_n : argsOK Go.Proofs.Tryz.prog 8 1 = true := by kernel_rfl
noncomputable def f9 : AFunc := by
 refine (fun (_ : Cz zclH zvlH zklH zrlH Go.Proofs.Tryz.prog 0 [0, 1, 4, 5, 6, 11] 9 ?a) => ?a) ?h
 case h =>
 intro zc zv zk zr hc hv hk hr
 conv => lhs; cbv; try simp only [hc, hv, hk, hr, zclH, zvlH, zklH, zrlH]
theorem f9_ok : compF Go.Proofs.Tryz.prog 0 [0, 1, 4, 5, 6, 11] 9 = some f9 := by kernel_rfl
theorem f9_n : argsOK Go.Proofs.Tryz.prog 9 2 = true := by kernel_rfl
noncomputable def f106 : AFunc := by
 refine (fun (_ : Cz zclH zvlH zklH zrlH Go.Proofs.Tryz.prog 0 [0, 2, 3, 4, 5, 7] 106 ?a) => ?a) ?h
 case h =>
 intro zc zv zk zr hc hv hk hr
 conv => lhs; cbv; try simp only [hc, hv, hk, hr, zclH, zvlH, zklH, zrlH]
theorem f106_ok : compF Go.Proofs.Tryz.prog 0 [0, 2, 3, 4, 5, 7] 106 = some f106 := by kernel_rfl
theorem f106_n : argsOK Go.Proofs.Tryz.prog 106 1 = true := by kernel_rfl
noncomputable def f207 : AFunc := by
 refine (fun (_ : Cz zclH zvlH zklH zrlH Go.Proofs.Tryz.prog 0 [0, 1, 2, 5, 6, 7, 8, 9, 10, 14, 46] 207 ?a) => ?a) ?h
 case h =>
 intro zc zv zk zr hc hv hk hr
 conv => lhs; cbv; try simp only [hc, hv, hk, hr, zclH, zvlH, zklH, zrlH]
theorem f207_ok : compF Go.Proofs.Tryz.prog 0 [0, 1, 2, 5, 6, 7, 8, 9, 10, 14, 46] 207 = some f207 := by kernel_rfl
theorem f207_n : argsOK Go.Proofs.Tryz.prog 207 3 = true := by kernel_rfl
noncomputable def f88 : AFunc := by
 refine (fun (_ : Cz zclH zvlH zklH zrlH Go.Proofs.Tryz.prog 0 [0, 1, 4, 5, 69] 88 ?a) => ?a) ?h
 case h =>
 intro zc zv zk zr hc hv hk hr
 conv => lhs; cbv; try simp only [hc, hv, hk, hr, zclH, zvlH, zklH, zrlH]
theorem f88_ok : compF Go.Proofs.Tryz.prog 0 [0, 1, 4, 5, 69] 88 = some f88 := by kernel_rfl
theorem f88_n : argsOK Go.Proofs.Tryz.prog 88 2 = true := by kernel_rfl
noncomputable def f214 : AFunc := by
 refine (fun (_ : Cz zclH zvlH zklH zrlH Go.Proofs.Tryz.prog 0 [0, 1, 2, 5, 6, 7, 8, 9, 12, 19, 42, 63] 214 ?a) => ?a) ?h
 case h =>
 intro zc zv zk zr hc hv hk hr
 conv => lhs; cbv; try simp only [hc, hv, hk, hr, zclH, zvlH, zklH, zrlH]
theorem f214_ok : compF Go.Proofs.Tryz.prog 0 [0, 1, 2, 5, 6, 7, 8, 9, 12, 19, 42, 63] 214 = some f214 := by kernel_rfl
theorem f214_n : argsOK Go.Proofs.Tryz.prog 214 3 = true := by kernel_rfl
noncomputable def f273 : AFunc := by
 refine (fun (_ : Cz zclH zvlH zklH zrlH Go.Proofs.Tryz.prog 0 [0, 1, 2, 5, 6, 7, 8, 9, 10, 14, 57, 66] 273 ?a) => ?a) ?h
 case h =>
 intro zc zv zk zr hc hv hk hr
 conv => lhs; cbv; try simp only [hc, hv, hk, hr, zclH, zvlH, zklH, zrlH]
theorem f273_ok : compF Go.Proofs.Tryz.prog 0 [0, 1, 2, 5, 6, 7, 8, 9, 10, 14, 57, 66] 273 = some f273 := by kernel_rfl
theorem f273_n : argsOK Go.Proofs.Tryz.prog 273 3 = true := by kernel_rfl
noncomputable def f205 : AFunc := by
 refine (fun (_ : Cz zclH zvlH zklH zrlH Go.Proofs.Tryz.prog 0 [0, 1, 4, 5, 7, 9, 11, 12, 14, 22, 49, 54, 55, 56, 64] 205 ?a) => ?a) ?h
 case h =>
 intro zc zv zk zr hc hv hk hr
 conv => lhs; cbv; try simp only [hc, hv, hk, hr, zclH, zvlH, zklH, zrlH]
theorem f205_ok : compF Go.Proofs.Tryz.prog 0 [0, 1, 4, 5, 7, 9, 11, 12, 14, 22, 49, 54, 55, 56, 64] 205 = some f205 := by kernel_rfl
theorem f205_n : argsOK Go.Proofs.Tryz.prog 205 2 = true := by kernel_rfl
noncomputable def f6 : AFunc := by
 refine (fun (_ : Cz zclH zvlH zklH zrlH Go.Proofs.Tryz.prog 0 [0, 1, 2, 3, 4, 5, 6, 7, 8, 9, 11, 64, 73] 6 ?a) => ?a) ?h
 case h =>
 intro zc zv zk zr hc hv hk hr
 conv => lhs; cbv; try simp only [hc, hv, hk, hr, zclH, zvlH, zklH, zrlH]
theorem f6_ok : compF Go.Proofs.Tryz.prog 0 [0, 1, 2, 3, 4, 5, 6, 7, 8, 9, 11, 64, 73] 6 = some f6 := by kernel_rfl
theorem f6_n : argsOK Go.Proofs.Tryz.prog 6 2 = true := by kernel_rfl
noncomputable def f174 : AFunc := by
 refine (fun (_ : Cz zclH zvlH zklH zrlH Go.Proofs.Tryz.prog 0 [0, 1, 3, 4, 5, 6, 8, 22, 23, 24, 30, 40, 50] 174 ?a) => ?a) ?h
 case h =>
 intro zc zv zk zr hc hv hk hr
 conv => lhs; cbv; try simp only [hc, hv, hk, hr, zclH, zvlH, zklH, zrlH]
theorem f174_ok : compF Go.Proofs.Tryz.prog 0 [0, 1, 3, 4, 5, 6, 8, 22, 23, 24, 30, 40, 50] 174 = some f174 := by kernel_rfl
theorem f174_n : argsOK Go.Proofs.Tryz.prog 174 2 = true := by kernel_rfl
noncomputable def f275 : AFunc := by
 refine (fun (_ : Cz zclH zvlH zklH zrlH Go.Proofs.Tryz.prog 0 [0, 2, 3, 4, 5, 6, 7, 8, 10, 28] 275 ?a) => ?a) ?h
 case h =>
 intro zc zv zk zr hc hv hk hr
 conv => lhs; cbv; try simp only [hc, hv, hk, hr, zclH, zvlH, zklH, zrlH]
theorem f275_ok : compF Go.Proofs.Tryz.prog 0 [0, 2, 3, 4, 5, 6, 7, 8, 10, 28] 275 = some f275 := by kernel_rfl
theorem f275_n : argsOK Go.Proofs.Tryz.prog 275 1 = true := by kernel_rfl
noncomputable def f20 : AFunc := by
 refine (fun (_ : Cz zclH zvlH zklH zrlH Go.Proofs.Tryz.prog 0 [0, 1, 2, 3, 4, 5, 6, 9, 57] 20 ?a) => ?a) ?h
 case h =>
 intro zc zv zk zr hc hv hk hr
 conv => lhs; cbv; try simp only [hc, hv, hk, hr, zclH, zvlH, zklH, zrlH]
theorem f20_ok : compF Go.Proofs.Tryz.prog 0 [0, 1, 2, 3, 4, 5, 6, 9, 57] 20 = some f20 := by kernel_rfl
theorem f20_n : argsOK Go.Proofs.Tryz.prog 20 0 = true := by kernel_rfl
end Go.AM.F

set_option maxRecDepth 100000
set_option maxHeartbeats 0
namespace Go.AM.F
def Z78I : List Value := [(.int .u8 0), (.int .i64 0), (.int .i64 0), (.int .i64 0), (.int .i64 0), (.int .u64 0), (.int .u64 0), (.int .u64 0)] ++ List.replicate 64 (.int .u8 0) ++ [(.int .u32 0), (.int .u64 0), (.int .u64 0), (.int .u64 0), (.int .u32 0), (.slice none 0 0)]
def O68I : List Nat := List.replicate 68 1
def Z68I : List Value := [(.int .u64 0), (.int .u64 0), (.int .u64 0)] ++ List.replicate 64 (.int .u8 0) ++ [(.int .u32 0)]
def Z70I : List Value := [(.int .i64 0), (.int .i64 0), (.int .u64 0), (.int .u64 0), (.int .u64 0)] ++ List.replicate 64 (.int .u8 0) ++ [(.int .u32 0)]
def Z256I : List Value := List.replicate 256 (.int .u8 0)
def Z257I : List Value := [(.int .i64 0)] ++ List.replicate 256 (.int .u8 0)
def Z77I : List Value := [(.int .u8 0), (.int .i64 0), (.int .i64 0), (.int .u64 0), (.int .u32 0), (.int .u32 0), (.slice none 0 0), (.slice none 0 0), (.slice none 0 0), (.int .u64 0), (.int .u64 0), (.int .u64 0)] ++ List.replicate 64 (.int .u8 0) ++ [(.int .u32 0)]
def zclI : TypeId → List Value
 | 255 => Z78I
 | 205 => [(.int .i64 0), (.int .i64 0), (.slice none 0 0), (.slice none 0 0), (.slice none 0 0)]
 | 397 => [(.int .i64 0), (.slice none 0 0)]
 | 45 => Z68I
 | 53 => Z70I
 | 36 => [(.int .u64 0)]
 | 93 => [(.string ByteArray.empty), (.int .i64 0), (.slice none 0 0), (.slice none 0 0), (.slice none 0 0), (.slice none 0 0)]
 | 121 => [(.int .u8 0), (.int .i64 0)]
 | 168 => Z256I
 | 141 => [(.slice none 0 0), (.slice none 0 0), (.int .i64 0), (.pointer none), (.bool false)]
 | 170 => Z257I
 | 176 => [(.int .i64 0), (.int .i64 0), (.int .u64 0), (.int .u32 0), (.int .u32 0), (.slice none 0 0)]
 | 150 => [(.int .i64 0), (.int .i64 0), .nilIface]
 | 40 => [(.int .u64 0), (.int .u32 0), (.int .u32 0), (.slice none 0 0)]
 | 49 => [(.int .u64 0), (.int .u32 0)]
 | 47 => Z77I
 | _ => []
def zvlI : TypeId → Value
 | 176 => (.agg #[(.int .i64 0), (.int .i64 0), (.int .u64 0), (.int .u32 0), (.int .u32 0), (.slice none 0 0)])
 | 2 => (.int .i64 0)
 | _ => undef
def zklI : TypeId → List Nat
 | 45 => O68I
 | _ => []
def zrlI : Nat → TypeId → List Value
 | 1, 42 => [(.slice none 0 0)]
 | 1, 121 => [(.int .u8 0), (.int .i64 0)]
 | 1, 170 => Z257I
 | _, _ => []
noncomputable def f102 : AFunc := by
 refine (fun (_ : Cz zclI zvlI zklI zrlI Go.Proofs.Tryz.prog 0 [0, 1, 4, 5, 16] 102 ?a) => ?a) ?h
 case h =>
 intro zc zv zk zr hc hv hk hr
 conv => lhs; cbv; try simp only [hc, hv, hk, hr, zclI, zvlI, zklI, zrlI]
theorem f102_ok : compF Go.Proofs.Tryz.prog 0 [0, 1, 4, 5, 16] 102 = some f102 := by kernel_rfl
theorem f102_n : argsOK Go.Proofs.Tryz.prog 102 2 = true := by kernel_rfl
noncomputable def f164 : AFunc := by
 refine (fun (_ : Cz zclI zvlI zklI zrlI Go.Proofs.Tryz.prog 0 [0, 2, 3, 5, 6, 8, 9, 10, 11, 12, 20, 25, 26, 27, 28] 164 ?a) => ?a) ?h
 case h =>
 intro zc zv zk zr hc hv hk hr
 conv => lhs; cbv; try simp only [hc, hv, hk, hr, zclI, zvlI, zklI, zrlI]
theorem f164_ok : compF Go.Proofs.Tryz.prog 0 [0, 2, 3, 5, 6, 8, 9, 10, 11, 12, 20, 25, 26, 27, 28] 164 = some f164 := by kernel_rfl
theorem f164_n : argsOK Go.Proofs.Tryz.prog 164 1 = true := by kernel_rfl
noncomputable def f117 : AFunc := by
 refine (fun (_ : Cz zclI zvlI zklI zrlI Go.Proofs.Tryz.prog 0 [0, 1, 3, 4, 5, 6, 15, 19, 20, 21, 22, 30, 40] 117 ?a) => ?a) ?h
 case h =>
 intro zc zv zk zr hc hv hk hr
 conv => lhs; cbv; try simp only [hc, hv, hk, hr, zclI, zvlI, zklI, zrlI]
theorem f117_ok : compF Go.Proofs.Tryz.prog 0 [0, 1, 3, 4, 5, 6, 15, 19, 20, 21, 22, 30, 40] 117 = some f117 := by kernel_rfl
theorem f117_n : argsOK Go.Proofs.Tryz.prog 117 2 = true := by kernel_rfl
noncomputable def f316 : AFunc := by
 refine (fun (_ : Cz zclI zvlI zklI zrlI Go.Proofs.Tryz.prog 0 [0, 1, 4, 5, 6, 7, 10, 14, 18, 41] 316 ?a) => ?a) ?h
 case h =>
 intro zc zv zk zr hc hv hk hr
 conv => lhs; cbv; try simp only [hc, hv, hk, hr, zclI, zvlI, zklI, zrlI]
theorem f316_ok : compF Go.Proofs.Tryz.prog 0 [0, 1, 4, 5, 6, 7, 10, 14, 18, 41] 316 = some f316 := by kernel_rfl
theorem f316_n : argsOK Go.Proofs.Tryz.prog 316 2 = true := by kernel_rfl
noncomputable def f116 : AFunc := by
 refine (fun (_ : Cz zclI zvlI zklI zrlI Go.Proofs.Tryz.prog 0 [0, 2, 3, 4, 5, 6, 7] 116 ?a) => ?a) ?h
 case h =>
 intro zc zv zk zr hc hv hk hr
 conv => lhs; cbv; try simp only [hc, hv, hk, hr, zclI, zvlI, zklI, zrlI]
theorem f116_ok : compF Go.Proofs.Tryz.prog 0 [0, 2, 3, 4, 5, 6, 7] 116 = some f116 := by kernel_rfl
theorem f116_n : argsOK Go.Proofs.Tryz.prog 116 1 = true := by kernel_rfl
noncomputable def f115 : AFunc := by
 refine (fun (_ : Cz zclI zvlI zklI zrlI Go.Proofs.Tryz.prog 0 [0, 2, 3, 4, 5] 115 ?a) => ?a) ?h
 case h =>
 intro zc zv zk zr hc hv hk hr
 conv => lhs; cbv; try simp only [hc, hv, hk, hr, zclI, zvlI, zklI, zrlI]
theorem f115_ok : compF Go.Proofs.Tryz.prog 0 [0, 2, 3, 4, 5] 115 = some f115 := by kernel_rfl
theorem f115_n : argsOK Go.Proofs.Tryz.prog 115 1 = true := by kernel_rfl
noncomputable def f223 : AFunc := by
 refine (fun (_ : Cz zclI zvlI zklI zrlI Go.Proofs.Tryz.prog 0 [0, 2, 3, 12] 223 ?a) => ?a) ?h
 case h =>
 intro zc zv zk zr hc hv hk hr
 conv => lhs; cbv; try simp only [hc, hv, hk, hr, zclI, zvlI, zklI, zrlI]
theorem f223_ok : compF Go.Proofs.Tryz.prog 0 [0, 2, 3, 12] 223 = some f223 := by kernel_rfl
theorem f223_n : argsOK Go.Proofs.Tryz.prog 223 1 = true := by kernel_rfl
noncomputable def f305 : AFunc := by
 refine (fun (_ : Cz zclI zvlI zklI zrlI Go.Proofs.Tryz.prog 0 [0, 1, 2, 3, 4, 6, 7, 8, 9, 16, 23, 24, 25, 26, 30, 31, 32, 41] 305 ?a) => ?a) ?h
 case h =>
 intro zc zv zk zr hc hv hk hr
 conv => lhs; cbv; try simp only [hc, hv, hk, hr, zclI, zvlI, zklI, zrlI]
theorem f305_ok : compF Go.Proofs.Tryz.prog 0 [0, 1, 2, 3, 4, 6, 7, 8, 9, 16, 23, 24, 25, 26, 30, 31, 32, 41] 305 = some f305 := by kernel_rfl
theorem f305_n : argsOK Go.Proofs.Tryz.prog 305 1 = true := by kernel_rfl
noncomputable def f206 : AFunc := by
 refine (fun (_ : Cz zclI zvlI zklI zrlI Go.Proofs.Tryz.prog 0 [0, 1, 2, 3, 4, 5, 6, 8, 9, 41, 43, 44, 45, 46, 50, 51, 55, 66] 206 ?a) => ?a) ?h
 case h =>
 intro zc zv zk zr hc hv hk hr
 conv => lhs; cbv; try simp only [hc, hv, hk, hr, zclI, zvlI, zklI, zrlI]
theorem f206_ok : compF Go.Proofs.Tryz.prog 0 [0, 1, 2, 3, 4, 5, 6, 8, 9, 41, 43, 44, 45, 46, 50, 51, 55, 66] 206 = some f206 := by kernel_rfl
theorem f206_n : argsOK Go.Proofs.Tryz.prog 206 2 = true := by kernel_rfl
noncomputable def f25 : AFunc := by
 refine (fun (_ : Cz zclI zvlI zklI zrlI Go.Proofs.Tryz.prog 0 [0, 2] 25 ?a) => ?a) ?h
 case h =>
 intro zc zv zk zr hc hv hk hr
 conv => lhs; cbv; try simp only [hc, hv, hk, hr, zclI, zvlI, zklI, zrlI]
theorem f25_ok : compF Go.Proofs.Tryz.prog 0 [0, 2] 25 = some f25 := by kernel_rfl
theorem f25_n : argsOK Go.Proofs.Tryz.prog 25 1 = true := by kernel_rfl
noncomputable def f332 : AFunc := by
 refine (fun (_ : Cz zclI zvlI zklI zrlI Go.Proofs.Tryz.prog 0 [0, 3, 7, 8, 9, 10] 332 ?a) => ?a) ?h
 case h =>
 intro zc zv zk zr hc hv hk hr
 conv => lhs; cbv; try simp only [hc, hv, hk, hr, zclI, zvlI, zklI, zrlI]
theorem f332_ok : compF Go.Proofs.Tryz.prog 0 [0, 3, 7, 8, 9, 10] 332 = some f332 := by kernel_rfl
theorem f332_n : argsOK Go.Proofs.Tryz.prog 332 1 = true := by kernel_rfl
noncomputable def f220 : AFunc := by
 refine (fun (_ : Cz zclI zvlI zklI zrlI Go.Proofs.Tryz.prog 0 [0, 1, 4, 5, 6, 7, 9, 26, 28, 36, 60, 72, 73, 84] 220 ?a) => ?a) ?h
 case h =>
 intro zc zv zk zr hc hv hk hr
 conv => lhs; cbv; try simp only [hc, hv, hk, hr, zclI, zvlI, zklI, zrlI]
theorem f220_ok : compF Go.Proofs.Tryz.prog 0 [0, 1, 4, 5, 6, 7, 9, 26, 28, 36, 60, 72, 73, 84] 220 = some f220 := by kernel_rfl
theorem f220_n : argsOK Go.Proofs.Tryz.prog 220 2 = true := by kernel_rfl
noncomputable def f146 : AFunc := by
 refine (fun (_ : Cz zclI zvlI zklI zrlI Go.Proofs.Tryz.prog 0 [0, 1, 2, 3, 6, 7, 8, 9, 10, 11, 12, 14, 26, 30, 58, 63] 146 ?a) => ?a) ?h
 case h =>
 intro zc zv zk zr hc hv hk hr
 conv => lhs; cbv; try simp only [hc, hv, hk, hr, zclI, zvlI, zklI, zrlI]
theorem f146_ok : compF Go.Proofs.Tryz.prog 0 [0, 1, 2, 3, 6, 7, 8, 9, 10, 11, 12, 14, 26, 30, 58, 63] 146 = some f146 := by kernel_rfl
theorem f146_n : argsOK Go.Proofs.Tryz.prog 146 4 = true := by kernel_rfl
noncomputable def f22 : AFunc := by
 refine (fun (_ : Cz zclI zvlI zklI zrlI Go.Proofs.Tryz.prog 0 [0, 1, 2, 3, 4, 6, 8, 9, 10, 12, 20, 28, 40, 50] 22 ?a) => ?a) ?h
 case h =>
 intro zc zv zk zr hc hv hk hr
 conv => lhs; cbv; try simp only [hc, hv, hk, hr, zclI, zvlI, zklI, zrlI]
theorem f22_ok : compF Go.Proofs.Tryz.prog 0 [0, 1, 2, 3, 4, 6, 8, 9, 10, 12, 20, 28, 40, 50] 22 = some f22 := by kernel_rfl
theorem f22_n : argsOK Go.Proofs.Tryz.prog 22 0 = true := by kernel_rfl
noncomputable def f296 : AFunc := by
 refine (fun (_ : Cz zclI zvlI zklI zrlI Go.Proofs.Tryz.prog 0 [0, 1, 2, 6, 7, 8, 13, 17] 296 ?a) => ?a) ?h
 case h =>
 intro zc zv zk zr hc hv hk hr
 conv => lhs; cbv; try simp only [hc, hv, hk, hr, zclI, zvlI, zklI, zrlI]
theorem f296_ok : compF Go.Proofs.Tryz.prog 0 [0, 1, 2, 6, 7, 8, 13, 17] 296 = some f296 := by kernel_rfl
theorem f296_n : argsOK Go.Proofs.Tryz.prog 296 3 = true := by kernel_rfl
end Go.AM.F

set_option maxRecDepth 100000
set_option maxHeartbeats 0
namespace Go.AM.F
def Z77J : List Value := [(.int .u8 0), (.int .i64 0), (.int .i64 0), (.int .u64 0), (.int .u32 0), (.int .u32 0), (.slice none 0 0), (.slice none 0 0), (.slice none 0 0), (.int .u64 0), (.int .u64 0), (.int .u64 0)] ++ List.replicate 64 (.int .u8 0) ++ [(.int .u32 0)]
def Z79J : List Value := [(.int .i64 0), (.slice none 0 0), (.slice none 0 0), (.slice none 0 0), (.slice none 0 0), .nilIface, (.int .u64 0), (.int .u64 0), (.int .u64 0)] ++ List.replicate 64 (.int .u8 0) ++ [(.int .u32 0), (.int .i64 0), (.int .i64 0), (.pointer none), (.bool false), (.pointer none)]
def Z68J : List Value := [(.int .u64 0), (.int .u64 0), (.int .u64 0)] ++ List.replicate 64 (.int .u8 0) ++ [(.int .u32 0)]
def Z70J : List Value := [(.int .i64 0), (.int .i64 0), (.int .u64 0), (.int .u64 0), (.int .u64 0)] ++ List.replicate 64 (.int .u8 0) ++ [(.int .u32 0)]
def O68J : List Nat := List.replicate 68 1
def Z74J : List Value := [(.pointer none), (.int .u64 0), (.int .u64 0), (.int .u64 0)] ++ List.replicate 64 (.int .u8 0) ++ [(.int .u32 0), (.int .u64 0), (.int .u32 0), (.int .u32 0), (.slice none 0 0), (.int .u64 0)]
def Z308J : List Value := [(.int .u8 0), (.int .i64 0), (.int .i64 0), (.int .u64 0), (.int .u32 0), (.int .u32 0), (.slice none 0 0), (.slice none 0 0), (.slice none 0 0), (.int .u64 0), (.int .u64 0), (.int .u64 0)] ++ List.replicate 64 (.int .u8 0) ++ [(.int .u32 0), (.int .u8 0), (.int .i64 0), (.int .i64 0), (.int .u64 0), (.int .u32 0), (.int .u32 0), (.slice none 0 0), (.slice none 0 0), (.slice none 0 0), (.int .u64 0), (.int .u64 0), (.int .u64 0)] ++ List.replicate 64 (.int .u8 0) ++ [(.int .u32 0), (.int .u8 0), (.int .i64 0), (.int .i64 0), (.int .u64 0), (.int .u32 0), (.int .u32 0), (.slice none 0 0), (.slice none 0 0), (.slice none 0 0), (.int .u64 0), (.int .u64 0), (.int .u64 0)] ++ List.replicate 64 (.int .u8 0) ++ [(.int .u32 0), (.int .u8 0), (.int .i64 0), (.int .i64 0), (.int .u64 0), (.int .u32 0), (.int .u32 0), (.slice none 0 0), (.slice none 0 0), (.slice none 0 0), (.int .u64 0), (.int .u64 0), (.int .u64 0)] ++ List.replicate 64 (.int .u8 0) ++ [(.int .u32 0)]
def zclJ : TypeId → List Value
 | 238 => [(.int .u8 0), (.int .u8 0), (.int .i64 0), (.int .i64 0), (.slice none 0 0)]
 | 511 => [.nilFunc, .nilFunc, .nilFunc, .nilFunc]
 | 185 => [(.slice none 0 0)]
 | 391 => [(.int .i64 0), (.int .i64 0)]
 | 397 => [(.int .i64 0), (.slice none 0 0)]
 | 5 => [(.int .u8 0)]
 | 27 => [(.string ByteArray.empty), (.int .i64 0)]
 | 47 => Z77J
 | 9 => [(.string ByteArray.empty)]
 | 93 => [(.string ByteArray.empty), (.int .i64 0), (.slice none 0 0), (.slice none 0 0), (.slice none 0 0), (.slice none 0 0)]
 | 33 => [(.slice none 0 0), (.slice none 0 0), (.slice none 0 0), (.slice none 0 0)]
 | 230 => Z79J
 | 339 => [(.int .i64 0), (.int .i64 0), (.int .i64 0), (.int .i64 0)]
 | 341 => [(.int .u64 0), (.int .u64 0), (.int .u64 0)]
 | 344 => [(.int .i64 0), (.int .u8 0)]
 | 45 => Z68J
 | 205 => [(.int .i64 0), (.int .i64 0), (.slice none 0 0), (.slice none 0 0), (.slice none 0 0)]
 | 53 => Z70J
 | 49 => [(.int .u64 0), (.int .u32 0)]
 | 509 => Z74J
 | 121 => [(.int .u8 0), (.int .i64 0)]
 | _ => []
def zvlJ : TypeId → Value
 | 391 => (.agg #[(.int .i64 0), (.int .i64 0)])
 | 397 => (.agg #[(.int .i64 0), (.slice none 0 0)])
 | _ => undef
def zklJ : TypeId → List Nat
 | 45 => O68J
 | _ => []
def zrlJ : Nat → TypeId → List Value
 | 3, 42 => [(.slice none 0 0), (.slice none 0 0), (.slice none 0 0)]
 | 1, 3 => [(.int .i64 0)]
 | 3, 3 => [(.int .i64 0), (.int .i64 0), (.int .i64 0)]
 | 4, 47 => Z308J
 | _, _ => []
noncomputable def f163 : AFunc := by
 refine (fun (_ : Cz zclJ zvlJ zklJ zrlJ Go.Proofs.Tryz.prog 0 [0, 2, 3, 5, 6, 8, 9, 10, 11, 12, 20, 25, 26, 27, 28] 163 ?a) => ?a) ?h
 case h =>
 intro zc zv zk zr hc hv hk hr
 conv => lhs; cbv; try simp only [hc, hv, hk, hr, zclJ, zvlJ, zklJ, zrlJ]
theorem f163_ok : compF Go.Proofs.Tryz.prog 0 [0, 2, 3, 5, 6, 8, 9, 10, 11, 12, 20, 25, 26, 27, 28] 163 = some f163 := by kernel_rfl
theorem f163_n : argsOK Go.Proofs.Tryz.prog 163 1 = true := by kernel_rfl
noncomputable def f155 : AFunc := by
 refine (fun (_ : Cz zclJ zvlJ zklJ zrlJ Go.Proofs.Tryz.prog 0 [0, 1, 4, 5, 6, 7, 10] 155 ?a) => ?a) ?h
 case h =>
 intro zc zv zk zr hc hv hk hr
 conv => lhs; cbv; try simp only [hc, hv, hk, hr, zclJ, zvlJ, zklJ, zrlJ]
theorem f155_ok : compF Go.Proofs.Tryz.prog 0 [0, 1, 4, 5, 6, 7, 10] 155 = some f155 := by kernel_rfl
theorem f155_n : argsOK Go.Proofs.Tryz.prog 155 2 = true := by kernel_rfl
noncomputable def f363 : AFunc := by
 refine (fun (_ : Cz zclJ zvlJ zklJ zrlJ Go.Proofs.Tryz.prog 0 [0, 1, 3, 4, 5, 23, 53] 363 ?a) => ?a) ?h
 case h =>
 intro zc zv zk zr hc hv hk hr
 conv => lhs; cbv; try simp only [hc, hv, hk, hr, zclJ, zvlJ, zklJ, zrlJ]
theorem f363_ok : compF Go.Proofs.Tryz.prog 0 [0, 1, 3, 4, 5, 23, 53] 363 = some f363 := by kernel_rfl
theorem f363_n : argsOK Go.Proofs.Tryz.prog 363 2 = true := by kernel_rfl
noncomputable def f39 : AFunc := by
 refine (fun (_ : Cz zclJ zvlJ zklJ zrlJ Go.Proofs.Tryz.prog 0 [0, 1, 2, 7, 16, 17, 18, 55] 39 ?a) => ?a) ?h
 case h =>
 intro zc zv zk zr hc hv hk hr
 conv => lhs; cbv; try simp only [hc, hv, hk, hr, zclJ, zvlJ, zklJ, zrlJ]
theorem f39_ok : compF Go.Proofs.Tryz.prog 0 [0, 1, 2, 7, 16, 17, 18, 55] 39 = some f39 := by kernel_rfl
theorem f39_n : argsOK Go.Proofs.Tryz.prog 39 3 = true := by kernel_rfl
noncomputable def f295 : AFunc := by
 refine (fun (_ : Cz zclJ zvlJ zklJ zrlJ Go.Proofs.Tryz.prog 0 [0, 2, 3, 4, 5, 6, 7, 8, 14] 295 ?a) => ?a) ?h
 case h =>
 intro zc zv zk zr hc hv hk hr
 conv => lhs; cbv; try simp only [hc, hv, hk, hr, zclJ, zvlJ, zklJ, zrlJ]
theorem f295_ok : compF Go.Proofs.Tryz.prog 0 [0, 2, 3, 4, 5, 6, 7, 8, 14] 295 = some f295 := by kernel_rfl
theorem f295_n : argsOK Go.Proofs.Tryz.prog 295 1 = true := by kernel_rfl
noncomputable def f162 : AFunc := by
 refine (fun (_ : Cz zclJ zvlJ zklJ zrlJ Go.Proofs.Tryz.prog 0 [0, 1, 2, 3, 4, 5, 6, 7, 8, 11, 31, 32, 33, 34, 56] 162 ?a) => ?a) ?h
 case h =>
 intro zc zv zk zr hc hv hk hr
 conv => lhs; cbv; try simp only [hc, hv, hk, hr, zclJ, zvlJ, zklJ, zrlJ]
theorem f162_ok : compF Go.Proofs.Tryz.prog 0 [0, 1, 2, 3, 4, 5, 6, 7, 8, 11, 31, 32, 33, 34, 56] 162 = some f162 := by kernel_rfl
theorem f162_n : argsOK Go.Proofs.Tryz.prog 162 2 = true := by kernel_rfl
noncomputable def f158 : AFunc := by
 refine (fun (_ : Cz zclJ zvlJ zklJ zrlJ Go.Proofs.Tryz.prog 0 [0, 1, 3, 4, 5, 7, 53, 54, 55] 158 ?a) => ?a) ?h
 case h =>
 intro zc zv zk zr hc hv hk hr
 conv => lhs; cbv; try simp only [hc, hv, hk, hr, zclJ, zvlJ, zklJ, zrlJ]
theorem f158_ok : compF Go.Proofs.Tryz.prog 0 [0, 1, 3, 4, 5, 7, 53, 54, 55] 158 = some f158 := by kernel_rfl
theorem f158_n : argsOK Go.Proofs.Tryz.prog 158 2 = true := by kernel_rfl
noncomputable def f59 : AFunc := by
 refine (fun (_ : Cz zclJ zvlJ zklJ zrlJ Go.Proofs.Tryz.prog 0 [0, 1, 2, 3, 10, 12] 59 ?a) => ?a) ?h
 case h =>
 intro zc zv zk zr hc hv hk hr
 conv => lhs; cbv; try simp only [hc, hv, hk, hr, zclJ, zvlJ, zklJ, zrlJ]
theorem f59_ok : compF Go.Proofs.Tryz.prog 0 [0, 1, 2, 3, 10, 12] 59 = some f59 := by kernel_rfl
theorem f59_n : argsOK Go.Proofs.Tryz.prog 59 0 = true := by kernel_rfl
noncomputable def f65 : AFunc := by
 refine (fun (_ : Cz zclJ zvlJ zklJ zrlJ Go.Proofs.Tryz.prog 0 [0, 1, 3, 4, 5, 6, 7, 8, 14, 22] 65 ?a) => ?a) ?h
 case h =>
 intro zc zv zk zr hc hv hk hr
 conv => lhs; cbv; try simp only [hc, hv, hk, hr, zclJ, zvlJ, zklJ, zrlJ]
theorem f65_ok : compF Go.Proofs.Tryz.prog 0 [0, 1, 3, 4, 5, 6, 7, 8, 14, 22] 65 = some f65 := by kernel_rfl
theorem f65_n : argsOK Go.Proofs.Tryz.prog 65 2 = true := by kernel_rfl
noncomputable def f133 : AFunc := by
 refine (fun (_ : Cz zclJ zvlJ zklJ zrlJ Go.Proofs.Tryz.prog 0 [0, 1, 2, 3, 5, 7, 9, 12, 24, 25, 26, 33, 34, 40, 51, 52, 53, 70, 71, 72, 73] 133 ?a) => ?a) ?h
 case h =>
 intro zc zv zk zr hc hv hk hr
 conv => lhs; cbv; try simp only [hc, hv, hk, hr, zclJ, zvlJ, zklJ, zrlJ]
theorem f133_ok : compF Go.Proofs.Tryz.prog 0 [0, 1, 2, 3, 5, 7, 9, 12, 24, 25, 26, 33, 34, 40, 51, 52, 53, 70, 71, 72, 73] 133 = some f133 := by kernel_rfl
theorem f133_n : argsOK Go.Proofs.Tryz.prog 133 1 = true := by kernel_rfl
noncomputable def f379 : AFunc := by
 refine (fun (_ : Cz zclJ zvlJ zklJ zrlJ Go.Proofs.Tryz.prog 0 [0, 1, 3, 4, 5, 6, 8, 41, 42, 43, 52] 379 ?a) => ?a) ?h
 case h =>
 intro zc zv zk zr hc hv hk hr
 conv => lhs; cbv; try simp only [hc, hv, hk, hr, zclJ, zvlJ, zklJ, zrlJ]
theorem f379_ok : compF Go.Proofs.Tryz.prog 0 [0, 1, 3, 4, 5, 6, 8, 41, 42, 43, 52] 379 = some f379 := by kernel_rfl
theorem f379_n : argsOK Go.Proofs.Tryz.prog 379 2 = true := by kernel_rfl
noncomputable def f365 : AFunc := by
 refine (fun (_ : Cz zclJ zvlJ zklJ zrlJ Go.Proofs.Tryz.prog 0 [0, 1, 4, 5, 19, 29, 46, 55, 76] 365 ?a) => ?a) ?h
 case h =>
 intro zc zv zk zr hc hv hk hr
 conv => lhs; cbv; try simp only [hc, hv, hk, hr, zclJ, zvlJ, zklJ, zrlJ]
theorem f365_ok : compF Go.Proofs.Tryz.prog 0 [0, 1, 4, 5, 19, 29, 46, 55, 76] 365 = some f365 := by kernel_rfl
theorem f365_n : argsOK Go.Proofs.Tryz.prog 365 2 = true := by kernel_rfl
noncomputable def f196 : AFunc := by
 refine (fun (_ : Cz zclJ zvlJ zklJ zrlJ Go.Proofs.Tryz.prog 0 [0, 1, 2, 3, 5, 8, 9, 10, 11, 17, 20, 31, 39, 66] 196 ?a) => ?a) ?h
 case h =>
 intro zc zv zk zr hc hv hk hr
 conv => lhs; cbv; try simp only [hc, hv, hk, hr, zclJ, zvlJ, zklJ, zrlJ]
theorem f196_ok : compF Go.Proofs.Tryz.prog 0 [0, 1, 2, 3, 5, 8, 9, 10, 11, 17, 20, 31, 39, 66] 196 = some f196 := by kernel_rfl
theorem f196_n : argsOK Go.Proofs.Tryz.prog 196 4 = true := by kernel_rfl
noncomputable def f362 : AFunc := by
 refine (fun (_ : Cz zclJ zvlJ zklJ zrlJ Go.Proofs.Tryz.prog 0 [0, 1, 2, 4, 5, 6, 7, 8, 10, 11, 12, 13, 15, 39, 40, 41, 42, 53, 54, 55, 59, 74, 75, 76, 80] 362 ?a) => ?a) ?h
 case h =>
 intro zc zv zk zr hc hv hk hr
 conv => lhs; cbv; try simp only [hc, hv, hk, hr, zclJ, zvlJ, zklJ, zrlJ]
theorem f362_ok : compF Go.Proofs.Tryz.prog 0 [0, 1, 2, 4, 5, 6, 7, 8, 10, 11, 12, 13, 15, 39, 40, 41, 42, 53, 54, 55, 59, 74, 75, 76, 80] 362 = some f362 := by kernel_rfl
theorem f362_n : argsOK Go.Proofs.Tryz.prog 362 3 = true := by kernel_rfl
noncomputable def f60 : AFunc := by
 refine (fun (_ : Cz zclJ zvlJ zklJ zrlJ Go.Proofs.Tryz.prog 0 [0, 1, 3, 4, 5, 24] 60 ?a) => ?a) ?h
 case h =>
 intro zc zv zk zr hc hv hk hr
 conv => lhs; cbv; try simp only [hc, hv, hk, hr, zclJ, zvlJ, zklJ, zrlJ]
theorem f60_ok : compF Go.Proofs.Tryz.prog 0 [0, 1, 3, 4, 5, 24] 60 = some f60 := by kernel_rfl
theorem f60_n : argsOK Go.Proofs.Tryz.prog 60 2 = true := by kernel_rfl
end Go.AM.F
