/- The abstract machine, part L: regions that draw their order: the static look, and the frame of the trace. -/
import Derived.Test.YtlmikadohcdclaaAmK
set_option linter.unusedSimpArgs false
set_option linter.unusedVariables false
namespace Go.AM

/-! ### The order that the edges force -/

def ancStep (acc : List Nat) (o : Oper) : Nat := o.after.toList.foldl (fun s e => if Region.binds .any e then s ||| 2 ^ e.on ||| acc.getD e.on 0 else s) 0
def ancGo : List Oper → List Nat → List Nat
  | [], acc => acc
  | o :: r, acc => ancGo r (acc ++ [ancStep acc o])
def anc (ops : Array Oper) : List Nat := ancGo ops.toList []
def ordB (A : List Nat) (i j : Nat) : Bool := (A.getD j 0).testBit i

def Closed (ops : Array Oper) (S : Nat → Bool) : Prop := ∀ (j : Nat) (o : Oper), ops[j]? = some o → S j = true → ∀ e ∈ o.after, Region.binds .any e = true → S e.on = true

theorem ancStep_bit (acc : List Nat) (o : Oper) (i : Nat) (h : (ancStep acc o).testBit i = true) : ∃ e ∈ o.after, Region.binds .any e = true ∧ (i = e.on ∨ (acc.getD e.on 0).testBit i = true) := by
  unfold ancStep at h
  have gen : ∀ (l : List Edge) (s : Nat), (l.foldl (fun s e => if Region.binds .any e then s ||| 2 ^ e.on ||| acc.getD e.on 0 else s) s).testBit i = true →
      s.testBit i = true ∨ ∃ e ∈ l, Region.binds .any e = true ∧ (i = e.on ∨ (acc.getD e.on 0).testBit i = true) := by
    intro l
    induction l with
    | nil => intro s h; exact .inl h
    | cons e l ih =>
      intro s h
      simp only [List.foldl_cons] at h
      rcases ih _ h with h | ⟨e', h1, h2⟩
      · split at h
        · rename_i hb
          simp only [Nat.testBit_or, Bool.or_eq_true] at h
          rcases h with (h | h) | h
          · exact .inl h
          · right
            refine ⟨e, by simp, hb, .inl ?_⟩
            rw [Nat.testBit_two_pow] at h
            exact (of_decide_eq_true h).symm
          · exact .inr ⟨e, by simp, hb, .inr h⟩
        · exact .inl h
      · exact .inr ⟨e', by simp [h1], h2⟩
  rcases gen _ _ h with h | ⟨e, h1, h2⟩
  · simp at h
  · exact ⟨e, by simpa using h1, h2⟩

theorem ancGo_spec {ops : Array Oper} {S : Nat → Bool} (hS : Closed ops S) : ∀ (l : List Oper) (acc : List Nat), (∀ m, l[m]? = ops[acc.length + m]?) →
    (∀ j i, (acc.getD j 0).testBit i = true → S j = true → S i = true) → ∀ j i, ((ancGo l acc).getD j 0).testBit i = true → S j = true → S i = true
  | [], acc, _, hp, j, i, h, hj => hp j i h hj
  | o :: l, acc, hl, hp, j, i, h, hj => by
    refine ancGo_spec hS l (acc ++ [ancStep acc o]) (fun m => ?_) ?_ j i h hj
    · have := hl (m + 1)
      simpa [Nat.add_assoc, Nat.add_comm 1 m] using this
    · intro j i h hj
      by_cases hlt : j < acc.length
      · have e1 : (acc ++ [ancStep acc o]).getD j 0 = acc.getD j 0 := by simp [List.getD, List.getElem?_append_left hlt]
        rw [e1] at h
        exact hp j i h hj
      · by_cases he : j = acc.length
        · subst he
          simp only [List.getD, List.getElem?_append_right (Nat.le_refl _), Nat.sub_self, List.getElem?_cons_zero, Option.getD_some] at h
          obtain ⟨e, e1, e2, e3⟩ := ancStep_bit acc o i h
          have ho : ops[acc.length]? = some o := by simpa using (hl 0).symm
          have hse := hS _ o ho hj e e1 e2
          rcases e3 with rfl | e3
          · exact hse
          · exact hp e.on i e3 hse
        · simp only [List.getD] at h
          rw [List.getElem?_eq_none (by simp; omega)] at h
          simp at h

theorem anc_spec {ops : Array Oper} {S : Nat → Bool} (hS : Closed ops S) {i j : Nat} (h : ordB (anc ops) i j = true) (hj : S j = true) : S i = true :=
  ancGo_spec hS ops.toList [] (by simp) (fun j i h => by simp at h) j i h hj

/-! ### The static look -/

def wr (ops : Array Oper) (t : Nat) : Option Nat := (List.range ops.size).find? fun i => (ops[i]?).bind (·.dst) == some t
def clsO (P : Program) (ops : Array Oper) (j : Nat) : Nat := ((ops[j]?).map fun o => clsA (compOp P o)).getD 0

def drawOK (P : Program) (ops : Array Oper) (uns : List (List Nat)) : Bool :=
  let A := anc ops
  let n := ops.size
  P.follows .mixedOrders && uns.length == n &&
  ((List.range n).all fun j => match ops[j]? with
    | none => true
    | some o =>
      (match o.dst with | some t => wr ops t == some j | none => true) &&
      ((o.looksAt ops).all fun t => match wr ops t with
        | some i => i == j || (if i < j then ordB A i j else ordB A j i)
        | none => true) &&
      (o.after.toList.all fun e => !Region.binds .any e || e.on < j) &&
      ((List.range j).all fun i =>
        (if clsO P ops i == 3 && clsO P ops j == 3 then ordB A i j else true) &&
        (if (clsO P ops i == 3 && clsO P ops j == 1) || ((clsO P ops i == 1 || clsO P ops i == 2) && clsO P ops j == 3) then ordB A i j || (uns.getD j []).contains i else true)))

structure Look (P : Program) (ops : Array Oper) (uns : List (List Nat)) : Prop where
  mix : P.follows .mixedOrders = true
  len : uns.length = ops.size
  dst : ∀ (j : Nat) (o : Oper) (t : Nat), ops[j]? = some o → o.dst = some t → wr ops t = some j
  looks : ∀ (j : Nat) (o : Oper) (t i : Nat), ops[j]? = some o → t ∈ o.looksAt ops → wr ops t = some i → i ≠ j → (i < j → ordB (anc ops) i j = true) ∧ (j < i → ordB (anc ops) j i = true)
  edge : ∀ (j : Nat) (o : Oper) (e : Edge), ops[j]? = some o → e ∈ o.after → Region.binds .any e = true → e.on < j
  eff : ∀ (i j : Nat), i < j → j < ops.size → clsO P ops i = 3 → clsO P ops j = 3 → ordB (anc ops) i j = true
  un : ∀ (i j : Nat), i < j → j < ops.size → ((clsO P ops i = 3 ∧ clsO P ops j = 1) ∨ ((clsO P ops i = 1 ∨ clsO P ops i = 2) ∧ clsO P ops j = 3)) → ordB (anc ops) i j = true ∨ i ∈ uns.getD j []

theorem drawOK_spec {P : Program} {ops : Array Oper} {uns : List (List Nat)} (h : drawOK P ops uns = true) : Look P ops uns := by
  simp only [drawOK, Bool.and_eq_true, List.all_eq_true, List.mem_range, beq_iff_eq] at h
  obtain ⟨⟨h1, h2⟩, h3⟩ := h
  have row : ∀ (j : Nat) (o : Oper), ops[j]? = some o → _ := fun j o ho => by
    have hlt : j < ops.size := (Array.getElem?_eq_some_iff.1 ho).1
    have := h3 j hlt
    rw [ho] at this
    simp only [Bool.and_eq_true, List.all_eq_true, List.mem_range] at this
    exact this
  refine ⟨h1, h2, ?_, ?_, ?_, ?_, ?_⟩
  · intro j o t ho ht
    have := (row j o ho).1.1.1
    rw [ht] at this
    simpa using this
  · intro j o t i ho ht hw hne
    have := (row j o ho).1.1.2 t ht
    rw [hw] at this
    simp only [Bool.or_eq_true, beq_iff_eq] at this
    rcases this with h | h
    · exact absurd h hne
    · refine ⟨fun hl => by rw [if_pos hl] at h; exact h, fun hl => by rw [if_neg (by omega)] at h; exact h⟩
  · intro j o e ho he hb
    have := (row j o ho).1.2 e (by simpa using he)
    simp only [hb, Bool.not_true, Bool.false_or, decide_eq_true_eq] at this
    exact this
  · intro i j hij hj hi3 hj3
    obtain ⟨o, ho⟩ : ∃ o, ops[j]? = some o := ⟨ops[j], Array.getElem?_eq_getElem hj⟩
    have := ((row j o ho).2 i hij).1
    simp only [hi3, hj3, beq_self_eq_true, Bool.and_self, if_true] at this
    exact this
  · intro i j hij hj hc
    obtain ⟨o, ho⟩ : ∃ o, ops[j]? = some o := ⟨ops[j], Array.getElem?_eq_getElem hj⟩
    have := ((row j o ho).2 i hij).2
    rw [if_pos (by rcases hc with ⟨a, b⟩ | ⟨a | a, b⟩ <;> simp [a, b])] at this
    simp only [Bool.or_eq_true, List.contains_iff_mem] at this
    exact this

/-! ### The slots' values along the trace -/

section
variable {P : Program} {ng N : Nat} {sl : List Nat} {ops : Array Oper} {uns : List (List Nat)} {fr0 : List Value} {H0 : AHeap} {al : List AOper} {K : List Value → AHeap → Prop}

def E0 (sl : List Nat) (fr0 : List Value) (t : Nat) : Option Value := (posOf sl t).bind (fr0[·]?)
/-- What slot t holds ahead of operation j. -/
def Ev (ops : Array Oper) (sl : List Nat) (fr0 : List Value) (v : Nat → Value) (j t : Nat) : Option Value := match wr ops t with
  | some i => if i < j then some (v i) else E0 sl fr0 t
  | none => E0 sl fr0 t

theorem posOf_some : ∀ {l : List Nat} {t i : Nat}, l.Nodup → l[i]? = some t → posOf l t = some i
  | [], t, i, _, h => by simp at h
  | x :: l, t, i, hn, h => by
    rw [List.nodup_cons] at hn
    cases i with
    | zero => simp at h; simp [posOf, h]
    | succ i =>
      simp at h
      have hne : ¬ x = t := fun e => by subst e; exact hn.1 (List.mem_of_getElem? h)
      simp [posOf, hne, posOf_some hn.2 h]

structure Good (ops : Array Oper) (sl : List Nat) (fr0 : List Value) (v : Nat → Value) (j : Nat) (tl : List Nat) (F M : List Value) : Prop where
  frl : F.length = sl.length
  tml : M.length = tl.length
  fr : ∀ (i s : Nat), sl[i]? = some s → F[i]? = Ev ops sl fr0 v j s
  tm : ∀ (i s : Nat), tl[i]? = some s → M[i]? = Ev ops sl fr0 v j s
  dis : ∀ t ∈ tl, t ∉ sl

theorem Good.step (hnd : sl.Nodup) (hlk : Look P ops uns) {v : Nat → Value} {j : Nat} {tl tl' : List Nat} {F M : List Value} (g : Good ops sl fr0 v j tl F M) {o : Oper} (ho : ops[j]? = some o) {d : D} (hd : compD N sl tl o.dst = some (d, tl')) :
    Good ops sl fr0 v (j + 1) tl' (d.frame (v j) F) (d.temps (v j) M) := by
  have ne : ∀ s, (∀ t, o.dst = some t → s ≠ t) → Ev ops sl fr0 v (j + 1) s = Ev ops sl fr0 v j s := by
    intro s hs
    unfold Ev
    cases hw : wr ops s with
    | none => rfl
    | some i =>
      have hij : i ≠ j := by
        intro e
        subst e
        have := List.find?_some hw
        rw [ho] at this
        simp only [Option.bind_some, beq_iff_eq] at this
        exact hs s this rfl
      by_cases h : i < j
      · simp only [h, show i < j + 1 by omega, if_true]
      · simp only [h, show ¬ i < j + 1 by omega, if_false]
  have at_ : ∀ t, o.dst = some t → Ev ops sl fr0 v (j + 1) t = some (v j) := by
    intro t ht
    unfold Ev
    rw [hlk.dst j o t ho ht]
    simp
  cases hdst : o.dst with
  | none =>
    rw [hdst] at hd
    simp only [compD, Option.some.injEq, Prod.mk.injEq] at hd
    obtain ⟨rfl, rfl⟩ := hd
    exact ⟨g.frl, g.tml, fun i s h => by rw [ne s (fun t ht => by rw [hdst] at ht; cases ht)]; exact g.fr i s h, fun i s h => by rw [ne s (fun t ht => by rw [hdst] at ht; cases ht)]; exact g.tm i s h, g.dis⟩
  | some t =>
    have hat := at_ t hdst
    have hne : ∀ s, s ≠ t → Ev ops sl fr0 v (j + 1) s = Ev ops sl fr0 v j s := fun s hs => ne s (fun u hu => by rw [hdst] at hu; cases hu; exact hs)
    rw [hdst] at hd
    simp only [compD] at hd
    split at hd
    · rename_i i hi
      split at hd
      · simp only [Option.some.injEq, Prod.mk.injEq] at hd
        obtain ⟨rfl, rfl⟩ := hd
        have hti := posOf_get hi
        refine ⟨by simp [D.frame, g.frl], g.tml, ?_, ?_, g.dis⟩
        · intro k s hk
          simp only [D.frame, List.getElem?_set]
          by_cases hik : i = k
          · subst hik
            rw [hti] at hk; cases hk
            rw [if_pos rfl, if_pos (by rw [g.frl]; exact (List.getElem?_eq_some_iff.1 hti).1), hat]
          · rw [if_neg hik]
            have hst : s ≠ t := fun e => by
              subst e
              have h1 := posOf_some hnd hk
              rw [hi] at h1; cases h1
              exact hik rfl
            rw [hne s hst]; exact g.fr k s hk
        · intro k s hk
          have hst : s ≠ t := fun e => by
            subst e
            exact g.dis s (List.mem_of_getElem? hk) (List.mem_of_getElem? hti)
          rw [hne s hst]; exact g.tm k s hk
      · cases hd
    · rename_i hi
      split at hd
      · cases hd
      · rename_i hj0
        split at hd
        · simp only [Option.some.injEq, Prod.mk.injEq] at hd
          obtain ⟨rfl, rfl⟩ := hd
          have h1 := posOf_none hi
          have h2 := posOf_none hj0
          refine ⟨g.frl, by simp [D.temps, g.tml], ?_, ?_, ?_⟩
          · intro k s hk
            rw [hne s (fun e => h1 (by rw [← e]; exact List.mem_of_getElem? hk))]; exact g.fr k s hk
          · intro k s hk
            cases k with
            | zero => simp at hk; subst hk; simp [D.temps, hat]
            | succ k =>
              simp at hk
              rw [hne s (fun e => h2 (by rw [← e]; exact List.mem_of_getElem? hk))]
              simpa [D.temps] using g.tm k s hk
          · intro s hs
            simp only [List.mem_cons] at hs
            rcases hs with rfl | hs
            · exact h1
            · exact g.dis s hs
        · cases hd

/-- What is known of operation j and its compiled form. -/
structure Row (P : Program) (ng N : Nat) (sl : List Nat) (ops : Array Oper) (fr0 : List Value) (v : Nat → Value) (F M : Nat → List Value) (j : Nat) (o : Oper) (ao : AOper) : Prop where
  ex : ∃ tl tl', Good ops sl fr0 v j tl (F j) (M j) ∧ (∀ x ∈ o.op.operands, (compX ng sl tl x).isSome = true) ∧ compG ng sl tl ops o.guard = some ao.g ∧ compD N sl tl o.dst = some (ao.dst, tl') ∧
    ao.op = (compOp P o).map (fun x => (compX ng sl tl x).getD (.c undef))

theorem rows_of (hnd : sl.Nodup) (hlk : Look P ops uns) {v : Nat → Value} {F M : Nat → List Value} (alf : List AOper) (hF : ∀ j ao, alf[j]? = some ao → F (j + 1) = ao.dst.frame (v j) (F j)) (hM : ∀ j ao, alf[j]? = some ao → M (j + 1) = ao.dst.temps (v j) (M j)) :
    ∀ (l : List Oper) (tl : List Nat) (al : List AOper) (j : Nat), (∀ k, l[k]? = ops[j + k]?) → (∀ k, al[k]? = alf[j + k]?) → compR P ng N sl ops l tl = some al → Good ops sl fr0 v j tl (F j) (M j) →
      (∀ (k : Nat) (o : Oper), l[k]? = some o → ∃ ao, alf[j + k]? = some ao ∧ Row P ng N sl ops fr0 v F M (j + k) o ao) ∧ ∃ tl', Good ops sl fr0 v (j + l.length) tl' (F (j + l.length)) (M (j + l.length)) ∧ al.length = l.length
  | [], tl, al, j, hl, hal, hc, g => by
    simp only [compR, Option.some.injEq] at hc
    subst hc
    exact ⟨by simp, tl, by simpa using g, rfl⟩
  | o :: l, tl, al, j, hl, hal, hc, g => by
    simp only [compR] at hc
    split at hc
    · rename_i hall
      split at hc
      · rename_i gd d tl' hg hd
        simp only [Option.map_eq_some_iff] at hc
        obtain ⟨al', hal', rfl⟩ := hc
        have ho : ops[j]? = some o := by simpa using (hl 0).symm
        have hao : alf[j]? = some { op := (compOp P o).map fun x => (compX ng sl tl x).getD (.c undef), dst := d, g := gd } := by simpa using (hal 0).symm
        have g' := g.step hnd hlk ho hd
        have e1 := hF j _ hao
        have e2 := hM j _ hao
        simp only at e1 e2
        rw [← e1, ← e2] at g'
        obtain ⟨r1, tl2, r2, r3⟩ := rows_of hnd hlk alf hF hM l tl' al' (j + 1) (fun k => by have := hl (k + 1); simpa [Nat.add_assoc, Nat.add_comm 1 k] using this)
          (fun k => by have := hal (k + 1); simpa [Nat.add_assoc, Nat.add_comm 1 k] using this) hal' g'
        refine ⟨?_, tl2, by simpa [Nat.add_assoc, Nat.add_comm 1 l.length] using r2, by simp [r3]⟩
        intro k o' hk
        cases k with
        | zero =>
          simp at hk; subst hk
          exact ⟨_, hao, ⟨tl, tl', g, fun x hx => List.all_eq_true.1 hall x (by simpa using hx), hg, hd, rfl⟩⟩
        | succ k =>
          obtain ⟨ao, a1, a2⟩ := r1 k o' (by simpa using hk)
          exact ⟨ao, by rw [← a1]; congr 1; omega, by rw [show j + (k + 1) = j + 1 + k by omega]; exact a2⟩
      · cases hc
    · cases hc

end
end Go.AM
