/- The abstract machine, part N: a region that draws its order, in whatever order: the invariant and its steps. -/
import Derived.Test.YtlmikadohcdclaaAmM
set_option linter.unusedSimpArgs false
set_option linter.unusedVariables false
namespace Go.AM

theorem StepC_n {P : Program} {ng : Nat} {op : AOp Value} {H : AHeap} {v : Value} {H' : AHeap} (h : StepC P ng op H v H') : H.n ≤ H'.n := by
  have := stepA_grow h
  obtain ⟨v2, H2, ⟨⟨rfl, rfl⟩, h2⟩, _⟩ := stepA_out' this
  exact h2

theorem StepC_asem {P : Program} {ng : Nat} {op : AOp Value} {H : AHeap} {v : Value} {H' : AHeap} (hk : clsA op ≠ 3) (h : StepC P ng op H v H') : asem op H = some (v, H') := by
  unfold StepC at h
  cases op <;> simp only [stepA] at h
  case callf f xs => simp [clsA] at hk
  case callv f xs => simp [clsA] at hk
  all_goals (obtain ⟨v2, H2, h1, rfl, rfl⟩ := h; exact h1)

theorem oblA_mem {k : Nat} {bs : List Nat} {H H' : AHeap} {tr : List TE} : ∀ {un : List Nat}, oblA k bs H H' tr un → ∀ {i : Nat} {t : TE}, i ∈ un → tr[i]? = some t →
    (k = 1 → t.k = 3 → ∀ b ∈ bs, b < t.H.n ∧ t.H'.get b = t.H.get b) ∧ (k = 3 → (t.k = 1 ∨ t.k = 2) → ∀ b ∈ t.bs, H'.get b = H.get b)
  | [], _, i, t, hi, _ => by simp at hi
  | u :: un, h, i, t, hi, ht => by
    have kb : ∀ {l : List Nat} {A B : AHeap}, keepsB l A B → ∀ b ∈ l, B.get b = A.get b := by
      intro l A B
      induction l with
      | nil => intro _ b hb; simp at hb
      | cons x l ih =>
        intro h b hb
        simp only [keepsB] at h
        simp only [List.mem_cons] at hb
        rcases hb with rfl | hb
        · exact h.1
        · exact ih h.2 b hb
    have ob : ∀ {l : List Nat} {A : AHeap}, olderB l A → ∀ b ∈ l, b < A.n := by
      intro l A
      induction l with
      | nil => intro _ b hb; simp at hb
      | cons x l ih =>
        intro h b hb
        simp only [olderB] at h
        simp only [List.mem_cons] at hb
        rcases hb with rfl | hb
        · exact h.1
        · exact ih h.2 b hb
    simp only [oblA] at h
    simp only [List.mem_cons] at hi
    rcases hi with rfl | hi
    · have h1 := h.1
      rw [ht] at h1
      simp only at h1
      refine ⟨fun hk htk b hb => ?_, fun hk htk b hb => ?_⟩
      · rw [if_pos ⟨hk, htk⟩] at h1
        exact ⟨ob h1.1 b hb, kb h1.2 b hb⟩
      · rw [if_neg (by omega), if_pos ⟨hk, htk⟩] at h1
        exact kb h1 b hb
    · exact oblA_mem h.2 hi ht

/-- What is given of a region: its trace, its static look, its compiled rows. -/
structure Ctx (P : Program) (ng N : Nat) (sl : List Nat) (ops : Array Oper) (uns : List (List Nat)) (fr0 : List Value) (H0 : AHeap) (K : List Value → AHeap → Prop) where
  alf : List AOper
  T : Trace P ng (alf.zip uns) fr0 [] H0 [] K
  look : Look P ops uns
  nd : sl.Nodup
  rows : ∀ (k : Nat) (o : Oper), ops[k]? = some o → ∃ ao, alf[k]? = some ao ∧ (alf.zip uns)[k]? = some (ao, uns.getD k []) ∧ Row P ng N sl ops fr0 T.v T.F T.M k o ao
  endG : ∃ tl, Good ops sl fr0 T.v ops.size tl (T.F ops.size) (T.M ops.size)
  fin : K (T.F ops.size) (T.H ops.size)

section
variable {P : Program} {ng N : Nat} {sl : List Nat} {ops : Array Oper} {uns : List (List Nat)} {fr0 : List Value} {H0 : AHeap} {K : List Value → AHeap → Prop} (C : Ctx P ng N sl ops uns fr0 H0 K)

def Ctx.Nn (j : Nat) : Nat := (C.T.H j).n
/-- Operation j is carried out. -/
def Ctx.W (j : Nat) : Prop := ∃ ao, C.alf[j]? = some ao ∧ wantA ao.g (C.T.F j) (C.T.M j) = true
def Ctx.eff (j : Nat) : Prop := j < ops.size ∧ clsO P ops j = 3 ∧ C.W j

theorem Ctx.row {j : Nat} (hj : j < ops.size) : ∃ (o : Oper) (ao : AOper), ops[j]? = some o ∧ C.alf[j]? = some ao ∧ (C.alf.zip uns)[j]? = some (ao, uns.getD j []) ∧ Row P ng N sl ops fr0 C.T.v C.T.F C.T.M j o ao ∧ clsA ao.op = clsO P ops j := by
  obtain ⟨ao, h1, h2, h3⟩ := C.rows j ops[j] (Array.getElem?_eq_getElem hj)
  refine ⟨ops[j], ao, Array.getElem?_eq_getElem hj, h1, h2, h3, ?_⟩
  obtain ⟨tl, tl', _, _, _, _, e⟩ := h3.ex
  rw [e, cls_map]
  simp [clsO, Array.getElem?_eq_getElem hj]

/-- What a step of the trace is, by its kind. -/
theorem Ctx.step {j : Nat} (hj : j < ops.size) {ao : AOper} (ha : C.alf[j]? = some ao) :
    (C.W j → StepC P ng (ao.op.map (AX.ev (C.T.F j) (C.T.M j))) (C.T.H j) (C.T.v j) (C.T.H (j + 1))) ∧ (¬ C.W j → C.T.v j = undef ∧ C.T.H (j + 1) = C.T.H j) := by
  obtain ⟨o, ao', e1, e2, e3, e4, e5⟩ := C.row hj
  rw [ha] at e2; cases e2
  constructor
  · rintro ⟨ao2, k1, k2⟩
    rw [ha] at k1; cases k1
    exact (C.T.yes j ao _ e3 k2).1
  · intro hn
    have hw : wantA ao.g (C.T.F j) (C.T.M j) = false := by
      cases hw : wantA ao.g (C.T.F j) (C.T.M j) with
      | false => rfl
      | true => exact absurd ⟨ao, ha, hw⟩ hn
    exact ⟨(C.T.no j ao _ e3 hw).1, (C.T.no j ao _ e3 hw).2.1⟩

theorem Ctx.mono1 {j : Nat} (hj : j < ops.size) : C.Nn j ≤ C.Nn (j + 1) := by
  obtain ⟨o, ao, e1, e2, e3, e4, e5⟩ := C.row hj
  by_cases hw : C.W j
  · exact StepC_n ((C.step hj e2).1 hw)
  · show (C.T.H j).n ≤ (C.T.H (j + 1)).n
    rw [((C.step hj e2).2 hw).2]; exact Nat.le_refl _

theorem Ctx.mono : ∀ {p q : Nat}, p ≤ q → q ≤ ops.size → C.Nn p ≤ C.Nn q := by
  intro p q h
  induction q with
  | zero => intro _; have : p = 0 := by omega
            subst this; exact Nat.le_refl _
  | succ q ih =>
    intro hq
    by_cases e : p = q + 1
    · subst e; exact Nat.le_refl _
    · exact Nat.le_trans (ih (by omega) (by omega)) (C.mono1 (by omega))

/-- What is no effect leaves what was there as it was. -/
theorem Ctx.still {j : Nat} (hj : j < ops.size) (he : ¬ C.eff j) {b : Nat} (hb : b < C.Nn j) : (C.T.H (j + 1)).get b = (C.T.H j).get b := by
  obtain ⟨o, ao, e1, e2, e3, e4, e5⟩ := C.row hj
  by_cases hw : C.W j
  · have hs := (C.step hj e2).1 hw
    have hk : clsA (ao.op.map (AX.ev (C.T.F j) (C.T.M j))) ≠ 3 := by
      rw [cls_map, e5]
      exact fun h => he ⟨hj, h, hw⟩
    have ha := StepC_asem hk hs
    have h4 : clsA (ao.op.map (AX.ev (C.T.F j) (C.T.M j))) ≤ 3 := by
      generalize ao.op.map (AX.ev (C.T.F j) (C.T.M j)) = q
      cases q <;> simp [clsA]
    by_cases h2 : clsA (ao.op.map (AX.ev (C.T.F j) (C.T.M j))) = 2
    · obtain ⟨ob, mk, k1, _⟩ := asem_new h2 ha
      rw [k1]
      exact AHeap.get_alloc_old _ _ hb
    · have := (asem_ro (by omega) ha).1
      rw [this]
  · rw [((C.step hj e2).2 hw).2]

theorem Ctx.stab {p : Nat} {b : Nat} (hb : b < C.Nn p) : ∀ {q : Nat}, p ≤ q → q ≤ ops.size → (∀ e, p ≤ e → e < q → C.eff e → (C.T.H (e + 1)).get b = (C.T.H e).get b) → (C.T.H q).get b = (C.T.H p).get b := by
  intro q h
  induction q with
  | zero => intro _ _; have : p = 0 := by omega
            subst this; rfl
  | succ q ih =>
    intro hq hs
    by_cases e : p = q + 1
    · subst e; rfl
    · have h1 := ih (by omega) (by omega) (fun e h1 h2 h3 => hs e h1 (by omega) h3)
      rw [← h1]
      by_cases he : C.eff q
      · exact hs q (by omega) (by omega) he
      · exact C.still (by omega) he (Nat.lt_of_lt_of_le hb (C.mono (by omega) (by omega)))

/-- A reader and an effect ahead of it that have no order. -/
theorem Ctx.ob1 {e j : Nat} (hej : e < j) (hj : j < ops.size) (he : C.eff e) (hw : C.W j) (hc : clsO P ops j = 1) (hno : ordB (anc ops) e j = false) {ao : AOper} (ha : C.alf[j]? = some ao) :
    ∀ b ∈ readsA (ao.op.map (AX.ev (C.T.F j) (C.T.M j))), b < C.Nn e ∧ (C.T.H (e + 1)).get b = (C.T.H e).get b := by
  obtain ⟨o, ao', e1, e2, e3, e4, e5⟩ := C.row hj
  rw [ha] at e2; cases e2
  have hun : e ∈ uns.getD j [] := by
    rcases C.look.un e j hej hj (.inl ⟨he.2.1, hc⟩) with h | h
    · rw [hno] at h; cases h
    · exact h
  obtain ⟨ao2, k1, k2⟩ := hw
  rw [ha] at k1; cases k1
  obtain ⟨y1, y2, y3⟩ := C.T.yes j ao _ e3 k2
  obtain ⟨oe, aoe, f1, f2, f3, f4, f5⟩ := C.row (show e < ops.size by omega)
  obtain ⟨ao3, g1, g2⟩ := he.2.2
  rw [f2] at g1; cases g1
  obtain ⟨z1, z2, z3⟩ := C.T.yes e aoe _ f3 g2
  have hent : ([] ++ (List.range j).map C.T.ent)[e]? = some (C.T.ent e) := by
    simp [List.getElem?_range hej]
  have := (oblA_mem y3 hun hent).1 (by rw [e5]; exact hc) (by rw [z2]; show clsA aoe.op = 3; rw [f5]; exact he.2.1)
  intro b hb
  have h1 := this b (by unfold touchA; rw [if_pos (by rw [cls_map, e5]; exact hc)]; exact hb)
  rw [z2] at h1
  exact h1

/-- An effect and a reader, or a new block, ahead of it that have no order. -/
theorem Ctx.ob2 {i e : Nat} (hie : i < e) (he : C.eff e) (hw : C.W i) (hc : clsO P ops i = 1 ∨ clsO P ops i = 2) (hno : ordB (anc ops) i e = false) {ao : AOper} (ha : C.alf[i]? = some ao) :
    ∀ b ∈ touchA (ao.op.map (AX.ev (C.T.F i) (C.T.M i))) (C.T.H i), (C.T.H (e + 1)).get b = (C.T.H e).get b := by
  obtain ⟨oe, aoe, f1, f2, f3, f4, f5⟩ := C.row he.1
  obtain ⟨o, ao', e1, e2, e3, e4, e5⟩ := C.row (show i < ops.size by have := he.1; omega)
  rw [ha] at e2; cases e2
  have hun : i ∈ uns.getD e [] := by
    rcases C.look.un i e hie he.1 (.inr ⟨hc, he.2.1⟩) with h | h
    · rw [hno] at h; cases h
    · exact h
  obtain ⟨ao2, k1, k2⟩ := hw
  rw [ha] at k1; cases k1
  obtain ⟨y1, y2, y3⟩ := C.T.yes i ao _ e3 k2
  obtain ⟨ao3, g1, g2⟩ := he.2.2
  rw [f2] at g1; cases g1
  obtain ⟨z1, z2, z3⟩ := C.T.yes e aoe _ f3 g2
  have hent : ([] ++ (List.range e).map C.T.ent)[i]? = some (C.T.ent i) := by
    simp [List.getElem?_range hie]
  have := (oblA_mem z3 hun hent).2 (by rw [f5]; exact he.2.1) (by rw [y2]; show clsA ao.op = 1 ∨ clsA ao.op = 2; rw [e5]; exact hc)
  intro b hb
  exact this b (by rw [y2]; exact hb)

/-! ### When a block first is -/

noncomputable def Ctx.fst (b : Nat) : Nat := leastOf fun m => m ≤ ops.size ∧ b < C.Nn m

theorem Ctx.fst_spec {b m : Nat} (hm : m ≤ ops.size) (hb : b < C.Nn m) : C.fst b ≤ m ∧ b < C.Nn (C.fst b) ∧ C.fst b ≤ ops.size := by
  have := leastOf_spec (p := fun m => m ≤ ops.size ∧ b < C.Nn m) ⟨m, hm, hb⟩
  exact ⟨this.2 m ⟨hm, hb⟩, this.1.2, this.1.1⟩

/-- What slot t holds, the operations of S being done. -/
def Ctx.ES (S : Nat → Bool) (t : Nat) : Option Value := match wr ops t with
  | some i => if S i then some (C.T.v i) else E0 sl fr0 t
  | none => E0 sl fr0 t
def bd (ops : Array Oper) (p : Nat) (S : Nat → Bool) (t : Nat) : Nat := match wr ops t with
  | some i => if S i then max p (i + 1) else p
  | none => p

noncomputable def Ctx.GS (p : Nat) : Gf := fun b => (C.T.H (max p (C.fst b))).get b

structure INV (σ0 : Sg) (w0 : World) (S : Nat → Bool) (a : Act) (w : World) (σ : Sg) (p : Nat) : Prop where
  cl : Closed ops S
  pn : p ≤ ops.size
  lo : ∀ e, e < p → C.eff e → S e = true
  hi : ∀ e, p ≤ e → C.eff e → S e = false
  at_ : p < ops.size → C.eff p
  size : a.tmps.size = N
  dfr : a.defers = []
  env : ∀ t u, C.ES S t = some u → ∃ u', a.tmps[t]? = some u' ∧ VR (cut σ (C.Nn (bd ops p S t))) u u'
  obj : ∀ b i, σ b = some i → b < C.Nn ops.size ∧ (C.fst b = 0 ∨ S (C.fst b - 1) = true) ∧ ∃ o, C.GS p b = some o ∧ OR (cut σ (C.Nn (max p (C.fst b)))) w i o
  inj : ∀ b1 b2 i1 i2 o1 o2, b1 ≠ b2 → σ b1 = some i1 → σ b2 = some i2 → C.GS p b1 = some o1 → C.GS p b2 = some o2 → o1.own = true → o2.live = true → i1.c ≠ i2.c
  lt : ∀ b i, σ b = some i → i.c < w.heap.size
  glob : ∀ g, g < ng → g < C.Nn 0 ∧ ∃ i, σ g = some i ∧ i.c = g ∧ i.off = 0
  ext : Ext0 σ0 H0.get w0 σ (C.GS p) w
  old : ∀ b, b < C.Nn 0 → σ b = σ0 b

end
end Go.AM
