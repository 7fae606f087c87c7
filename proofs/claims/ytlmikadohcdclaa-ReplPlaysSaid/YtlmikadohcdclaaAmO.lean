/- The abstract machine, part O: a region that draws its order: each operation keeps the invariant. -/
import Derived.Test.YtlmikadohcdclaaAmN
set_option linter.unusedSimpArgs false
set_option linter.unusedVariables false
namespace Go.AM

section
variable {P : Program} {ng N : Nat} {sl : List Nat} {ops : Array Oper} {uns : List (List Nat)} {fr0 : List Value} {H0 : AHeap} {K : List Value → AHeap → Prop} {C : Ctx P ng N sl ops uns fr0 H0 K}
variable {σ0 : Sg} {w0 : World}

def addS (S : Nat → Bool) (j : Nat) : Nat → Bool := fun i => if i = j then true else S i
theorem addS_same (S : Nat → Bool) (j : Nat) : addS S j j = true := by simp [addS]
theorem addS_of {S : Nat → Bool} {j i : Nat} (h : S i = true) : addS S j i = true := by unfold addS; split <;> simp_all
theorem addS_inv {S : Nat → Bool} {j i : Nat} (h : addS S j i = true) (hne : i ≠ j) : S i = true := by unfold addS at h; rw [if_neg hne] at h; exact h
theorem addS_ne {S : Nat → Bool} {j i : Nat} (hne : i ≠ j) : addS S j i = S i := by unfold addS; rw [if_neg hne]

def Ready (ops : Array Oper) (S : Nat → Bool) (j : Nat) : Prop := S j = false ∧ ∀ o, ops[j]? = some o → ∀ e ∈ o.after, Region.binds .any e = true → S e.on = true

theorem Closed.add {S : Nat → Bool} {j : Nat} (h : Closed ops S) (hr : Ready ops S j) : Closed ops (addS S j) := by
  intro i o ho hi e he hb
  by_cases e1 : i = j
  · subst e1; exact addS_of (hr.2 o ho e he hb)
  · exact addS_of (h i o ho (addS_inv hi e1) e he hb)

theorem INV.before {S : Nat → Bool} {a : Act} {w : World} {σ : Sg} {p j : Nat} (I : INV C σ0 w0 S a w σ p) (hr : Ready ops S j) {i : Nat} (hne : i ≠ j) (h : ordB (anc ops) i j = true) : S i = true :=
  addS_inv (anc_spec (I.cl.add hr) h (addS_same S j)) hne

theorem INV.not_before {S : Nat → Bool} {a : Act} {w : World} {σ : Sg} {p j : Nat} (I : INV C σ0 w0 S a w σ p) (hr : Ready ops S j) {i : Nat} (hi : S i = true) : ordB (anc ops) j i = false := by
  cases h : ordB (anc ops) j i with
  | false => rfl
  | true =>
    have := anc_spec I.cl h hi
    rw [hr.1] at this; cases this

/-- The slots that an operation looks at hold what they hold in the text's order. -/
theorem INV.look {S : Nat → Bool} {a : Act} {w : World} {σ : Sg} {p j : Nat} (I : INV C σ0 w0 S a w σ p) (hr : Ready ops S j) {o : Oper} (ho : ops[j]? = some o) {t : Nat} (ht : t ∈ o.looksAt ops) :
    C.ES S t = Ev ops sl fr0 C.T.v j t ∧ bd ops p S t ≤ max p j := by
  unfold Ctx.ES Ev bd
  cases hw : wr ops t with
  | none => exact ⟨rfl, Nat.le_max_left _ _⟩
  | some i =>
    by_cases hij : i = j
    · subst hij
      simp [hr.1, Nat.le_max_left]
    · obtain ⟨l1, l2⟩ := C.look.looks j o t i ho ht hw hij
      rcases Nat.lt_or_ge i j with h | h
      · have := I.before hr hij (l1 h)
        simp only [this, h, if_true, true_and]
        omega
      · have hji : j < i := by omega
        have hSi : S i = false := by
          cases hs : S i with
          | false => rfl
          | true =>
            have := I.not_before hr hs
            rw [l2 hji] at this; cases this
        simp only [hSi, show ¬ i < j by omega, if_false]
        exact ⟨rfl, Nat.le_max_left _ _⟩

theorem getD_of {l : List Value} {i : Nat} {u : Value} (h : l[i]? = some u) : l.getD i undef = u := by simp [List.getD, h]

/-- A slot's value, as the compiled operand has it. -/
theorem INV.tmp {S : Nat → Bool} {a : Act} {w : World} {σ : Sg} {p j : Nat} (I : INV C σ0 w0 S a w σ p) (hr : Ready ops S j) {o : Oper} (ho : ops[j]? = some o) {tl : List Nat} (g : Good ops sl fr0 C.T.v j tl (C.T.F j) (C.T.M j))
    {t : Nat} (ht : t ∈ o.looksAt ops) {ax : AX} (h : compX ng sl tl (.tmp t) = some ax) :
    ∃ u', a.tmps[t]? = some u' ∧ VR (cut σ (C.Nn (max p j))) (ax.ev (C.T.F j) (C.T.M j)) u' := by
  obtain ⟨l1, l2⟩ := I.look hr ho ht
  have hj : j < ops.size := (Array.getElem?_eq_some_iff.1 ho).1
  have hm : max p j ≤ ops.size := by have := I.pn; omega
  have key : ∀ u, Ev ops sl fr0 C.T.v j t = some u → ∃ u', a.tmps[t]? = some u' ∧ VR (cut σ (C.Nn (max p j))) u u' := by
    intro u hu
    obtain ⟨u', h1, h2⟩ := I.env t u (by rw [l1]; exact hu)
    exact ⟨u', h1, h2.mono (cut_mono σ (C.mono l2 hm))⟩
  simp only [compX] at h
  split at h
  · rename_i i hi
    cases h
    have hs := posOf_get hi
    have hlt : i < (C.T.F j).length := by rw [g.frl]; exact (List.getElem?_eq_some_iff.1 hs).1
    have h1 := g.fr i t hs
    rw [List.getElem?_eq_getElem hlt] at h1
    have := key _ h1.symm
    simpa [AX.ev, List.getD, List.getElem?_eq_getElem hlt] using this
  · simp only [Option.map_eq_some_iff] at h
    obtain ⟨i, hi, rfl⟩ := h
    have hs := posOf_get hi
    have hlt : i < (C.T.M j).length := by rw [g.tml]; exact (List.getElem?_eq_some_iff.1 hs).1
    have h1 := g.tm i t hs
    rw [List.getElem?_eq_getElem hlt] at h1
    have := key _ h1.symm
    simpa [AX.ev, List.getD, List.getElem?_eq_getElem hlt] using this

theorem INV.operand {S : Nat → Bool} {a : Act} {w : World} {σ : Sg} {p j : Nat} (I : INV C σ0 w0 S a w σ p) (hr : Ready ops S j) {o : Oper} (ho : ops[j]? = some o) {tl : List Nat} (g : Good ops sl fr0 C.T.v j tl (C.T.F j) (C.T.M j))
    {x : Operand} (hx : x ∈ o.op.operands) {ax : AX} (h : compX ng sl tl x = some ax) : VR (cut σ (C.Nn (max p j))) (ax.ev (C.T.F j) (C.T.M j)) (a.eval x) := by
  have hj : j < ops.size := (Array.getElem?_eq_some_iff.1 ho).1
  have hm : max p j ≤ ops.size := by have := I.pn; omega
  cases x with
  | tmp t =>
    obtain ⟨u', h1, h2⟩ := I.tmp hr ho g (t := t) (by
      simp only [Oper.looksAt, List.mem_append, List.mem_filterMap]
      exact .inl ⟨.tmp t, by simpa using hx, rfl⟩) h
    simp only [Act.eval, Array.getD_eq_getD_getElem?, h1, Option.getD_some]
    exact h2
  | const v =>
    simp only [compX] at h
    split at h
    · rename_i hp; cases h; exact plainV_VR hp
    · cases h
  | global gl =>
    simp only [compX] at h
    split at h
    · rename_i hg
      cases h
      obtain ⟨k1, i, k2, k3, k4⟩ := I.glob gl hg
      have := VR.ptr (σ := cut σ (C.Nn (max p j))) (b := gl) (o := 0) (cut_of k2 (Nat.lt_of_lt_of_le k1 (C.mono (Nat.zero_le _) hm)))
      rw [k3, k4] at this
      exact this
    · cases h
  | func f =>
    simp only [compX] at h
    cases h
    exact func_VR _ f

theorem INV.guard {S : Nat → Bool} {a : Act} {w : World} {σ : Sg} {p j : Nat} (I : INV C σ0 w0 S a w σ p) (hr : Ready ops S j) {o : Oper} (ho : ops[j]? = some o) {tl : List Nat} (g : Good ops sl fr0 C.T.v j tl (C.T.F j) (C.T.M j))
    {ga : Option (AX × Bool)} (h : compG ng sl tl ops o.guard = some ga) : Region.wanted o (yielded ops a.tmps) = wantA ga (C.T.F j) (C.T.M j) := by
  unfold Region.wanted
  cases hg : o.guard with
  | none => rw [hg] at h; simp only [compG] at h; cases h; rfl
  | some jb =>
    obtain ⟨k, b⟩ := jb
    rw [hg] at h
    simp only [compG] at h
    split at h
    · rename_i t ht
      simp only [Option.map_eq_some_iff] at h
      obtain ⟨x, hx, rfl⟩ := h
      obtain ⟨v', h1, h2⟩ := I.tmp hr ho g (t := t) (by simp [Oper.looksAt, hg, ht]) hx
      simp only [yielded, ht, Option.bind_some, h1, wantA]
      revert h2
      generalize x.ev (C.T.F j) (C.T.M j) = u
      intro h2
      cases h2 <;> simp [Option.some.injEq]
    · cases h

/-- The slots, after an operation. -/
theorem INV.env' {S : Nat → Bool} {a : Act} {w : World} {σ : Sg} {p j : Nat} (I : INV C σ0 w0 S a w σ p) {o : Oper} (ho : ops[j]? = some o) {tl tl' : List Nat} {d : D} (hd : compD N sl tl o.dst = some (d, tl'))
    {σ' : Sg} {p' : Nat} {v' : Value} (hle : σ.le σ') (hp : p ≤ p') (hp' : p' ≤ ops.size) (hv : VR (cut σ' (C.Nn (max p' (j + 1)))) (C.T.v j) v') :
    ∀ t u, C.ES (addS S j) t = some u → ∃ u', (a.put o.dst v').tmps[t]? = some u' ∧ VR (cut σ' (C.Nn (bd ops p' (addS S j) t))) u u' := by
  have hj : j < ops.size := (Array.getElem?_eq_some_iff.1 ho).1
  have hbd : ∀ t, bd ops p S t ≤ bd ops p' (addS S j) t := by
    intro t
    unfold bd
    cases wr ops t with
    | none => exact hp
    | some i =>
      simp only
      by_cases hs : S i = true
      · simp only [hs, addS_of hs, if_true]; omega
      · simp only [hs, if_false]
        simp only [Bool.false_eq_true, if_false]
        split <;> omega
  have hbs : ∀ t, bd ops p' (addS S j) t ≤ ops.size := by
    intro t
    unfold bd
    cases hw : wr ops t with
    | none => exact hp'
    | some i =>
      have hi : i < ops.size := by
        have := List.mem_of_find?_eq_some hw
        simpa using this
      simp only
      split <;> omega
  intro t u hu
  by_cases hdst : o.dst = some t
  · have hw := C.look.dst j o t ho hdst
    have e1 : C.ES (addS S j) t = some (C.T.v j) := by simp [Ctx.ES, hw, addS_same]
    rw [e1] at hu; cases hu
    have htN : t < N := by
      rw [hdst] at hd
      simp only [compD] at hd
      split at hd
      · split at hd
        · assumption
        · cases hd
      · split at hd
        · cases hd
        · split at hd
          · assumption
          · cases hd
    refine ⟨v', by simp [hdst, Act.put, I.size, htN], ?_⟩
    have : bd ops p' (addS S j) t = max p' (j + 1) := by simp [bd, hw, addS_same]
    rw [this]; exact hv
  · have e1 : C.ES (addS S j) t = C.ES S t := by
      unfold Ctx.ES
      cases hw : wr ops t with
      | none => rfl
      | some i =>
        have hij : i ≠ j := by
          intro e
          subst e
          have := List.find?_some hw
          rw [ho] at this
          simp only [Option.bind_some, beq_iff_eq] at this
          exact hdst this
        simp only [addS_ne hij]
    rw [e1] at hu
    obtain ⟨u', h1, h2⟩ := I.env t u hu
    refine ⟨u', ?_, h2.mono (fun b i hb => cut_mono σ' (C.mono (hbd t) (hbs t)) b i (cut_cut_le hle _ b i hb))⟩
    cases hd2 : o.dst with
    | none => exact h1
    | some d2 =>
      simp only [Act.put]
      rw [Array.getElem?_setIfInBounds_ne (fun e => hdst (by rw [hd2, e]))]
      exact h1

theorem put_size (a : Act) (d : Option Tmp) (v : Value) : (a.put d v).tmps.size = a.tmps.size := by cases d <;> simp [Act.put]
theorem put_dfr (a : Act) (d : Option Tmp) (v : Value) : (a.put d v).defers = a.defers := by cases d <;> simp [Act.put]

/-- An operation that is no effect, and made no block: the invariant goes on. -/
theorem INV.next {S : Nat → Bool} {a : Act} {w w' : World} {σ : Sg} {p j : Nat} (I : INV C σ0 w0 S a w σ p) (hr : Ready ops S j) (hne : ¬ C.eff j) {o : Oper} (ho : ops[j]? = some o) {tl tl' : List Nat} {d : D} (hd : compD N sl tl o.dst = some (d, tl'))
    {v' : Value} (hv : VR (cut σ (C.Nn (max p (j + 1)))) (C.T.v j) v') (hk : ∀ k, k < w.heap.size → w'.heap[k]? = w.heap[k]?) (hs : w.heap.size ≤ w'.heap.size) (h1 : w'.os = w.os) (h2 : w'.tape = w.tape) (h3 : w'.output = w.output) :
    INV C σ0 w0 (addS S j) (a.put o.dst v') w' σ p := by
  refine ⟨I.cl.add hr, I.pn, fun e he hf => addS_of (I.lo e he hf), ?_, I.at_, by rw [put_size]; exact I.size, by rw [put_dfr]; exact I.dfr, ?_, ?_, I.inj, fun b i hb => Nat.lt_of_lt_of_le (I.lt b i hb) hs, I.glob, ?_, I.old⟩
  · intro e he hf
    have hej : e ≠ j := fun h => hne (h ▸ hf)
    rw [addS_ne hej]; exact I.hi e he hf
  · exact I.env' ho hd (Sg.le.refl σ) (Nat.le_refl _) I.pn hv
  · intro b i hb
    obtain ⟨k1, k2, o1, k3, k4⟩ := I.obj b i hb
    exact ⟨k1, k2.imp id addS_of, o1, k3, k4.congr (fun _ => hk _ (I.lt b i hb))⟩
  · refine I.ext.trans ⟨Sg.le.refl σ, fun b i h h' => (by rw [h] at h'; cases h'), fun _ _ o' _ h h' => ⟨o', h, h'⟩, fun _ _ o' _ h h' => ⟨o', h, h'⟩, fun k hk' _ => hk k hk', hs, h1, h2, h3⟩

/-- Effects between two places. -/
theorem INV.same_lo {S : Nat → Bool} {a : Act} {w : World} {σ : Sg} {p j : Nat} (I : INV C σ0 w0 S a w σ p) (hr : Ready ops S j) (hj : j < ops.size) (hw : C.W j) (hc : clsO P ops j = 1) {ao : AOper} (ha : C.alf[j]? = some ao)
    {b : Nat} (hb : b ∈ readsA (ao.op.map (AX.ev (C.T.F j) (C.T.M j)))) (hbj : b < C.Nn j) : C.GS p b = (C.T.H j).get b := by
  obtain ⟨f1, f2, f3⟩ := C.fst_spec (by omega) hbj
  have hpn := I.pn
  unfold Ctx.GS
  rcases Nat.lt_or_ge j p with hjp | hjp
  · rw [show max p (C.fst b) = p by omega]
    refine C.stab hbj (by omega) hpn ?_
    intro e h1 h2 h3
    have hej : j ≠ e := fun h => by have := h3.2.1; rw [← h, hc] at this; omega
    have hno := I.not_before hr (I.lo e h2 h3)
    obtain ⟨o, ao', e1, e2, e3, e4, e5⟩ := C.row hj
    rw [ha] at e2; cases e2
    refine C.ob2 (by omega) h3 hw (.inl hc) hno ha b ?_
    unfold touchA
    rw [if_pos (by rw [cls_map, e5]; exact hc)]
    exact hb
  · symm
    refine C.stab (p := max p (C.fst b)) ?_ (by omega) (by omega) ?_
    · exact Nat.lt_of_lt_of_le f2 (C.mono (by omega) (by omega))
    · intro e h1 h2 h3
      have hno : ordB (anc ops) e j = false := by
        cases hh : ordB (anc ops) e j with
        | false => rfl
        | true =>
          have := I.before hr (by omega) hh
          rw [I.hi e (by omega) h3] at this; cases this
      exact (C.ob1 h2 hj h3 hw hc hno ha b hb).2

/-- All that is there, as it may be read. -/
theorem INV.HRro {S : Nat → Bool} {a : Act} {w : World} {σ : Sg} {p : Nat} (I : INV C σ0 w0 S a w σ p) {m : Nat} (hpm : p ≤ m) (hm : m ≤ ops.size) {M : Nat} (hM : C.Nn m ≤ M) : HR ng (cut σ (C.Nn m)) (roH M (C.GS p)).get w := by
  refine ⟨?_, ?_, ?_, ?_⟩
  · intro b i hb
    obtain ⟨h1, h2⟩ := cut_inv hb
    obtain ⟨k1, k2, o1, k3, k4⟩ := I.obj b i h2
    refine ⟨roO o1, by rw [roH_get _ _ (Nat.lt_of_lt_of_le h1 hM), k3]; rfl, (k4.mono (cut_mono σ (C.mono ?_ hm))).ro⟩
    have := (C.fst_spec hm h1).1
    omega
  · intro b1 b2 i1 i2 o1 o2 _ _ _ g1 _ ow _
    rw [roH_own g1] at ow; cases ow
  · intro b i hb
    exact I.lt b i (cut_inv hb).2
  · intro g hg
    obtain ⟨k1, i, k2, k3, k4⟩ := I.glob g hg
    exact ⟨i, cut_of k2 (Nat.lt_of_lt_of_le k1 (C.mono (Nat.zero_le _) hm)), k3, k4⟩

end
end Go.AM
