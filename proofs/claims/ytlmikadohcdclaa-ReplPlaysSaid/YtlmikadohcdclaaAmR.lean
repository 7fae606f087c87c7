/- The abstract machine, part R: a region that draws its order: all orders. -/
import Derived.Test.YtlmikadohcdclaaAmQ
set_option linter.unusedSimpArgs false
set_option linter.unusedVariables false
namespace Go.AM

def cntU (n : Nat) (S : Nat → Bool) : Nat := ((List.range n).filter fun i => !S i).length

theorem cntU_add {S : Nat → Bool} {j : Nat} (hS : S j = false) : ∀ {n : Nat}, (j < n → cntU n (addS S j) + 1 = cntU n S) ∧ (n ≤ j → cntU n (addS S j) = cntU n S) := by
  intro n
  induction n with
  | zero => exact ⟨fun h => by omega, fun _ => rfl⟩
  | succ n ih =>
    have step : ∀ T : Nat → Bool, cntU (n + 1) T = cntU n T + if T n then 0 else 1 := by
      intro T
      unfold cntU
      rw [List.range_succ, List.filter_append, List.length_append]
      congr 1
      cases h : T n <;> simp [h]
    rw [step, step]
    constructor
    · intro h
      by_cases e : j = n
      · subst e
        rw [addS_same, hS, ih.2 (Nat.le_refl _)]
        simp
      · rw [addS_ne (Ne.symm e)]
        have := ih.1 (by omega)
        omega
    · intro h
      rw [addS_ne (by omega), ih.2 (by omega)]

theorem cntU_zero {S : Nat → Bool} {n : Nat} (h : cntU n S = 0) : ∀ i, i < n → S i = true := by
  intro i hi
  unfold cntU at h
  rw [List.length_eq_zero_iff, List.filter_eq_nil_iff] at h
  have := h i (by simpa using hi)
  simpa using this

section
variable {P : Program} {ng N : Nat} {sl : List Nat} {ops : Array Oper} {uns : List (List Nat)} {fr0 : List Value} {H0 : AHeap} {K : List Value → AHeap → Prop} {C : Ctx P ng N sl ops uns fr0 H0 K}
variable {σ0 : Sg} {w0 : World}

theorem no_ready {S : Nat → Bool} (hl : Look P ops uns) (h : ∀ j, j < ops.size → ¬ Ready ops S j) : ∀ n i, i < n → i < ops.size → S i = true := by
  intro n
  induction n with
  | zero => intro i h; omega
  | succ n ih =>
    intro i hi hio
    cases hs : S i with
    | true => rfl
    | false =>
      exfalso
      refine h i hio ⟨hs, fun o ho e he hb => ?_⟩
      have := hl.edge i o e ho he hb
      exact ih e.on (by omega) (by omega)

theorem INV.all (hQ : Exit → Act → World → Prop) (hfin : ∀ S a w σ p, INV C σ0 w0 S a w σ p → (∀ i, i < ops.size → S i = true) → hQ .normal a w) :
    ∀ (fuel : Nat) (S : Nat → Bool) (listed : Array Bool) (a : Act) (w : World) (σ : Sg) (p : Nat), listed.size = ops.size → (∀ i, i < ops.size → listed[i]? = some (S i)) → cntU ops.size S = fuel →
      INV C σ0 w0 S a w σ p → wpAny P .any ops hQ fuel listed a w
  | 0, S, listed, a, w, σ, p, hsz, hl, hc, I => by
    have hall := cntU_zero hc
    refine ⟨?_, hfin S a w σ p I hall⟩
    rw [List.eq_nil_iff_forall_not_mem]
    intro j hj
    obtain ⟨h1, o, h2, h3⟩ := mem_ready.1 hj
    have hjo : j < ops.size := (Array.getElem?_eq_some_iff.1 h2).1
    rw [Array.getD_eq_getD_getElem?, hl j hjo, hall j hjo] at h1
    cases h1
  | fuel + 1, S, listed, a, w, σ, p, hsz, hl, hc, I => by
    have rdy : ∀ j, j ∈ Region.ready .any ops listed ↔ (j < ops.size ∧ Ready ops S j) := by
      intro j
      rw [mem_ready]
      constructor
      · rintro ⟨h1, o, h2, h3⟩
        have hjo : j < ops.size := (Array.getElem?_eq_some_iff.1 h2).1
        refine ⟨hjo, ?_, ?_⟩
        · rw [Array.getD_eq_getD_getElem?, hl j hjo] at h1; simpa using h1
        · intro o' ho' e he hb
          rw [h2] at ho'; cases ho'
          have h4 := h3 e he hb
          have := C.look.edge j o e h2 he hb
          rw [Array.getD_eq_getD_getElem?, hl e.on (by omega)] at h4
          simpa using h4
      · rintro ⟨hjo, h1, h2⟩
        refine ⟨by rw [Array.getD_eq_getD_getElem?, hl j hjo, h1]; rfl, ops[j], Array.getElem?_eq_getElem hjo, ?_⟩
        intro e he hb
        have := C.look.edge j _ e (Array.getElem?_eq_getElem hjo) he hb
        rw [Array.getD_eq_getD_getElem?, hl e.on (by omega), h2 _ (Array.getElem?_eq_getElem hjo) e he hb]
        rfl
    refine ⟨?_, ?_⟩
    · intro hnil
      refine hfin S a w σ p I (fun i hi => no_ready C.look (fun j hj hr => ?_) (i + 1) i (by omega) hi)
      have := (rdy j).2 ⟨hj, hr⟩
      rw [hnil] at this
      simp at this
    · intro j hj
      obtain ⟨hjo, hr⟩ := (rdy j).1 hj
      refine I.step hr hjo ?_
      intro a' w' σ' p' I'
      refine INV.all hQ hfin fuel (addS S j) _ a' w' σ' p' (by simpa using hsz) ?_ ?_ I'
      · intro i hi
        by_cases e : j = i
        · subst e
          rw [addS_same]
          simp [hsz, hi]
        · rw [Array.getElem?_setIfInBounds_ne e, addS_ne (Ne.symm e)]
          exact hl i hi
      · have := (cntU_add (S := S) hr.1 (n := ops.size)).1 hjo
        omega

theorem cntU_false (n : Nat) : cntU n (fun _ => false) = n := by
  unfold cntU
  rw [List.filter_eq_self.2 (by simp)]
  simp

/-- A region that draws its order, out of the abstract walk in the text's order. -/
theorem RD_sound (hnd : sl.Nodup) {al : List AOper} (hcr : compR P ng N sl ops ops.toList [] = some al) (hok : drawOK P ops uns = true) {a : Act} {w : World} (he : ER σ0 N sl [] fr0 [] a) (hR : HR ng σ0 H0.get w)
    (hrd : RD P ng (al.zip uns) fr0 [] H0 [] K) {Q : Exit → Act → World → Prop}
    (hQ : ∀ a' w' σ' fr' H', ER σ' N sl [] fr' [] a' → HR ng σ' H'.get w' → Ext H0.n σ0 H0.get w H'.n σ' H'.get w' → K fr' H' → Q .normal a' w') :
    wpAny P .any ops Q ops.size (Array.replicate ops.size false) a w := by
  have hlk := drawOK_spec hok
  obtain ⟨T⟩ := RD_trace _ _ _ _ _ hrd
  have hlen : al.length = ops.size := by
    have : ∀ (l : List Oper) (tl : List Nat) (al : List AOper), compR P ng N sl ops l tl = some al → al.length = l.length := by
      intro l
      induction l with
      | nil => intro tl al h; simp only [compR, Option.some.injEq] at h; subst h; rfl
      | cons o l ih =>
        intro tl al h
        simp only [compR] at h
        split at h
        · split at h
          · simp only [Option.map_eq_some_iff] at h
            obtain ⟨al', h1, rfl⟩ := h
            simp [ih _ _ h1]
          · cases h
        · cases h
    simpa using this _ _ _ hcr
  have hz : ∀ (k : Nat) (ao : AOper), al[k]? = some ao → (al.zip uns)[k]? = some (ao, uns.getD k []) := by
    intro k ao h
    have hk : k < al.length := (List.getElem?_eq_some_iff.1 h).1
    rw [List.getElem?_zip_eq_some]
    refine ⟨h, ?_⟩
    have : k < uns.length := by rw [hlk.len]; omega
    simp [List.getD, List.getElem?_eq_getElem this]
  have hg0 : Good ops sl fr0 T.v 0 [] (T.F 0) (T.M 0) := by
    rw [T.hF, T.hM]
    refine ⟨he.frl, rfl, ?_, fun i s h => by simp at h, fun t h => by simp at h⟩
    intro i s h
    have e1 : Ev ops sl fr0 T.v 0 s = E0 sl fr0 s := by unfold Ev; cases wr ops s <;> simp
    rw [e1]
    unfold E0
    rw [posOf_some hnd h]
    rfl
  obtain ⟨r1, tl', r2, r3⟩ := rows_of (P := P) (ng := ng) (N := N) hnd hlk (v := T.v) (F := T.F) (M := T.M) al
    (fun j ao h => T.stepF j ao _ (hz j ao h)) (fun j ao h => T.stepM j ao _ (hz j ao h)) ops.toList [] al 0 (by simp) (by simp) hcr hg0
  have e0 : ops.toList.length = ops.size := by simp
  let C : Ctx P ng N sl ops uns fr0 H0 K :=
    { alf := al, T := T, look := hlk, nd := hnd
      rows := fun k o h => by
        obtain ⟨ao, h1, h2⟩ := r1 k o (by simpa using h)
        rw [Nat.zero_add] at h1 h2
        exact ⟨ao, h1, hz k ao h1, h2⟩
      endG := ⟨tl', by rw [Nat.zero_add, e0] at r2; exact r2⟩
      fin := by
        have := T.fin
        have e : (al.zip uns).length = ops.size := by rw [List.length_zip, hlk.len, hlen]; omega
        rw [e] at this
        exact this }
  obtain ⟨p, I⟩ := INV.init C he hR
  refine INV.all (C := C) Q ?_ ops.size (fun _ => false) _ a w σ0 p (by simp) (fun i hi => by simp [hi]) (cntU_false _) I
  intro S a' w' σ' p' I' hS
  obtain ⟨k1, k2, k3⟩ := I'.final hS
  exact hQ a' w' σ' _ _ k1 k2 k3 C.fin

/-- Which pairs have no order. -/
def drawUns (P : Program) (ops : Array Oper) : List (List Nat) :=
  (List.range ops.size).map fun j => (List.range j).filter fun i =>
    ((clsO P ops i == 3 && clsO P ops j == 1) || ((clsO P ops i == 1 || clsO P ops i == 2) && clsO P ops j == 3)) && !ordB (anc ops) i j

end
end Go.AM
