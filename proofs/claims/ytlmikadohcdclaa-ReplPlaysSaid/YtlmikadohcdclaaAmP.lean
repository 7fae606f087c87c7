/- The abstract machine, part P: a region that draws its order: the step of each operation. -/
import Derived.Test.YtlmikadohcdclaaAmO
set_option linter.unusedSimpArgs false
set_option linter.unusedVariables false
namespace Go.AM

section
variable {P : Program} {ng N : Nat} {sl : List Nat} {ops : Array Oper} {uns : List (List Nat)} {fr0 : List Value} {H0 : AHeap} {K : List Value → AHeap → Prop} {C : Ctx P ng N sl ops uns fr0 H0 K}
variable {σ0 : Sg} {w0 : World}

theorem Sg.ext {σ σ' : Sg} (h : σ.le σ') (k : ∀ b i, σ b = none → σ' b = some i → False) : σ' = σ := by
  funext b
  cases e : σ b with
  | some i => exact h b i e
  | none =>
    cases e' : σ' b with
    | none => rfl
    | some i => exact (k b i e e').elim

/-- Reading only. -/
theorem INV.step1 {S : Nat → Bool} {a : Act} {w : World} {σ : Sg} {p j : Nat} (I : INV C σ0 w0 S a w σ p) (hr : Ready ops S j) {o : Oper} {ao : AOper} (ho : ops[j]? = some o) (ha : C.alf[j]? = some ao)
    (hw : C.W j) (hc : clsO P ops j = 0 ∨ clsO P ops j = 1) (hcl : clsA ao.op = clsO P ops j) {tl tl' : List Nat} {d : D} (g : Good ops sl fr0 C.T.v j tl (C.T.F j) (C.T.M j)) (hall : ∀ x ∈ o.op.operands, (compX ng sl tl x).isSome = true)
    (hd : compD N sl tl o.dst = some (d, tl')) (hao : ao.op = (compOp P o).map (fun x => (compX ng sl tl x).getD (.c undef))) {Q : Exit → Act → World → Prop} {next : Act → World → Prop}
    (hn : ∀ a' w', INV C σ0 w0 (addS S j) a' w' σ p → next a' w') : o.wp P a w next Q := by
  have hj : j < ops.size := (Array.getElem?_eq_some_iff.1 ho).1
  have hpn := I.pn
  have hm : max p j ≤ ops.size := by omega
  have hne : ¬ C.eff j := fun h => by have := h.2.1; omega
  have hs := (C.step hj ha).1 hw
  have hk : clsA (ao.op.map (AX.ev (C.T.F j) (C.T.M j))) = clsO P ops j := by rw [cls_map, hcl]
  have has := StepC_asem (by omega) hs
  obtain ⟨r1, r2, r3⟩ := asem_ro (by omega) has
  have hG : ∀ b ∈ readsA (ao.op.map (AX.ev (C.T.F j) (C.T.M j))), (roH (C.Nn (max p j)) (C.GS p)).get b = ((C.T.H j).get b).map roO := by
    intro b hb
    obtain ⟨ob, h1⟩ := r2 b hb
    have hlt : b < C.Nn j := AHeap.get_lt h1
    have hlt2 : b < C.Nn (max p j) := Nat.lt_of_lt_of_le hlt (C.mono (by omega) hm)
    have hc1 : clsO P ops j = 1 := by
      rcases hc with h | h
      · exfalso
        rw [h] at hk
        generalize ao.op.map (AX.ev (C.T.F j) (C.T.M j)) = q at hk hb
        cases q <;> simp [readsA, clsA] at hb hk
      · exact h
    rw [roH_get _ _ hlt2, I.same_lo hr hj hw hc1 ha hb hlt, h1]
    rfl
  have has2 := r3 _ hG
  have hR := I.HRro (m := max p j) (by omega) hm (Nat.le_refl _)
  have hev : ∀ x ∈ o.op.operands, VR (cut σ (C.Nn (max p j))) (((AX.ev (C.T.F j) (C.T.M j)) ∘ fun x => (compX ng sl tl x).getD (.c undef)) x) (a.eval x) := by
    intro x hx
    obtain ⟨ax, hax⟩ := Option.isSome_iff_exists.1 (hall x hx)
    simp only [Function.comp, hax, Option.getD_some]
    exact I.operand hr ho g hx hax
  rw [hao, map_map_op] at has2
  obtain ⟨nx, v', w', σ', e1, e2, e3, e4, e5⟩ := asem_sound hR o hev has2
  have hσ : σ' = cut σ (C.Nn (max p j)) := Sg.ext e4.sub (fun b i h1 h2 => by
    have := (e4.new b i h1 h2).1
    simp only [roH, ofFn] at this
    omega)
  subst hσ
  have hkeep : ∀ k, k < w.heap.size → w'.heap[k]? = w.heap[k]? := fun k hk => e4.keep k hk (fun b i ob _ g1 ow => by rw [roH_own g1] at ow; cases ow)
  have fin : ∀ u, VR (cut σ (C.Nn (max p j))) (C.T.v j) u → next (a.put o.dst u) w' := fun u hu =>
    hn _ _ (I.next hr hne ho hd (hu.mono (cut_mono σ (C.mono (by omega) (by omega)))) hkeep e4.size e4.os e4.tape e4.output)
  unfold Oper.wp
  rw [e1]
  rcases e2 with rfl | ⟨rfl, hv⟩
  · exact fin v' e5
  · refine fin undef ?_
    rw [hv] at e5; exact e5

/-- Not wanted. -/
theorem INV.step0 {S : Nat → Bool} {a : Act} {w : World} {σ : Sg} {p j : Nat} (I : INV C σ0 w0 S a w σ p) (hr : Ready ops S j) {o : Oper} {ao : AOper} (ho : ops[j]? = some o) (ha : C.alf[j]? = some ao)
    (hw : ¬ C.W j) {tl tl' : List Nat} {d : D} (hd : compD N sl tl o.dst = some (d, tl')) : INV C σ0 w0 (addS S j) (a.put o.dst undef) w σ p := by
  have hj : j < ops.size := (Array.getElem?_eq_some_iff.1 ho).1
  refine I.next hr (fun h => hw h.2.2) ho hd ?_ (fun _ _ => rfl) (Nat.le_refl _) rfl rfl rfl
  rw [((C.step hj ha).2 hw).1]
  exact .tuple _ _ rfl (fun i a => by simp at a)

/-- A new block. -/
theorem INV.step2 {S : Nat → Bool} {a : Act} {w : World} {σ : Sg} {p j : Nat} (I : INV C σ0 w0 S a w σ p) (hr : Ready ops S j) {o : Oper} {ao : AOper} (ho : ops[j]? = some o) (ha : C.alf[j]? = some ao)
    (hw : C.W j) (hc : clsO P ops j = 2) (hcl : clsA ao.op = clsO P ops j) {tl tl' : List Nat} {d : D} (g : Good ops sl fr0 C.T.v j tl (C.T.F j) (C.T.M j)) (hall : ∀ x ∈ o.op.operands, (compX ng sl tl x).isSome = true)
    (hd : compD N sl tl o.dst = some (d, tl')) (hao : ao.op = (compOp P o).map (fun x => (compX ng sl tl x).getD (.c undef))) {Q : Exit → Act → World → Prop} {next : Act → World → Prop}
    (hn : ∀ a' w' σ', INV C σ0 w0 (addS S j) a' w' σ' p → next a' w') : o.wp P a w next Q := by
  have hj : j < ops.size := (Array.getElem?_eq_some_iff.1 ho).1
  have hpn := I.pn
  have hm : max p j ≤ ops.size := by omega
  have hne : ¬ C.eff j := fun h => by have := h.2.1; omega
  have hs := (C.step hj ha).1 hw
  have hk : clsA (ao.op.map (AX.ev (C.T.F j) (C.T.M j))) = 2 := by rw [cls_map, hcl, hc]
  have has := StepC_asem (by omega) hs
  obtain ⟨ob, mk, r1, r2, r3, r4, r5⟩ := asem_new hk has
  -- the block's number in the text's order
  have hB1 : C.Nn j < C.Nn (j + 1) := by
    show (C.T.H j).n < (C.T.H (j + 1)).n
    rw [r1]; simp [AHeap.alloc]
  have hfB : C.fst (C.Nn j) = j + 1 := by
    obtain ⟨f1, f2, f3⟩ := C.fst_spec (b := C.Nn j) (m := j + 1) (by omega) hB1
    rcases Nat.lt_or_ge j (C.fst (C.Nn j)) with h | h
    · omega
    · have := C.mono h (by omega)
      omega
  have hGj : (C.T.H (j + 1)).get (C.Nn j) = some ob := by
    rw [r1]; exact AHeap.get_alloc_new _ _
  have hGB : C.GS p (C.Nn j) = some ob := by
    unfold Ctx.GS
    rw [hfB]
    refine Eq.trans (C.stab hB1 (by omega) (by omega) ?_) hGj
    intro e h1 h2 h3
    have hno := I.not_before hr (I.lo e (by omega) h3)
    refine C.ob2 (by omega) h3 hw (.inr hc) hno ha _ ?_
    unfold touchA
    rw [if_neg (by omega), if_pos hk]
    simp [Ctx.Nn]
  have hσB : σ (C.Nn j) = none := by
    cases e : σ (C.Nn j) with
    | none => rfl
    | some i =>
      rcases (I.obj _ i e).2.1 with h | h
      · rw [hfB] at h; omega
      · rw [hfB] at h
        have : S j = true := h
        rw [hr.1] at this; cases this
  have hev : ∀ x ∈ o.op.operands, VR (cut σ (C.Nn (max p j))) (((AX.ev (C.T.F j) (C.T.M j)) ∘ fun x => (compX ng sl tl x).getD (.c undef)) x) (a.eval x) := by
    intro x hx
    obtain ⟨ax, hax⟩ := Option.isSome_iff_exists.1 (hall x hx)
    simp only [Function.comp, hax, Option.getD_some]
    exact I.operand hr ho g hx hax
  have hR1 := I.HRro (m := max p j) (by omega) hm (Nat.le_refl _)
  have hR2 := I.HRro (m := max p j) (by omega) hm (M := C.Nn (max p j) + 1) (by omega)
  have s1 := r3 (roH (C.Nn (max p j)) (C.GS p))
  have s2 := r3 (roH (C.Nn (max p j) + 1) (C.GS p))
  rw [hao, map_map_op] at s1 s2
  obtain ⟨nx, v', w', σ', e1, e2, e3, e4, e5⟩ := asem_sound hR1 o hev s1
  obtain ⟨nx2, v2', w2', σ2', f1, f2, f3, f4, f5⟩ := asem_sound hR2 o hev s2
  have hn1 : ∀ G, (roH (C.Nn (max p j)) G).n = C.Nn (max p j) := fun _ => rfl
  have hn2 : ∀ G, (roH (C.Nn (max p j) + 1) G).n = C.Nn (max p j) + 1 := fun _ => rfl
  rw [hn1] at e5
  rw [hn2] at f5
  have inv : ∀ {τ : Sg} {b : Nat} {u : Value}, VR τ (mk b) u → ∃ i, τ b = some i ∧ ∀ (τ' : Sg) (b' : Nat), τ' b' = some i → VR τ' (mk b') u := by
    intro τ b u h
    rcases r4 with rfl | ⟨n, k, rfl⟩
    · cases h with
      | ptr hi => exact ⟨_, hi, fun τ' b' h' => .ptr h'⟩
    · cases h with
      | sl hi h1 h2 => exact ⟨_, hi, fun τ' b' h' => .sl h' h1 h2⟩
      | sl0 hi => exact ⟨_, hi, fun τ' b' h' => .sl0 h'⟩
      | slz hx => simp at hx
  obtain ⟨i, hi, hmk⟩ := inv e5
  obtain ⟨i2, hi2, _⟩ := inv f5
  have cutN : cut σ (C.Nn (max p j)) (C.Nn (max p j)) = none := by simp [cut]
  obtain ⟨o1, q1, q2⟩ := e3.obj _ i hi
  obtain ⟨o2, q3, q4⟩ := f3.obj _ i2 hi2
  have g1 : ((roH (C.Nn (max p j)) (C.GS p)).alloc ob).get (C.Nn (max p j)) = some ob := AHeap.get_alloc_new (roH (C.Nn (max p j)) (C.GS p)) ob
  have g2 : ((roH (C.Nn (max p j) + 1) (C.GS p)).alloc ob).get (C.Nn (max p j) + 1) = some ob := AHeap.get_alloc_new (roH (C.Nn (max p j) + 1) (C.GS p)) ob
  rw [g1] at q1; cases q1
  rw [g2] at q3; cases q3
  have hmeet : (meet σ' σ2').le (cut σ (C.Nn (max p j))) := by
    intro b k hb
    unfold meet at hb
    split at hb
    · rename_i hs2
      obtain ⟨k2, hk2⟩ := Option.isSome_iff_exists.1 hs2
      cases hcb : cut σ (C.Nn (max p j)) b with
      | some k3 =>
        have := e4.sub b k3 hcb
        rw [hb] at this; exact this.symm
      | none =>
        have x1 := (e4.new b k hcb hb).1
        have x2 := (f4.new b k2 hcb hk2).1
        simp only [hn1, hn2, AHeap.alloc] at x1 x2
        omega
    · cases hb
  have hOR := (q2.meet q4).mono hmeet
  have hkeep : ∀ k, k < w.heap.size → w'.heap[k]? = w.heap[k]? := fun k hk => e4.keep k hk (fun b i ob _ g1 ow => by rw [roH_own g1] at ow; cases ow)
  have hic : w.heap.size ≤ i.c := by
    rcases (e4.new _ i cutN hi).2 with h | ⟨b0, i0, o0, _, g0, ow, _⟩
    · exact h
    · rw [roH_own g0] at ow; cases ow
  have hle : σ.le (σ.up (C.Nn j) i) := Sg.le_up i hσB
  have hB0 : C.Nn 0 ≤ C.Nn j := C.mono (Nat.zero_le _) (by omega)
  have hcut : (cut σ (C.Nn (max p j))).le (cut (σ.up (C.Nn j) i) (C.Nn (max p (j + 1)))) := fun b k hb =>
    cut_mono _ (C.mono (by omega) (by omega)) b k (cut_cut_le hle _ b k hb)
  have fin : ∀ u, VR σ' (mk (C.Nn (max p j))) u → (∀ (τ' : Sg) (b' : Nat), τ' b' = some i → VR τ' (mk b') u) → next (a.put o.dst u) w' := by
    intro u _ hu
    refine hn _ _ (σ.up (C.Nn j) i) ?_
    refine ⟨I.cl.add hr, I.pn, fun e he hf => addS_of (I.lo e he hf), ?_, I.at_, by rw [put_size]; exact I.size, by rw [put_dfr]; exact I.dfr, ?_, ?_, ?_, ?_, ?_, ?_, ?_⟩
    · intro e he hf
      have hej : e ≠ j := fun h => hne (h ▸ hf)
      rw [addS_ne hej]; exact I.hi e he hf
    · refine I.env' ho hd hle (Nat.le_refl _) I.pn ?_
      rw [r2]
      refine hu _ _ (cut_of (Sg.up_same _ _ _) ?_)
      exact Nat.lt_of_lt_of_le hB1 (C.mono (by omega) (by omega))
    · intro b k hb
      by_cases hbB : b = C.Nn j
      · subst hbB
        rw [Sg.up_same] at hb; cases hb
        refine ⟨Nat.lt_of_lt_of_le hB1 (C.mono (by omega) (Nat.le_refl _)), .inr (by rw [hfB]; exact addS_same S j), ob, hGB, ?_⟩
        rw [hfB]
        exact hOR.mono hcut
      · rw [Sg.up_other σ i hbB] at hb
        obtain ⟨k1, k2, o1, k3, k4⟩ := I.obj b k hb
        exact ⟨k1, k2.imp id addS_of, o1, k3, (k4.mono (cut_cut_le hle _)).congr (fun _ => hkeep _ (I.lt b k hb))⟩
    · intro b1 b2 i1 i2 o1 o2 hne12 h1 h2 g1 g2 ow lv
      by_cases e1 : b1 = C.Nn j
      · subst e1
        rw [Sg.up_same] at h1; cases h1
        rw [Sg.up_other σ _ (Ne.symm hne12)] at h2
        have := I.lt b2 i2 h2
        omega
      · rw [Sg.up_other σ i e1] at h1
        by_cases e2 : b2 = C.Nn j
        · subst e2
          rw [Sg.up_same] at h2; cases h2
          have := I.lt b1 i1 h1
          omega
        · rw [Sg.up_other σ i e2] at h2
          exact I.inj b1 b2 i1 i2 o1 o2 hne12 h1 h2 g1 g2 ow lv
    · intro b k hb
      by_cases hbB : b = C.Nn j
      · subst hbB
        rw [Sg.up_same] at hb; cases hb
        exact e3.lt _ _ hi
      · rw [Sg.up_other σ i hbB] at hb
        exact Nat.lt_of_lt_of_le (I.lt b k hb) e4.size
    · intro gl hg
      obtain ⟨k1, k, k2, k3, k4⟩ := I.glob gl hg
      exact ⟨k1, k, hle gl k k2, k3, k4⟩
    · refine I.ext.trans ⟨hle, ?_, fun _ _ o' _ h h' => ⟨o', h, h'⟩, fun _ _ o' _ h h' => ⟨o', h, h'⟩, fun k hk' _ => hkeep k hk', e4.size, e4.os, e4.tape, e4.output⟩
      intro b k h h'
      by_cases hbB : b = C.Nn j
      · subst hbB
        rw [Sg.up_same] at h'; cases h'
        exact .inl hic
      · rw [Sg.up_other σ i hbB, h] at h'; cases h'
    · intro b hb
      rw [Sg.up_other σ i (by omega)]
      exact I.old b hb
  unfold Oper.wp
  rw [e1]
  rcases e2 with rfl | ⟨rfl, rfl⟩
  · exact fin v' e5 hmk
  · exact fin undef e5 hmk

end
end Go.AM
