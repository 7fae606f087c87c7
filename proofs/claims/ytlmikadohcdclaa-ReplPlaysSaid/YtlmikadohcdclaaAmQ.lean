/- The abstract machine, part Q: a region that draws its order: effects, the first state, the last. -/
import Derived.Test.YtlmikadohcdclaaAmP
set_option linter.unusedSimpArgs false
set_option linter.unusedVariables false
namespace Go.AM

section
variable {P : Program} {ng N : Nat} {sl : List Nat} {ops : Array Oper} {uns : List (List Nat)} {fr0 : List Value} {H0 : AHeap} {K : List Value → AHeap → Prop} {C : Ctx P ng N sl ops uns fr0 H0 K}
variable {σ0 : Sg} {w0 : World}

theorem Ctx.nextE (C : Ctx P ng N sl ops uns fr0 H0 K) (q : Nat) (hq : q ≤ ops.size) : ∃ p, q ≤ p ∧ p ≤ ops.size ∧ (∀ e, q ≤ e → e < p → ¬ C.eff e) ∧ (p < ops.size → C.eff p) := by
  have h := leastOf_spec (p := fun m => q ≤ m ∧ (m = ops.size ∨ C.eff m)) ⟨ops.size, hq, .inl rfl⟩
  generalize leastOf (fun m => q ≤ m ∧ (m = ops.size ∨ C.eff m)) = p at h
  obtain ⟨⟨h1, h2⟩, h3⟩ := h
  refine ⟨p, h1, ?_, ?_, ?_⟩
  · rcases h2 with h2 | h2
    · omega
    · have := h2.1; omega
  · intro e h4 h5 h6
    have := h3 e ⟨h4, .inr h6⟩
    omega
  · intro h4
    rcases h2 with h2 | h2
    · omega
    · exact h2

/-- The effect whose turn it is. -/
theorem INV.step3 {S : Nat → Bool} {a : Act} {w : World} {σ : Sg} {p j : Nat} (I : INV C σ0 w0 S a w σ p) (hr : Ready ops S j) {o : Oper} {ao : AOper} (ho : ops[j]? = some o) (ha : C.alf[j]? = some ao)
    (hw : C.W j) (hc : clsO P ops j = 3) (hcl : clsA ao.op = clsO P ops j) {tl tl' : List Nat} {d : D} (g : Good ops sl fr0 C.T.v j tl (C.T.F j) (C.T.M j)) (hall : ∀ x ∈ o.op.operands, (compX ng sl tl x).isSome = true)
    (hd : compD N sl tl o.dst = some (d, tl')) (hao : ao.op = (compOp P o).map (fun x => (compX ng sl tl x).getD (.c undef))) {Q : Exit → Act → World → Prop} {next : Act → World → Prop}
    (hn : ∀ a' w' σ' p', INV C σ0 w0 (addS S j) a' w' σ' p' → next a' w') : o.wp P a w next Q := by
  have hj : j < ops.size := (Array.getElem?_eq_some_iff.1 ho).1
  have hpn := I.pn
  have hef : C.eff j := ⟨hj, hc, hw⟩
  have hjp : j = p := by
    rcases Nat.lt_trichotomy j p with h | h | h
    · have := I.lo j h hef
      rw [hr.1] at this; cases this
    · exact h
    · have hp := I.at_ (by omega)
      have := I.before hr (by omega) (C.look.eff p j h hj hp.2.1 hc)
      rw [I.hi p (Nat.le_refl _) hp] at this; cases this
  subst hjp
  have hs := (C.step hj ha).1 hw
  obtain ⟨p2, n1, n2, n3, n4⟩ := C.nextE (j + 1) (by omega)
  have hmx : max j j = j := by omega
  have hev : ∀ x ∈ o.op.operands, VR (cut σ (C.Nn j)) (((AX.ev (C.T.F j) (C.T.M j)) ∘ fun x => (compX ng sl tl x).getD (.c undef)) x) (a.eval x) := by
    intro x hx
    obtain ⟨ax, hax⟩ := Option.isSome_iff_exists.1 (hall x hx)
    simp only [Function.comp, hax, Option.getD_some]
    have := I.operand hr ho g hx hax
    rw [hmx] at this; exact this
  have hGlow : ∀ b, b < C.Nn j → C.GS j b = (C.T.H j).get b := by
    intro b hb
    have := (C.fst_spec (by omega) hb).1
    unfold Ctx.GS
    rw [show max j (C.fst b) = j by omega]
  have hR : HR ng (cut σ (C.Nn j)) (C.T.H j).get w := by
    refine ⟨?_, ?_, fun b i hb => I.lt b i (cut_inv hb).2, ?_⟩
    · intro b i hb
      obtain ⟨h1, h2⟩ := cut_inv hb
      obtain ⟨k1, k2, o1, k3, k4⟩ := I.obj b i h2
      have := (C.fst_spec (by omega) h1).1
      rw [show max j (C.fst b) = j by omega] at k4
      exact ⟨o1, by rw [← hGlow b h1]; exact k3, k4⟩
    · intro b1 b2 i1 i2 o1 o2 hne h1 h2 g1 g2
      obtain ⟨x1, x2⟩ := cut_inv h1
      obtain ⟨y1, y2⟩ := cut_inv h2
      rw [← hGlow b1 x1] at g1
      rw [← hGlow b2 y1] at g2
      exact I.inj b1 b2 i1 i2 o1 o2 hne x2 y2 g1 g2
    · intro gl hg
      obtain ⟨k1, i, k2, k3, k4⟩ := I.glob gl hg
      exact ⟨i, cut_of k2 (Nat.lt_of_lt_of_le k1 (C.mono (Nat.zero_le _) (by omega))), k3, k4⟩
  unfold StepC at hs
  rw [hao, map_map_op] at hs
  refine oper_wp hR hev hs ?_
  rintro v H' v' σ' w' ⟨rfl, rfl⟩ e3 e4 e5
  change HR ng σ' (C.T.H (j + 1)).get w' at e3
  have hmid : ∀ b, C.Nn j ≤ b → b < C.Nn (j + 1) → σ b = none := by
    intro b h1 h2
    cases e : σ b with
    | none => rfl
    | some i =>
      obtain ⟨f1, f2, f3⟩ := C.fst_spec (b := b) (m := j + 1) (by omega) h2
      have hf : C.fst b = j + 1 := by
        rcases Nat.lt_or_ge j (C.fst b) with h | h
        · omega
        · have := C.mono h (by omega)
          omega
      rcases (I.obj _ i e).2.1 with h | h
      · omega
      · rw [hf] at h
        have : S j = true := h
        rw [hr.1] at this; cases this
  have hm1 : C.Nn j ≤ C.Nn (j + 1) := C.mono1 hj
  have lowN : ∀ {b i}, σ b = some i → b < C.Nn (j + 1) → b < C.Nn j := fun {b i} h1 h2 => by
    rcases Nat.lt_or_ge b (C.Nn j) with h | h
    · exact h
    · rw [hmid b h h2] at h1; cases h1
  let σ2 : Sg := fun b => if b < C.Nn (j + 1) then σ' b else σ b
  have σ2lo : ∀ {b}, b < C.Nn (j + 1) → σ2 b = σ' b := fun {b} h => by simp only [σ2]; rw [if_pos h]
  have σ2hi : ∀ {b}, ¬ b < C.Nn (j + 1) → σ2 b = σ b := fun {b} h => by simp only [σ2]; rw [if_neg h]
  have hle : σ.le σ2 := by
    intro b i hb
    by_cases h : b < C.Nn (j + 1)
    · rw [σ2lo h]; exact e4.sub b i (cut_of hb (lowN hb h))
    · rw [σ2hi h]; exact hb
  have hle' : ∀ {m}, C.Nn (j + 1) ≤ m → σ'.le (cut σ2 m) := fun {m} hm b i hb => by
    have : b < C.Nn (j + 1) := by
      rcases Nat.lt_or_ge b (C.Nn (j + 1)) with h | h
      · exact h
      · have := e3.none_of_ge (b := b) h
        rw [this] at hb; cases hb
    exact cut_of (by rw [σ2lo this]; exact hb) (by omega)
  have G2lo : ∀ b, b < C.Nn (j + 1) → C.GS p2 b = (C.T.H (j + 1)).get b := by
    intro b hb
    have := (C.fst_spec (by omega) hb).1
    unfold Ctx.GS
    rw [show max p2 (C.fst b) = p2 by omega]
    exact C.stab hb n1 n2 (fun e h1 h2 h3 => absurd h3 (n3 e h1 h2))
  have G2hi : ∀ b i, ¬ b < C.Nn (j + 1) → σ b = some i → C.GS p2 b = C.GS j b := by
    intro b i hb hσ
    have hbn := (I.obj b i hσ).1
    obtain ⟨f1, f2, f3⟩ := C.fst_spec (Nat.le_refl _) hbn
    have hf : j + 1 < C.fst b := by
      rcases Nat.lt_or_ge (j + 1) (C.fst b) with h | h
      · exact h
      · exact absurd (Nat.lt_of_lt_of_le f2 (C.mono h (by omega))) hb
    unfold Ctx.GS
    rw [show max j (C.fst b) = C.fst b by omega]
    rcases Nat.lt_or_ge p2 (C.fst b) with h | h
    · rw [show max p2 (C.fst b) = C.fst b by omega]
    · rw [show max p2 (C.fst b) = p2 by omega]
      exact C.stab f2 h n2 (fun e h1 h2 h3 => absurd h3 (n3 e (by omega) h2))
  -- the old blocks of its own behind the bound are untouched
  have keepHi : ∀ {b i o1}, ¬ b < C.Nn (j + 1) → σ b = some i → C.GS j b = some o1 → o1.live = true → w'.heap[i.c]? = w.heap[i.c]? := by
    intro b i o1 hb hσ hG hl
    refine e4.keep _ (I.lt b i hσ) ?_
    intro b0 i0 o0 h1 h2 h3
    obtain ⟨x1, x2⟩ := cut_inv h1
    refine I.inj b0 b i0 i o0 o1 (by omega) x2 hσ (by rw [hGlow b0 x1]; exact h2) hG h3 hl
  have newc : ∀ {b i}, b < C.Nn (j + 1) → σ b = none → σ' b = some i → w.heap.size ≤ i.c ∨ ∃ b0 i0 o0, σ b0 = some i0 ∧ C.GS j b0 = some o0 ∧ o0.own = true ∧ i0.c = i.c ∧ b0 < C.Nn j := by
    intro b i _ h1 h2
    have : cut σ (C.Nn j) b = none := by
      unfold cut
      split
      · exact h1
      · rfl
    rcases (e4.new b i this h2).2 with h | ⟨b0, i0, o0, g1, g2, g3, g4⟩
    · exact .inl h
    · obtain ⟨x1, x2⟩ := cut_inv g1
      exact .inr ⟨b0, i0, o0, x2, by rw [hGlow b0 x1]; exact g2, g3, g4, x1⟩
  have ownc : ∀ {b i o'}, σ b = some i → b < C.Nn (j + 1) → (C.T.H (j + 1)).get b = some o' → (o'.own = true → ∃ o, C.GS j b = some o ∧ o.own = true) ∧ (o'.live = true → ∃ o, C.GS j b = some o ∧ o.live = true) := by
    intro b i o' h1 h2 h3
    have hb := lowN h1 h2
    rw [hGlow b hb]
    exact ⟨e4.own b i o' (cut_of h1 hb) h3, e4.live b i o' (cut_of h1 hb) h3⟩
  refine hn _ _ σ2 p2 ?_
  refine ⟨I.cl.add hr, n2, ?_, ?_, n4, by rw [put_size]; exact I.size, by rw [put_dfr]; exact I.dfr, ?_, ?_, ?_, ?_, ?_, ?_, ?_⟩
  · intro e he hf
    rcases Nat.lt_trichotomy e j with h | h | h
    · exact addS_of (I.lo e h hf)
    · subst h; exact addS_same S e
    · exact absurd hf (n3 e h he)
  · intro e he hf
    rw [addS_ne (by omega)]
    exact I.hi e (by omega) hf
  · refine I.env' ho hd hle (by omega) n2 ?_
    rw [show max p2 (j + 1) = p2 by omega]
    exact e5.mono (hle' (C.mono n1 n2))
  · intro b i hb
    by_cases h : b < C.Nn (j + 1)
    · rw [σ2lo h] at hb
      obtain ⟨o1, k1, k2⟩ := e3.obj b i hb
      obtain ⟨f1, f2, f3⟩ := C.fst_spec (b := b) (m := j + 1) (by omega) h
      refine ⟨Nat.lt_of_lt_of_le h (C.mono (by omega) (Nat.le_refl _)), ?_, o1, by rw [G2lo b h]; exact k1, k2.mono (hle' (C.mono (by omega) (by omega)))⟩
      cases hσ : σ b with
      | some i2 => exact (I.obj b i2 hσ).2.1.imp id addS_of
      | none =>
        rcases Nat.lt_or_ge (C.fst b) (j + 1) with h2 | h2
        · have hbj : b < C.Nn j := Nat.lt_of_lt_of_le f2 (C.mono (by omega) (by omega))
          have : cut σ (C.Nn j) b = none := by unfold cut; rw [if_pos hbj]; exact hσ
          have := (e4.new b i this hb).1.1
          simp only [Ctx.Nn] at hbj
          omega
        · right
          rw [show C.fst b - 1 = j by omega]
          exact addS_same S j
    · rw [σ2hi h] at hb
      obtain ⟨k1, k2, o1, k3, k4⟩ := I.obj b i hb
      refine ⟨k1, k2.imp id addS_of, o1, by rw [G2hi b i h hb]; exact k3, (k4.mono ?_).congr (fun hl => keepHi h hb k3 hl)⟩
      obtain ⟨f1, f2, f3⟩ := C.fst_spec (Nat.le_refl _) k1
      exact fun b' i' hb' => cut_mono σ2 (C.mono (by omega) (by omega)) b' i' (cut_cut_le hle _ b' i' hb')
  · intro b1 b2 i1 i2 o1 o2 hne h1 h2 g1 g2 ow lv
    by_cases x1 : b1 < C.Nn (j + 1)
    · rw [σ2lo x1] at h1
      rw [G2lo b1 x1] at g1
      by_cases x2 : b2 < C.Nn (j + 1)
      · rw [σ2lo x2] at h2
        rw [G2lo b2 x2] at g2
        exact e3.inj b1 b2 i1 i2 o1 o2 hne h1 h2 g1 g2 ow lv
      · rw [σ2hi x2] at h2
        rw [G2hi b2 i2 x2 h2] at g2
        cases hσ : σ b1 with
        | some i1' =>
          have := e4.sub b1 i1' (cut_of hσ (lowN hσ x1))
          rw [h1] at this; cases this
          obtain ⟨o0, q1, q2⟩ := (ownc hσ x1 g1).1 ow
          exact I.inj b1 b2 i1 i2 o0 o2 hne hσ h2 q1 g2 q2 lv
        | none =>
          rcases newc x1 hσ h1 with h | ⟨b0, i0, o0, q1, q2, q3, q4, q5⟩
          · have := I.lt b2 i2 h2
            omega
          · rw [← q4]
            exact I.inj b0 b2 i0 i2 o0 o2 (by omega) q1 h2 q2 g2 q3 lv
    · rw [σ2hi x1] at h1
      rw [G2hi b1 i1 x1 h1] at g1
      by_cases x2 : b2 < C.Nn (j + 1)
      · rw [σ2lo x2] at h2
        rw [G2lo b2 x2] at g2
        cases hσ : σ b2 with
        | some i2' =>
          have := e4.sub b2 i2' (cut_of hσ (lowN hσ x2))
          rw [h2] at this; cases this
          obtain ⟨o0, q1, q2⟩ := (ownc hσ x2 g2).2 lv
          exact I.inj b1 b2 i1 i2 o1 o0 hne h1 hσ g1 q1 ow q2
        | none =>
          rcases newc x2 hσ h2 with h | ⟨b0, i0, o0, q1, q2, q3, q4, q5⟩
          · have := I.lt b1 i1 h1
            omega
          · rw [← q4]
            exact I.inj b1 b0 i1 i0 o1 o0 (by omega) h1 q1 g1 q2 ow (AO.live_of_own q3)
      · rw [σ2hi x2] at h2
        rw [G2hi b2 i2 x2 h2] at g2
        exact I.inj b1 b2 i1 i2 o1 o2 hne h1 h2 g1 g2 ow lv
  · intro b i hb
    by_cases h : b < C.Nn (j + 1)
    · rw [σ2lo h] at hb; exact e3.lt b i hb
    · rw [σ2hi h] at hb; exact Nat.lt_of_lt_of_le (I.lt b i hb) e4.size
  · intro gl hg
    obtain ⟨k1, k, k2, k3, k4⟩ := I.glob gl hg
    exact ⟨k1, k, hle gl k k2, k3, k4⟩
  · refine I.ext.trans ⟨hle, ?_, ?_, ?_, ?_, e4.size, e4.os, e4.tape, e4.output⟩
    · intro b i h1 h2
      by_cases h : b < C.Nn (j + 1)
      · rw [σ2lo h] at h2
        rcases newc h h1 h2 with h | ⟨b0, i0, o0, q1, q2, q3, q4, q5⟩
        · exact .inl h
        · exact .inr ⟨b0, i0, o0, q1, q2, q3, q4⟩
      · rw [σ2hi h, h1] at h2; cases h2
    · intro b i o' h1 h2 h3
      by_cases h : b < C.Nn (j + 1)
      · rw [G2lo b h] at h2; exact (ownc h1 h h2).1 h3
      · rw [G2hi b i h h1] at h2; exact ⟨o', h2, h3⟩
    · intro b i o' h1 h2 h3
      by_cases h : b < C.Nn (j + 1)
      · rw [G2lo b h] at h2; exact (ownc h1 h h2).2 h3
      · rw [G2hi b i h h1] at h2; exact ⟨o', h2, h3⟩
    · intro k hk hno
      refine e4.keep k hk ?_
      intro b i o1 h1 h2 h3
      obtain ⟨x1, x2⟩ := cut_inv h1
      exact hno b i o1 x2 (by rw [hGlow b x1]; exact h2) h3
  · intro b hb
    have hb0 : b < C.Nn j := Nat.lt_of_lt_of_le hb (C.mono (Nat.zero_le _) (by omega))
    rw [σ2lo (by omega), ← I.old b hb]
    cases hσ : σ b with
    | some i => exact e4.sub b i (cut_of hσ hb0)
    | none =>
      cases hσ' : σ' b with
      | none => rfl
      | some i =>
        have : cut σ (C.Nn j) b = none := by unfold cut; rw [if_pos hb0]; exact hσ
        have := (e4.new b i this hσ').1.1
        simp only [Ctx.Nn] at hb0
        omega

/-- An operation that is ready. -/
theorem INV.step {S : Nat → Bool} {a : Act} {w : World} {σ : Sg} {p j : Nat} (I : INV C σ0 w0 S a w σ p) (hr : Ready ops S j) (hj : j < ops.size) {Q : Exit → Act → World → Prop} {next : Act → World → Prop}
    (hn : ∀ a' w' σ' p', INV C σ0 w0 (addS S j) a' w' σ' p' → next a' w') : wpOp P ops Q j next a w := by
  obtain ⟨o, ao, ho, ha, e3, row, hcl⟩ := C.row hj
  obtain ⟨tl, tl', g, hall, hg, hd, hao⟩ := row.ex
  unfold wpOp
  rw [ho]
  simp only
  rw [I.guard hr ho g hg]
  split
  · rename_i hwt
    left
    have hw : C.W j := ⟨ao, ha, hwt⟩
    have h4 : clsO P ops j ≤ 3 := by
      unfold clsO
      rw [ho]
      simp only [Option.map_some, Option.getD_some]
      generalize compOp P o = q
      cases q <;> simp [clsA]
    by_cases h1 : clsO P ops j = 0 ∨ clsO P ops j = 1
    · exact I.step1 hr ho ha hw h1 hcl g hall hd hao (fun a' w' h => hn a' w' σ p h)
    · by_cases h2 : clsO P ops j = 2
      · exact I.step2 hr ho ha hw h2 hcl g hall hd hao (fun a' w' σ' h => hn a' w' σ' p h)
      · exact I.step3 hr ho ha hw (by omega) hcl g hall hd hao hn
  · rename_i hwt
    refine hn _ _ σ p (I.step0 hr ho ha ?_ hd)
    rintro ⟨ao2, h1, h2⟩
    rw [ha] at h1; cases h1
    exact hwt h2

theorem INV.init (C : Ctx P ng N sl ops uns fr0 H0 K) {a : Act} {w : World} (he : ER σ0 N sl [] fr0 [] a) (hR : HR ng σ0 H0.get w) : ∃ p, INV C σ0 w (fun _ => false) a w σ0 p := by
  obtain ⟨p, n1, n2, n3, n4⟩ := C.nextE 0 (Nat.zero_le _)
  have hH : C.T.H 0 = H0 := C.T.hH
  have hN : C.Nn 0 = H0.n := by unfold Ctx.Nn; rw [hH]
  have hb : ∀ b i, σ0 b = some i → b < C.Nn 0 := by
    intro b i h
    rw [hN]
    rcases Nat.lt_or_ge b H0.n with h1 | h1
    · exact h1
    · rw [hR.none_of_ge h1] at h; cases h
  have hcut : ∀ {m}, m ≤ ops.size → σ0.le (cut σ0 (C.Nn m)) := fun {m} hm b i h => cut_of h (Nat.lt_of_lt_of_le (hb b i h) (C.mono (Nat.zero_le _) hm))
  have hf : ∀ b i, σ0 b = some i → C.fst b = 0 := fun b i h => by
    have := (C.fst_spec (Nat.zero_le _) (hb b i h)).1
    omega
  have hG : ∀ b i, σ0 b = some i → C.GS p b = H0.get b := fun b i h => by
    unfold Ctx.GS
    rw [hf b i h, show max p 0 = p by omega]
    exact (C.stab (hb b i h) n1 n2 (fun e h1 h2 h3 => absurd h3 (n3 e h1 h2))).trans (congrArg (fun X : AHeap => X.get b) hH)
  refine ⟨p, ⟨fun j o _ h => absurd h (by simp), n2, fun e h1 h2 => absurd h2 (n3 e (Nat.zero_le _) h1), fun _ _ _ => rfl, n4, he.size, he.dfr, ?_, ?_, ?_, hR.lt, ?_, ?_, fun _ _ => rfl⟩⟩
  · intro t u hu
    have h1 : C.ES (fun _ => false) t = E0 sl fr0 t := by unfold Ctx.ES; cases wr ops t <;> simp
    have h2 : bd ops p (fun _ => false) t = p := by unfold bd; cases wr ops t <;> simp
    rw [h1] at hu
    rw [h2]
    unfold E0 at hu
    simp only [Option.bind_eq_some_iff] at hu
    obtain ⟨i, hi, hu⟩ := hu
    obtain ⟨u', k1, k2⟩ := he.frv i t u (posOf_get hi) hu
    exact ⟨u', k1, k2.mono (hcut n2)⟩
  · intro b i h
    obtain ⟨o, k1, k2⟩ := hR.obj b i h
    refine ⟨Nat.lt_of_lt_of_le (hb b i h) (C.mono (Nat.zero_le _) (Nat.le_refl _)), .inl (hf b i h), o, by rw [hG b i h]; exact k1, k2.mono (hcut ?_)⟩
    rw [hf b i h]; omega
  · intro b1 b2 i1 i2 o1 o2 hne h1 h2 g1 g2
    rw [hG b1 i1 h1] at g1
    rw [hG b2 i2 h2] at g2
    exact hR.inj b1 b2 i1 i2 o1 o2 hne h1 h2 g1 g2
  · intro gl hg
    obtain ⟨i, k1, k2, k3⟩ := hR.glob gl hg
    exact ⟨hb gl i k1, i, k1, k2, k3⟩
  · refine ⟨Sg.le.refl σ0, fun b i h h' => (by rw [h] at h'; cases h'), ?_, ?_, fun _ _ _ => rfl, Nat.le_refl _, rfl, rfl, rfl⟩
    · intro b i o' h g o; rw [hG b i h] at g; exact ⟨o', g, o⟩
    · intro b i o' h g o; rw [hG b i h] at g; exact ⟨o', g, o⟩

theorem INV.final {S : Nat → Bool} {a : Act} {w w1 : World} {σ : Sg} {p : Nat} (I : INV C σ0 w1 S a w σ p) (hS : ∀ i, i < ops.size → S i = true) :
    ER σ N sl [] (C.T.F ops.size) [] a ∧ HR ng σ (C.T.H ops.size).get w ∧ Ext H0.n σ0 H0.get w1 (C.T.H ops.size).n σ (C.T.H ops.size).get w := by
  have hp : p = ops.size := by
    have := I.pn
    rcases Nat.lt_or_ge p ops.size with h | h
    · have h1 := I.hi p (Nat.le_refl _) (I.at_ h)
      rw [hS p h] at h1; cases h1
    · omega
  subst hp
  have hH : C.T.H 0 = H0 := C.T.hH
  have hN : C.Nn 0 = H0.n := by unfold Ctx.Nn; rw [hH]
  have hf : ∀ b i, σ b = some i → b < C.Nn ops.size ∧ C.fst b ≤ ops.size ∧ C.GS ops.size b = (C.T.H ops.size).get b := fun b i h => by
    have h1 := (I.obj b i h).1
    have h2 := (C.fst_spec (Nat.le_refl _) h1).1
    refine ⟨h1, h2, ?_⟩
    unfold Ctx.GS
    rw [show max ops.size (C.fst b) = ops.size by omega]
  obtain ⟨tl, g⟩ := C.endG
  refine ⟨⟨I.size, g.frl, rfl, ?_, fun i s v h => by simp at h, I.dfr⟩, ⟨?_, ?_, I.lt, ?_⟩, ?_⟩
  · intro i s v h1 h2
    have h3 := g.fr i s h1
    rw [h2] at h3
    have h4 : C.ES S s = some v := by
      rw [h3]
      unfold Ctx.ES Ev
      cases hw : wr ops s with
      | none => rfl
      | some k =>
        have hk : k < ops.size := by
          have := List.mem_of_find?_eq_some hw
          simpa using this
        simp [hS k hk, hk]
    obtain ⟨u', k1, k2⟩ := I.env s v h4
    exact ⟨u', k1, k2.mono (cut_le _ _)⟩
  · intro b i h
    obtain ⟨h1, h2, h3⟩ := hf b i h
    obtain ⟨k1, k2, o, k3, k4⟩ := I.obj b i h
    exact ⟨o, by rw [← h3]; exact k3, k4.mono (cut_le _ _)⟩
  · intro b1 b2 i1 i2 o1 o2 hne h1 h2 g1 g2
    rw [← (hf b1 i1 h1).2.2] at g1
    rw [← (hf b2 i2 h2).2.2] at g2
    exact I.inj b1 b2 i1 i2 o1 o2 hne h1 h2 g1 g2
  · intro gl hg
    obtain ⟨k1, i, k2, k3, k4⟩ := I.glob gl hg
    exact ⟨i, k2, k3, k4⟩
  · have e := I.ext
    refine ⟨e.sub, ?_, ?_, ?_, e.keep, e.size, ?_, e.os, e.tape, e.output⟩
    · intro b i h1 h2
      refine ⟨⟨?_, (hf b i h2).1⟩, e.new b i h1 h2⟩
      rcases Nat.lt_or_ge b H0.n with h | h
      · rw [I.old b (by omega), h1] at h2; cases h2
      · exact h
    · intro b i o' h1 h2 h3
      rw [← (hf b i (e.sub b i h1)).2.2] at h2
      exact e.own b i o' h1 h2 h3
    · intro b i o' h1 h2 h3
      rw [← (hf b i (e.sub b i h1)).2.2] at h2
      exact e.live b i o' h1 h2 h3
    · have := C.mono (Nat.zero_le ops.size) (Nat.le_refl _)
      rw [hN] at this; exact this

end
end Go.AM
