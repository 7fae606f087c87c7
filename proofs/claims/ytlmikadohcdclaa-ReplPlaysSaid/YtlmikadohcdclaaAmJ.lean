/- The abstract machine, part J: the abstract code, its weakest precondition, and that the model's code meets it. -/
import Derived.Test.YtlmikadohcdclaaAmR
set_option linter.unusedSimpArgs false
set_option linter.unusedVariables false
namespace Go.AM

inductive ACode
  | skip
  | reg (ops : List AOper)
  | dreg (ops : List (AOper × List Nat))
  | seq (a b : ACode)
  | cond (c : AX) (t e : ACode)
  | block (id : Nat) (c : ACode)
  | loop (c : ACode)
  | exit (id : Nat)
  | ret

abbrev AQ := Exit → List Value → AHeap → Prop

def AQ.andThen (Q : AQ) (K : List Value → AHeap → Prop) : AQ
  | .normal, fr, H => K fr H
  | e, fr, H => Q e fr H
def AQ.inBlock (Q : AQ) (id : Nat) : AQ
  | .exit id', fr, H => if id' = id then Q .normal fr H else Q (.exit id') fr H
  | e, fr, H => Q e fr H

def W (P : Program) (ng : Nat) : ACode → AQ → List Value → AHeap → Prop
  | .skip, Q, fr, H => Q .normal fr H
  | .reg ops, Q, fr, H => RW P ng ops fr [] H (Q .normal)
  | .dreg ops, Q, fr, H => RD P ng ops fr [] H [] (Q .normal)
  | .seq a b, Q, fr, H => W P ng a (Q.andThen (W P ng b Q)) fr H
  | .cond c t e, Q, fr, H => match c.ev fr [] with
    | .bool b => if b then W P ng t Q fr H else W P ng e Q fr H
    | _ => False
  | .block id c, Q, fr, H => W P ng c (Q.inBlock id) fr H
  | .loop c, Q, fr, H => ∃ (I : Nat → List Value → AHeap → Prop) (n : Nat), I n fr H ∧ ∀ k fr H, I k fr H → W P ng c (Q.andThen fun fr H => ∃ k', k' < k ∧ I k' fr H) fr H
  | .exit id, Q, fr, H => Q (.exit id) fr H
  | .ret, Q, fr, H => Q .ret fr H

def compC (P : Program) (ng N : Nat) (sl : List Nat) : Code → Option ACode
  | .skip => some .skip
  | .region _ ops false => (compR P ng N sl ops ops.toList []).map .reg
  | .region _ ops true => if drawOK P ops (drawUns P ops) then (compR P ng N sl ops ops.toList []).map fun l => .dreg (l.zip (drawUns P ops)) else none
  | .seq a b => match compC P ng N sl a, compC P ng N sl b with
    | some x, some y => some (.seq x y)
    | _, _ => none
  | .cond c t e => match compX ng sl [] c, compC P ng N sl t, compC P ng N sl e with
    | some x, some y, some z => some (.cond x y z)
    | _, _, _ => none
  | .block id c => (compC P ng N sl c).map (.block id)
  | .loop c => (compC P ng N sl c).map .loop
  | .exit id => some (.exit id)
  | .ret => some .ret
  | _ => none

/-- The abstract postcondition, of the model's states. -/
def LQ (ng N : Nat) (sl : List Nat) (σ0 : Sg) (H0 : AHeap) (w0 : World) (Q : AQ) : Exit → Act → World → Prop := fun e a w =>
  match e with
  | .normal | .exit _ | .ret => ∃ fr H σ, ER σ N sl [] fr [] a ∧ HR ng σ H.get w ∧ Ext H0.n σ0 H0.get w0 H.n σ H.get w ∧ Q e fr H
  | _ => False

theorem RW_sound {P : Program} {ng N : Nat} {sl : List Nat} (hnd : sl.Nodup) {ops : Array Oper} {σ0 : Sg} {H0 : AHeap} {w0 : World} {Q : AQ} : ∀ (l : List Oper) (tl : List Nat) (al : List AOper) (fr tm : List Value) (H : AHeap) (σ : Sg) (a : Act) (w : World),
    compR P ng N sl ops l tl = some al → (∀ t ∈ tl, t ∉ sl) → ER σ N sl tl fr tm a → HR ng σ H.get w → Ext H0.n σ0 H0.get w0 H.n σ H.get w → RW P ng al fr tm H (Q .normal) → wpList P ops (LQ ng N sl σ0 H0 w0 Q) l a w
  | [], tl, al, fr, tm, H, σ, a, w, hc, _, he, hr, hx, hw => by
    simp only [compR, Option.some.injEq] at hc
    subst hc
    exact ⟨fr, H, σ, he.forget, hr, hx, hw⟩
  | o :: l, tl, al, fr, tm, H, σ, a, w, hc, hdis, he, hr, hx, hw => by
    simp only [compR] at hc
    split at hc
    · rename_i hall
      split at hc
      · rename_i g d tl' hg hd
        simp only [Option.map_eq_some_iff] at hc
        obtain ⟨al', hal, rfl⟩ := hc
        have hev : ∀ x ∈ o.op.operands, VR σ (((compX ng sl tl x).getD (.c undef)).ev fr tm) (a.eval x) := by
          intro x hx
          have := List.all_eq_true.1 hall x (by simpa using hx)
          obtain ⟨ax, hax⟩ := Option.isSome_iff_exists.1 this
          rw [hax]
          exact compX_sound he hr hax
        have hwant := compG_sound he hr (ops := ops) (o := o) hg
        simp only [RW] at hw
        unfold wpList
        rw [hwant]
        split
        · rename_i hwt
          rw [if_pos hwt] at hw
          left
          rw [map_map_op] at hw
          refine oper_wp hr (ev := (AX.ev fr tm) ∘ fun x => (compX ng sl tl x).getD (.c undef)) hev hw ?_
          intro v H' v' σ' w' hK h1 h2 h3
          obtain ⟨k1, k2⟩ := (he.mono h2.sub).put hnd hdis hd h3
          exact RW_sound hnd l tl' al' _ _ H' σ' _ w' hal k2 k1 h1 (hx.trans h2) hK
        · rename_i hwt
          rw [if_neg hwt] at hw
          obtain ⟨k1, k2⟩ := he.put hnd hdis hd (v := undef) (v' := undef) (.tuple _ _ rfl (fun i a => by simp at a))
          exact RW_sound hnd l tl' al' _ _ H σ _ w hal k2 k1 hr hx hw
      · cases hc
    · cases hc

theorem W_sound {P : Program} {ng N : Nat} {sl : List Nat} (hnd : sl.Nodup) : ∀ (c : Code) (ac : ACode), compC P ng N sl c = some ac → ∀ (Q : AQ) (fr : List Value) (H : AHeap), W P ng ac Q fr H →
    ∀ (σ0 : Sg) (H0 : AHeap) (w0 : World) (σ : Sg) (a : Act) (w : World), ER σ N sl [] fr [] a → HR ng σ H.get w → Ext H0.n σ0 H0.get w0 H.n σ H.get w → c.wp P (LQ ng N sl σ0 H0 w0 Q) a w := by
  intro c
  induction c with
  | skip =>
    intro ac hc Q fr H hw σ0 H0 w0 σ a w he hr hx
    simp only [compC, Option.some.injEq] at hc; subst hc
    exact wp_skip ⟨fr, H, σ, he, hr, hx, hw⟩
  | region id ops draw =>
    intro ac hc Q fr H hw σ0 H0 w0 σ a w he hr hx
    cases draw
    · simp only [compC, Option.map_eq_some_iff] at hc
      obtain ⟨al, hal, rfl⟩ := hc
      exact wp_region_list (RW_sound hnd ops.toList [] al fr [] H σ a w hal (by simp) he hr hx hw)
    · simp only [compC] at hc
      split at hc
      · rename_i hok
        simp only [Option.map_eq_some_iff] at hc
        obtain ⟨al, hal, rfl⟩ := hc
        refine wp_region_any (drawOK_spec hok).mix ?_
        refine RD_sound (σ0 := σ) (H0 := H) (fr0 := fr) hnd hal hok he (hr.world (w' := { w with drawn := w.drawn + 1 }) rfl) hw ?_
        intro a' w' σ' fr' H' k1 k2 k3 k4
        exact ⟨fr', H', σ', k1, k2, (hx.world (w2 := { w with drawn := w.drawn + 1 }) rfl rfl rfl rfl).trans k3, k4⟩
      · cases hc
  | seq x y ihx ihy =>
    intro ac hc Q fr H hw σ0 H0 w0 σ a w he hr hx
    simp only [compC] at hc
    split at hc
    · rename_i ax ay h1 h2
      simp only [Option.some.injEq] at hc; subst hc
      refine wp_seq (wp_mono (ihx ax h1 _ fr H hw σ0 H0 w0 σ a w he hr hx) ?_)
      intro e a' w' hq
      cases e with
      | normal =>
        obtain ⟨fr', H', σ', k1, k2, k3, k4⟩ := hq
        exact ihy ay h2 Q fr' H' k4 σ0 H0 w0 σ' a' w' k1 k2 k3
      | exit id => exact hq
      | ret => exact hq
      | goto l => exact hq
      | panic ch => exact hq
      | outgrown => exact hq
    · cases hc
  | cond c t e iht ihe =>
    intro ac hc Q fr H hw σ0 H0 w0 σ a w he hr hx
    simp only [compC] at hc
    split at hc
    · rename_i x y z h1 h2 h3
      simp only [Option.some.injEq] at hc; subst hc
      have hv := compX_sound he hr h1
      simp only [W] at hw
      split at hw
      · rename_i b hb
        rw [hb] at hv
        refine wp_cond (t := b) hv.bool_inv ?_
        cases b
        · exact ihe z h3 Q fr H (by simpa using hw) σ0 H0 w0 σ a w he hr hx
        · exact iht y h2 Q fr H (by simpa using hw) σ0 H0 w0 σ a w he hr hx
      · exact hw.elim
    · cases hc
  | block id c ih =>
    intro ac hc Q fr H hw σ0 H0 w0 σ a w he hr hx
    simp only [compC, Option.map_eq_some_iff] at hc
    obtain ⟨x, h1, rfl⟩ := hc
    refine wp_block (wp_mono (ih x h1 _ fr H hw σ0 H0 w0 σ a w he hr hx) ?_)
    intro e a' w' hq
    cases e with
    | exit id' =>
      obtain ⟨fr', H', σ', k1, k2, k3, k4⟩ := hq
      simp only [AQ.inBlock] at k4
      simp only [Exit.inBlock]
      split
      · rename_i hid; rw [if_pos hid] at k4; exact ⟨fr', H', σ', k1, k2, k3, k4⟩
      · rename_i hid; rw [if_neg hid] at k4; exact ⟨fr', H', σ', k1, k2, k3, k4⟩
    | normal => exact hq
    | ret => exact hq
    | goto l => exact hq
    | panic ch => exact hq
    | outgrown => exact hq
  | loop c ih =>
    intro ac hc Q fr H hw σ0 H0 w0 σ a w he hr hx
    simp only [compC, Option.map_eq_some_iff] at hc
    obtain ⟨x, h1, rfl⟩ := hc
    simp only [W] at hw
    obtain ⟨I, n, h0, hstep⟩ := hw
    refine wp_loop_ghost (fun k a w => ∃ fr H σ, ER σ N sl [] fr [] a ∧ HR ng σ H.get w ∧ Ext H0.n σ0 H0.get w0 H.n σ H.get w ∧ I k fr H) n ⟨fr, H, σ, he, hr, hx, h0⟩ ?_
    rintro k a' w' ⟨fr', H', σ', k1, k2, k3, k4⟩
    refine wp_mono (ih x h1 _ fr' H' (hstep k fr' H' k4) σ0 H0 w0 σ' a' w' k1 k2 k3) ?_
    intro e a2 w2 hq
    cases e with
    | normal =>
      obtain ⟨fr2, H2, σ2, m1, m2, m3, k', m4, m5⟩ := hq
      exact ⟨k', m4, fr2, H2, σ2, m1, m2, m3, m5⟩
    | exit id => exact hq
    | ret => exact hq
    | goto l => exact hq
    | panic ch => exact hq
    | outgrown => exact hq
  | exit id =>
    intro ac hc Q fr H hw σ0 H0 w0 σ a w he hr hx
    simp only [compC, Option.some.injEq] at hc; subst hc
    exact wp_exit ⟨fr, H, σ, he, hr, hx, hw⟩
  | ret =>
    intro ac hc Q fr H hw σ0 H0 w0 σ a w he hr hx
    simp only [compC, Option.some.injEq] at hc; subst hc
    exact wp_ret ⟨fr, H, σ, he, hr, hx, hw⟩
  | rangeFunc f ps a b => intro ac hc; simp [compC] at hc
  | scope c ih => intro ac hc; simp [compC] at hc
  | label l => intro ac hc; simp [compC] at hc
  | goto l => intro ac hc; simp [compC] at hc
  | refuse w => intro ac hc; simp [compC] at hc

theorem RW_grow {P : Program} {ng n : Nat} : ∀ {l : List AOper} {fr tm : List Value} {H : AHeap} {K K' : List Value → AHeap → Prop}, n ≤ H.n → (∀ fr H, K fr H → n ≤ H.n → K' fr H) → RW P ng l fr tm H K → RW P ng l fr tm H K'
  | [], fr, tm, H, K, K', hn, hk, h => hk _ _ h hn
  | o :: l, fr, tm, H, K, K', hn, hk, h => by
    simp only [RW] at h ⊢
    split at h
    · rename_i hw
      rw [if_pos hw]
      exact stepA_mono (fun v H' hh => RW_grow (Nat.le_trans hn hh.2) hk hh.1) (stepA_grow h)
    · rename_i hw
      rw [if_neg hw]
      exact RW_grow hn hk h

theorem RD_grow {P : Program} {ng n : Nat} : ∀ {l : List (AOper × List Nat)} {fr tm : List Value} {H : AHeap} {tr : List TE} {K K' : List Value → AHeap → Prop}, n ≤ H.n → (∀ fr H, K fr H → n ≤ H.n → K' fr H) → RD P ng l fr tm H tr K → RD P ng l fr tm H tr K'
  | [], fr, tm, H, tr, K, K', hn, hk, h => hk _ _ h hn
  | (o, un) :: l, fr, tm, H, tr, K, K', hn, hk, h => by
    simp only [RD] at h ⊢
    split at h
    · rename_i hw
      rw [if_pos hw]
      exact stepA_mono (fun v H' hh => ⟨hh.1.1, RD_grow (Nat.le_trans hn hh.2) hk hh.1.2⟩) (stepA_grow h)
    · rename_i hw
      rw [if_neg hw]
      exact RD_grow hn hk h

theorem RD_out {P : Program} {ng : Nat} : ∀ {l : List (AOper × List Nat)} {fr tm : List Value} {H : AHeap} {tr : List TE} {K : List Value → AHeap → Prop}, RD P ng l fr tm H tr K → ∃ fr' H', K fr' H' ∧ RD P ng l fr tm H tr fun fr2 H2 => fr2 = fr' ∧ H2 = H'
  | [], fr, tm, H, tr, K, h => ⟨fr, H, h, rfl, rfl⟩
  | (o, un) :: l, fr, tm, H, tr, K, h => by
    simp only [RD] at h
    split at h
    · rename_i hw
      obtain ⟨v, H', ⟨h0, h1⟩, h2⟩ := stepA_out' h
      obtain ⟨fr', H2, h3, h4⟩ := RD_out h1
      refine ⟨fr', H2, h3, ?_⟩
      simp only [RD]
      rw [if_pos hw]
      refine stepA_mono ?_ h2
      rintro v2 H3 ⟨rfl, rfl⟩
      exact ⟨h0, h4⟩
    · rename_i hw
      obtain ⟨fr', H2, h3, h4⟩ := RD_out h
      refine ⟨fr', H2, h3, ?_⟩
      simp only [RD]
      rw [if_neg hw]
      exact h4

theorem W_grow {P : Program} {ng n : Nat} : ∀ (ac : ACode) {Q Q' : AQ} {fr : List Value} {H : AHeap}, n ≤ H.n → (∀ e fr H, Q e fr H → n ≤ H.n → Q' e fr H) → W P ng ac Q fr H → W P ng ac Q' fr H := by
  intro ac
  induction ac with
  | skip => intro Q Q' fr H hn hq h; exact hq _ _ _ h hn
  | reg ops => intro Q Q' fr H hn hq h; exact RW_grow hn (hq .normal) h
  | dreg ops => intro Q Q' fr H hn hq h; exact RD_grow hn (hq .normal) h
  | seq a b iha ihb =>
    intro Q Q' fr H hn hq h
    refine iha hn ?_ h
    intro e fr H hh hn'
    cases e with
    | normal => exact ihb hn' hq hh
    | exit id => exact hq _ _ _ hh hn'
    | ret => exact hq _ _ _ hh hn'
    | goto l => exact hq _ _ _ hh hn'
    | panic ch => exact hq _ _ _ hh hn'
    | outgrown => exact hq _ _ _ hh hn'
  | cond c t e iht ihe =>
    intro Q Q' fr H hn hq h
    simp only [W] at h ⊢
    split at h
    · rename_i b hb
      cases b
      · simpa using ihe hn hq (by simpa using h)
      · simpa using iht hn hq (by simpa using h)
    · exact h.elim
  | block id c ih =>
    intro Q Q' fr H hn hq h
    refine ih hn ?_ h
    intro e fr H hh hn'
    cases e with
    | exit id' =>
      simp only [AQ.inBlock] at hh ⊢
      split
      · rename_i hid; rw [if_pos hid] at hh; exact hq _ _ _ hh hn'
      · rename_i hid; rw [if_neg hid] at hh; exact hq _ _ _ hh hn'
    | normal => exact hq _ _ _ hh hn'
    | ret => exact hq _ _ _ hh hn'
    | goto l => exact hq _ _ _ hh hn'
    | panic ch => exact hq _ _ _ hh hn'
    | outgrown => exact hq _ _ _ hh hn'
  | loop c ih =>
    intro Q Q' fr H hn hq h
    simp only [W] at h ⊢
    obtain ⟨I, k0, h0, hs⟩ := h
    refine ⟨fun k fr H => I k fr H ∧ n ≤ H.n, k0, ⟨h0, hn⟩, ?_⟩
    rintro k fr H ⟨hI, hn'⟩
    refine ih hn' ?_ (hs k fr H hI)
    intro e fr H hh hn2
    cases e with
    | normal => obtain ⟨k', a, b⟩ := hh; exact ⟨k', a, b, hn2⟩
    | exit id => exact hq _ _ _ hh hn2
    | ret => exact hq _ _ _ hh hn2
    | goto l => exact hq _ _ _ hh hn2
    | panic ch => exact hq _ _ _ hh hn2
    | outgrown => exact hq _ _ _ hh hn2
  | exit id => intro Q Q' fr H hn hq h; exact hq _ _ _ h hn
  | ret => intro Q Q' fr H hn hq h; exact hq _ _ _ h hn

theorem W_mono {P : Program} {ng : Nat} {ac : ACode} {Q Q' : AQ} {fr : List Value} {H : AHeap} (hq : ∀ e fr H, Q e fr H → Q' e fr H) (h : W P ng ac Q fr H) : W P ng ac Q' fr H :=
  W_grow (n := 0) ac (Nat.zero_le _) (fun e fr H hh _ => hq e fr H hh) h

def exactly (e : Exit) (fr : List Value) (H : AHeap) : AQ := fun e2 fr2 H2 => e2 = e ∧ fr2 = fr ∧ H2 = H

theorem RW_out {P : Program} {ng : Nat} : ∀ {l : List AOper} {fr tm : List Value} {H : AHeap} {K : List Value → AHeap → Prop}, RW P ng l fr tm H K → ∃ fr' H', K fr' H' ∧ RW P ng l fr tm H fun fr2 H2 => fr2 = fr' ∧ H2 = H'
  | [], fr, tm, H, K, h => ⟨fr, H, h, rfl, rfl⟩
  | o :: l, fr, tm, H, K, h => by
    simp only [RW] at h
    split at h
    · rename_i hw
      obtain ⟨v, H', h1, h2⟩ := stepA_out' h
      obtain ⟨fr', H2, h3, h4⟩ := RW_out h1
      refine ⟨fr', H2, h3, ?_⟩
      simp only [RW]
      rw [if_pos hw]
      refine stepA_mono ?_ h2
      rintro v2 H3 ⟨rfl, rfl⟩
      exact h4
    · rename_i hw
      obtain ⟨fr', H2, h3, h4⟩ := RW_out h
      refine ⟨fr', H2, h3, ?_⟩
      simp only [RW]
      rw [if_neg hw]
      exact h4

theorem W_out {P : Program} {ng : Nat} : ∀ (ac : ACode) {Q : AQ} {fr : List Value} {H : AHeap}, W P ng ac Q fr H → ∃ e fr' H', Q e fr' H' ∧ W P ng ac (exactly e fr' H') fr H := by
  intro ac
  induction ac with
  | skip => intro Q fr H h; exact ⟨.normal, fr, H, h, rfl, rfl, rfl⟩
  | reg ops =>
    intro Q fr H h
    obtain ⟨fr', H', h1, h2⟩ := RW_out h
    exact ⟨.normal, fr', H', h1, RW_grow (n := 0) (Nat.zero_le _) (fun fr H hh _ => ⟨rfl, hh.1, hh.2⟩) h2⟩
  | dreg ops =>
    intro Q fr H h
    obtain ⟨fr', H', h1, h2⟩ := RD_out h
    exact ⟨.normal, fr', H', h1, RD_grow (n := 0) (Nat.zero_le _) (fun fr H hh _ => ⟨rfl, hh.1, hh.2⟩) h2⟩
  | seq a b iha ihb =>
    intro Q fr H h
    obtain ⟨e, fr1, H1, h1, h2⟩ := iha h
    by_cases he : e = .normal
    · subst he
      obtain ⟨e2, fr2, H2, h3, h4⟩ := ihb h1
      refine ⟨e2, fr2, H2, h3, ?_⟩
      show W P ng a ((exactly e2 fr2 H2).andThen (W P ng b (exactly e2 fr2 H2))) fr H
      refine W_mono ?_ h2
      rintro e' fr' H' ⟨rfl, rfl, rfl⟩
      exact h4
    · refine ⟨e, fr1, H1, by cases e <;> first | exact absurd rfl he | exact h1, ?_⟩
      show W P ng a ((exactly e fr1 H1).andThen (W P ng b (exactly e fr1 H1))) fr H
      refine W_mono ?_ h2
      rintro e' fr' H' ⟨rfl, rfl, rfl⟩
      cases e' <;> first | exact absurd rfl he | exact ⟨rfl, rfl, rfl⟩
  | cond c t e iht ihe =>
    intro Q fr H h
    simp only [W] at h
    split at h
    · rename_i b hb
      cases b
      · obtain ⟨e', fr', H', h1, h2⟩ := ihe (by simpa using h)
        exact ⟨e', fr', H', h1, by simp only [W, hb]; simpa using h2⟩
      · obtain ⟨e', fr', H', h1, h2⟩ := iht (by simpa using h)
        exact ⟨e', fr', H', h1, by simp only [W, hb]; simpa using h2⟩
    · exact h.elim
  | block id c ih =>
    intro Q fr H h
    obtain ⟨e, fr1, H1, h1, h2⟩ := ih h
    by_cases he : e = .exit id
    · subst he
      simp only [AQ.inBlock, if_true] at h1
      refine ⟨.normal, fr1, H1, h1, ?_⟩
      show W P ng c ((exactly .normal fr1 H1).inBlock id) fr H
      refine W_mono ?_ h2
      rintro e' fr' H' ⟨rfl, rfl, rfl⟩
      simp only [AQ.inBlock, if_true]
      exact ⟨rfl, rfl, rfl⟩
    · have hne : ∀ id', e = .exit id' → ¬ id' = id := fun id' h1 h2 => he (by rw [h1, h2])
      refine ⟨e, fr1, H1, ?_, ?_⟩
      · cases e with
        | exit id' => simp only [AQ.inBlock] at h1; rw [if_neg (hne id' rfl)] at h1; exact h1
        | normal => exact h1
        | ret => exact h1
        | goto l => exact h1
        | panic ch => exact h1
        | outgrown => exact h1
      · show W P ng c ((exactly e fr1 H1).inBlock id) fr H
        refine W_mono ?_ h2
        rintro e' fr' H' ⟨rfl, rfl, rfl⟩
        cases e' with
        | exit id' => simp only [AQ.inBlock]; rw [if_neg (hne id' rfl)]; exact ⟨rfl, rfl, rfl⟩
        | normal => exact ⟨rfl, rfl, rfl⟩
        | ret => exact ⟨rfl, rfl, rfl⟩
        | goto l => exact ⟨rfl, rfl, rfl⟩
        | panic ch => exact ⟨rfl, rfl, rfl⟩
        | outgrown => exact ⟨rfl, rfl, rfl⟩
  | loop c ih =>
    intro Q fr H h
    simp only [W] at h
    obtain ⟨I, n, h0, hs⟩ := h
    have key : ∀ n fr H, I n fr H → ∃ e fr' H', Q e fr' H' ∧ W P ng (.loop c) (exactly e fr' H') fr H := by
      intro n
      induction n using Nat.strongRecOn with
      | _ n ihn =>
        intro fr H hI
        obtain ⟨e, fr1, H1, h1, h2⟩ := ih (hs n fr H hI)
        by_cases he : e = .normal
        · subst he
          obtain ⟨k', hk, hI'⟩ := h1
          obtain ⟨e2, fr2, H2, h3, h4⟩ := ihn k' hk fr1 H1 hI'
          refine ⟨e2, fr2, H2, h3, ?_⟩
          simp only [W] at h4 ⊢
          obtain ⟨I1, n1, g0, gs⟩ := h4
          refine ⟨fun k f h => (k = n1 + 1 ∧ f = fr ∧ h = H) ∨ (k ≤ n1 ∧ I1 k f h), n1 + 1, .inl ⟨rfl, rfl, rfl⟩, ?_⟩
          rintro k f h (⟨rfl, rfl, rfl⟩ | ⟨hk1, hI1⟩)
          · refine W_mono ?_ h2
            rintro e' fr' H' ⟨rfl, rfl, rfl⟩
            exact ⟨n1, by omega, .inr ⟨Nat.le_refl _, g0⟩⟩
          · refine W_mono ?_ (gs k f h hI1)
            intro e' fr' H' hh
            cases e' with
            | normal => obtain ⟨k2, a, b⟩ := hh; exact ⟨k2, a, .inr ⟨by omega, b⟩⟩
            | exit id => exact hh
            | ret => exact hh
            | goto l => exact hh
            | panic ch => exact hh
            | outgrown => exact hh
        · refine ⟨e, fr1, H1, by cases e <;> first | exact absurd rfl he | exact h1, ?_⟩
          simp only [W]
          refine ⟨fun k f h => f = fr ∧ h = H, 0, ⟨rfl, rfl⟩, ?_⟩
          rintro k f h ⟨rfl, rfl⟩
          refine W_mono ?_ h2
          rintro e' fr' H' ⟨rfl, rfl, rfl⟩
          cases e' <;> first | exact absurd rfl he | exact ⟨rfl, rfl, rfl⟩
    exact key n fr H h0
  | exit id => intro Q fr H h; exact ⟨_, _, _, h, rfl, rfl, rfl⟩
  | ret => intro Q fr H h; exact ⟨_, _, _, h, rfl, rfl, rfl⟩

/-! ### Functions -/

/-- A result: a slot, or what lies in memory where a slot points. -/
inductive RX
  | t (i : Nat)
  | c1 (i : Nat)
  | cn (n i : Nat)

/-- A function, compiled: its slots that last, its code, where its results lie. -/
structure AFunc where
  sl : List Nat
  body : ACode
  res : List RX

def initFr (sl : List Nat) (args : List Value) : List Value := sl.map fun s => args.getD s undef

def cell1 (v : Value) (H : AHeap) : Option Value := match v with
  | .pointer (some ⟨b, o, none⟩) => cellA H b o
  | _ => none
def celln (n : Nat) (v : Value) (H : AHeap) : Option Value := match v with
  | .pointer (some ⟨b, o, none⟩) => (rangeA H b o n).map fun c => .agg c.toArray
  | _ => none
def RX.get (fr : List Value) (H : AHeap) : RX → Option Value
  | .t i => some (fr.getD i undef)
  | .c1 i => cell1 (fr.getD i undef) H
  | .cn n i => celln n (fr.getD i undef) H
def resVs (fr : List Value) (H : AHeap) : List RX → Option (List Value)
  | [] => some []
  | x :: r => match x.get fr H, resVs fr H r with
    | some v, some l => some (v :: l)
    | _, _ => none
def tupV : List Value → Value
  | [v] => v
  | l => .tuple l.toArray
def resO (res : List RX) (fr : List Value) (H : AHeap) : Option Value := (resVs fr H res).map tupV

def compRes (P : Program) (sl : List Nat) : List ResultVar → Option (List RX)
  | [] => some []
  | .tmp t :: r => match posOf sl t, compRes P sl r with
    | some i, some l => some (.t i :: l)
    | _, _ => none
  | .cell p t :: r => match posOf sl p, isAggT P t, sizeT P t, compRes P sl r with
    | some i, some true, some n, some l => some (.cn n i :: l)
    | some i, some false, _, some l => some (.c1 i :: l)
    | _, _, _, _ => none

def nodupB : List Nat → Bool
  | [] => true
  | x :: l => !l.contains x && nodupB l
theorem nodupB_spec : ∀ {l : List Nat}, nodupB l = true → l.Nodup
  | [], _ => List.nodup_nil
  | x :: l, h => by
    simp only [nodupB, Bool.and_eq_true, Bool.not_eq_true', List.contains_eq_mem, decide_eq_false_iff_not] at h
    exact List.nodup_cons.2 ⟨h.1, nodupB_spec h.2⟩

def compF (P : Program) (ng : Nat) (sl : List Nat) (f : FuncId) : Option AFunc :=
  match P.funcs[f]? with
  | none => none
  | some fn => match fn.body with
    | none => none
    | some c =>
      if nodupB sl && sl.all (· < fn.ntmps) && !(fn.name == "runtime.NumGoroutine") then
        match compC P ng fn.ntmps sl c, compRes P sl fn.results.toList with
        | some b, some r => some { sl := sl, body := b, res := r }
        | _, _ => none
      else none

theorem ER.slot {σ : Sg} {N : Nat} {sl : List Nat} {fr : List Value} {a : Act} (he : ER σ N sl [] fr [] a) {t i : Nat} (hi : posOf sl t = some i) : VR σ (fr.getD i undef) (a.tmps.getD t undef) := by
  have hs := posOf_get hi
  have hlt : i < fr.length := by rw [he.frl]; exact (List.getElem?_eq_some_iff.1 hs).1
  obtain ⟨v', k1, k2⟩ := he.frv i t fr[i] hs (List.getElem?_eq_getElem hlt)
  simp only [Array.getD_eq_getD_getElem?, k1, Option.getD_some]
  simpa [List.getD, List.getElem?_eq_getElem hlt] using k2

theorem run_asAddr {P : Program} (ad : Addr) (w : World) : (asAddr (.pointer (some ad))).run P w = .ok ad w := by simp [asAddr]

theorem compRes_sound {σ : Sg} {N ng : Nat} {sl : List Nat} {fr : List Value} {a : Act} (he : ER σ N sl [] fr [] a) {P : Program} {H : AHeap} {w : World} (hr : HR ng σ H.get w) : ∀ (l : List ResultVar) (r : List RX), compRes P sl l = some r → ∀ us, resVs fr H r = some us →
    ∃ vs : List Value, (l.mapM (fun (rv : ResultVar) => match rv with
      | .tmp t => (pure (a.tmps.getD t undef) : Sem Value)
      | .cell p t => do loadVar t (← asAddr (a.tmps.getD p undef)))).run P w = .ok vs w ∧ VL σ us vs
  | [], r, h, us, hu => by
    simp only [compRes, Option.some.injEq] at h; subst h
    simp only [resVs, Option.some.injEq] at hu; subst hu
    exact ⟨[], by simp, .nil⟩
  | .tmp t :: l, r, h, us, hu => by
    simp only [compRes] at h
    split at h
    · rename_i i l' hi hl
      simp only [Option.some.injEq] at h; subst h
      simp only [resVs, RX.get] at hu
      split at hu
      · rename_i v us' hv hus
        simp only [Option.some.injEq] at hv hu; subst hv; subst hu
        obtain ⟨vs, h1, h2⟩ := compRes_sound he hr l l' hl us' hus
        exact ⟨_ :: vs, by simp only [List.mapM_cons, Sem.run_bind, Sem.run_pure, Result.andThen_ok, h1], .cons (he.slot hi) h2⟩
      · cases hu
    · cases h
  | .cell p t :: l, r, h, us, hu => by
    simp only [compRes] at h
    split at h
    · rename_i i n l' hi hag hn hl
      simp only [Option.some.injEq] at h; subst h
      simp only [resVs, RX.get] at hu
      split at hu
      · rename_i v us' hv hus
        simp only [Option.some.injEq] at hu; subst hu
        obtain ⟨vs, h1, h2⟩ := compRes_sound he hr l l' hl us' hus
        have hs := he.slot hi
        unfold celln at hv
        split at hv
        · rename_i b o hb
          rw [hb] at hs
          simp only [Option.map_eq_some_iff] at hv
          obtain ⟨cs, hc, rfl⟩ := hv
          obtain ⟨pv, hpv⟩ : ∃ pv, a.tmps.getD p undef = pv := ⟨_, rfl⟩
          rw [hpv] at hs
          cases hs with
          | @ptr _ _ j hj =>
            obtain ⟨_, l2, g1, g2, g3⟩ := rangeA_sound hr hj hc
            have hll := run_loadCells_list (P := P) w _ l2 g3
            rw [g2] at hll
            refine ⟨.agg l2.toArray :: vs, ?_, .cons (VR.agg_of g1) h2⟩
            have hld : (loadVar t ⟨j.c, j.off + o, none⟩).run P w = .ok (.agg l2.toArray) w := by simp [loadVar, run_isAgg hag, run_sizeT hn, hll]
            simp only [List.mapM_cons, Sem.run_bind, run_asAddr, Sem.run_pure, Result.andThen_ok, hld, h1, hpv]
        · cases hv
      · cases hu
    · rename_i i _ l' hi hag hl
      simp only [Option.some.injEq] at h; subst h
      simp only [resVs, RX.get] at hu
      split at hu
      · rename_i v us' hv hus
        simp only [Option.some.injEq] at hu; subst hu
        obtain ⟨vs, h1, h2⟩ := compRes_sound he hr l l' hl us' hus
        have hs := he.slot hi
        unfold cell1 at hv
        split at hv
        · rename_i b o hb
          rw [hb] at hs
          obtain ⟨pv, hpv⟩ : ∃ pv, a.tmps.getD p undef = pv := ⟨_, rfl⟩
          rw [hpv] at hs
          cases hs with
          | @ptr _ _ j hj =>
            obtain ⟨v', g1, g2⟩ := cellA_sound hr hj hv
            refine ⟨v' :: vs, ?_, .cons g2 h2⟩
            have hld : (loadVar t ⟨j.c, j.off + o, none⟩).run P w = .ok v' w := by simp [loadVar, run_isAgg hag, g1]
            simp only [List.mapM_cons, Sem.run_bind, run_asAddr, Sem.run_pure, Result.andThen_ok, hld, h1, hpv]
        · cases hv
      · cases hu
    · cases h

/-- What the code of a function shows, its calls have. -/
theorem run_of_W {P : Program} {ng f : Nat} {sl : List Nat} {af : AFunc} (hc : compF P ng sl f = some af) {args : List Value} {H : AHeap} {v : Value} {H' : AHeap} (hnn : H.n ≤ H'.n)
    (hargs : ∀ fn, P.funcs[f]? = some fn → args.length ≤ fn.ntmps)
    (h : W P ng af.body (fun e fr H2 => match e with | .normal | .ret => resO af.res fr H2 = some v ∧ H2 = H' | _ => False) (initFr af.sl args) H) : ARun P ng f args H v H' := by
  unfold compF at hc
  split at hc
  · cases hc
  · rename_i fn hfn
    split at hc
    · cases hc
    · rename_i c hb
      split at hc
      · rename_i hcond
        simp only [Bool.and_eq_true, Bool.not_eq_true'] at hcond
        obtain ⟨⟨h1, h2⟩, h3⟩ := hcond
        split at hc
        · rename_i b r hcb hcr
          simp only [Option.some.injEq] at hc; subst hc
          have hle := hargs fn hfn
          refine ⟨⟨fn, hfn, by simp [hb], h3⟩, hnn, ?_⟩
          intro σ w args' hr hv
          have hl := hv.length
          refine calls_of_wp hfn hb ?_
          have he : ER σ fn.ntmps sl [] (initFr sl args) [] { tmps := args'.toArray ++ Array.replicate (fn.ntmps - args'.toArray.size) undef, defers := [] } := by
            refine ⟨by simp; omega, by simp [initFr], rfl, ?_, fun i s v h => by simp at h, rfl⟩
            intro i s u hs hu
            simp only [initFr, List.getElem?_map, hs, Option.map_some, Option.some.injEq] at hu
            subst hu
            have hsN : s < fn.ntmps := by simpa using List.all_eq_true.1 h2 s (List.mem_of_getElem? hs)
            by_cases hsa : s < args.length
            · obtain ⟨v', k1, k2⟩ := hv.get (i := s) (v := args[s]) (List.getElem?_eq_getElem hsa)
              refine ⟨v', ?_, by simpa [List.getD, List.getElem?_eq_getElem hsa] using k2⟩
              rw [Array.getElem?_append_left (by simp; omega)]
              simpa using k1
            · refine ⟨undef, ?_, ?_⟩
              · rw [Array.getElem?_append_right (by simp; omega)]
                rw [Array.getElem?_replicate, if_pos (by simp; omega)]
              · rw [List.getD, List.getElem?_eq_none (by omega)]
                exact .tuple _ _ rfl (fun i a => by simp at a)
          refine wp_mono (W_sound (nodupB_spec h1) c b hcb _ _ H h σ H w σ _ w he hr (Ext.refl _ _ _ _)) ?_
          intro e a' w' hq
          have fin : ∀ fr H2 σ', ER σ' fn.ntmps sl [] fr [] a' → HR ng σ' H2.get w' → Ext H.n σ H.get w H2.n σ' H2.get w' → resO r fr H2 = some v ∧ H2 = H' →
              a'.defers = [] ∧ ∃ u, (results fn a'.tmps).run P w' = .ok u w' ∧ ∃ v' σ', Ending.returned u = .returned v' ∧ HR ng σ' H'.get w' ∧ Ext H.n σ H.get w H'.n σ' H'.get w' ∧ VR σ' v v' := by
            rintro fr H2 σ' k1 k2 k3 ⟨hres, rfl⟩
            refine ⟨k1.dfr, ?_⟩
            simp only [resO, Option.map_eq_some_iff] at hres
            obtain ⟨us, hus, rfl⟩ := hres
            obtain ⟨vs, m1, m2⟩ := compRes_sound k1 (P := P) (w := w') k2 fn.results.toList r hcr us hus
            have hrun : (results fn a'.tmps).run P w' = .ok (if h : vs.length = 1 then vs[0] else .tuple vs.toArray) w' := by
              unfold results
              rw [Array.mapM_eq_mapM_toList]
              simp only [Sem.run_bind, Sem.run_map]
              refine (congrArg (fun r => Result.andThen (Result.andThen r _) _) m1).trans ?_
              simp only [Result.andThen_ok, Sem.run_pure]
              by_cases h1 : vs.length = 1 <;> simp [h1]
            refine ⟨_, hrun, _, σ', rfl, k2, k3, ?_⟩
            have ml := m2.length
            unfold tupV
            split
            · rename_i u
              match vs, m2 with
              | [u], .cons hu .nil => simpa using hu
            · rename_i hne
              have h1 : ¬ vs.length = 1 := by
                intro h1
                rw [← ml] at h1
                match us, h1 with
                | [i], _ => exact hne i rfl
              rw [dif_neg h1]
              exact VR.tuple_of m2
          cases e with
          | normal => obtain ⟨fr, H2, σ', k1, k2, k3, k4⟩ := hq; exact fin fr H2 σ' k1 k2 k3 k4
          | ret => obtain ⟨fr, H2, σ', k1, k2, k3, k4⟩ := hq; exact fin fr H2 σ' k1 k2 k3 k4
          | exit id => obtain ⟨fr, H2, σ', k1, k2, k3, k4⟩ := hq; exact k4.elim
          | goto l => exact hq.elim
          | panic ch => exact hq.elim
          | outgrown => exact hq.elim
        · cases hc
      · cases hc


/-- What the code of a function shows, its calls have. -/
theorem run_of {P : Program} {ng f : Nat} {sl : List Nat} {af : AFunc} (hc : compF P ng sl f = some af) {args : List Value} {H : AHeap} {R : Value → AHeap → Prop}
    (hargs : ∀ fn, P.funcs[f]? = some fn → args.length ≤ fn.ntmps)
    (h : W P ng af.body (fun e fr H2 => match e with | .normal | .ret => ∃ v, resO af.res fr H2 = some v ∧ R v H2 | _ => False) (initFr af.sl args) H) : ∃ v H', ARun P ng f args H v H' ∧ R v H' := by
  have h1 := W_grow (n := H.n) (Q' := fun e fr H2 => (match e with | .normal | .ret => ∃ v, resO af.res fr H2 = some v ∧ R v H2 | _ => False) ∧ H.n ≤ H2.n) af.body (Nat.le_refl _) (fun e fr H2 a b => ⟨a, b⟩) h
  obtain ⟨e, fr, H', ⟨h2, h3⟩, h4⟩ := W_out af.body h1
  obtain ⟨v, h5, h6⟩ : ∃ v, resO af.res fr H' = some v ∧ R v H' := by cases e <;> first | exact h2 | exact h2.elim
  refine ⟨v, H', run_of_W hc h3 hargs ?_, h6⟩
  refine W_mono ?_ h4
  rintro e' fr' H2 ⟨rfl, rfl, rfl⟩
  cases e' <;> first | exact ⟨h5, rfl⟩ | exact h2

end Go.AM
