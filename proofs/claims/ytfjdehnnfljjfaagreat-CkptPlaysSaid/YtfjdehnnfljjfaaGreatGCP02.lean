/- Part of the proof. -/
import Derived.Test.YtfjdehnnfljjfaaGreatGCP01
import Derived.Test.YtfjdehnnfljjfaaGreatProg
import Derived.KernelRfl
import Derived.OpenShut
import Derived.Carry
import Derived.ChangeSame
import Derived.WalkKit
import Derived.ProofKit
set_option linter.unusedSimpArgs false
set_option linter.unusedVariables false
set_option linter.unusedSimpArgs false
set_option linter.unusedVariables false
namespace Go.AM
theorem alloc_old (w : World) (ob : Obj) (k : Nat) (hk : k < w.heap.size) : (w.alloc ob).heap[k]? = w.heap[k]? := by
  show (w.heap.push ob)[k]? = _
  rw [Array.getElem?_push, if_neg (by omega)]
theorem junk_alloc {ng : Nat} {σ : Sg} {H : AHeap} {w : World} (hr : HR ng σ H.get w) (ob : Obj) : HR ng σ H.get (w.alloc ob) ∧ Ext H.n σ H.get w H.n σ H.get (w.alloc ob) :=
  ⟨hr.other (by simp) (fun b i hb => alloc_old w ob i.c (hr.lt b i hb)),
   (Ext.refl H.n σ H.get w).other (by simp) (fun k hk => alloc_old w ob k hk) rfl rfl rfl⟩
def DM (lo : Nat) (σ : Sg) (w : World) : List Deferred → Prop
  | [] => True
  | d :: ds => (∃ D, d = { target := .collected D, args := #[] } ∧ lo ≤ D ∧ w.heap[D]? = some (.deferred (some [])) ∧ (∀ b i, σ b = some i → i.c ≠ D) ∧ ∀ d' ∈ ds, d'.target ≠ .collected D) ∧ DM lo σ w ds
theorem DM.ext {lo n n' : Nat} {σ σ' : Sg} {G G' : Gf} {w w' : World} (h : Ext n σ G w n' σ' G' w') : ∀ {ds : List Deferred}, DM lo σ w ds → DM lo σ' w' ds
  | [], _ => trivial
  | d :: ds, ⟨⟨D, h1, h2, h3, h4, h5⟩, h6⟩ => by
    have hlt : D < w.heap.size := (Array.getElem?_eq_some_iff.1 h3).1
    refine ⟨⟨D, h1, h2, ?_, ?_, h5⟩, DM.ext h h6⟩
    · rw [h.keep D hlt (fun b i o hb _ _ => h4 b i hb)]; exact h3
    · intro b i hb
      cases hs : σ b with
      | some j =>
        have := h.sub b j hs
        rw [hb] at this; cases this
        exact h4 b i hs
      | none =>
        rcases (h.new b i hs hb).2 with k | ⟨b0, i0, o0, e1, _, _, e4⟩
        · omega
        · rw [← e4]; exact h4 b0 i0 e1
theorem DM.world {lo : Nat} {σ : Sg} {w w' : World} (e : w'.heap = w.heap) : ∀ {ds : List Deferred}, DM lo σ w ds → DM lo σ w' ds
  | [], _ => trivial
  | d :: ds, ⟨⟨D, h1, h2, h3, h4, h5⟩, h6⟩ => ⟨⟨D, h1, h2, by rw [e]; exact h3, h4, h5⟩, DM.world e h6⟩
theorem DM.lt {lo : Nat} {σ : Sg} {w : World} : ∀ {ds : List Deferred}, DM lo σ w ds → ∀ d ∈ ds, ∃ D, d.target = .collected D ∧ D < w.heap.size
  | [], _, d, h => by simp at h
  | d :: ds, ⟨⟨D, h1, h2, h3, h4, h5⟩, h6⟩, d', h => by
    rcases List.mem_cons.1 h with rfl | h
    · exact ⟨D, by rw [h1], (Array.getElem?_eq_some_iff.1 h3).1⟩
    · exact DM.lt h6 d' h
theorem DM.shut {lo : Nat} {σ : Sg} {w : World} {D : Nat} {ob : Obj} : ∀ {ds : List Deferred}, (∀ d' ∈ ds, d'.target ≠ .collected D) → DM lo σ w ds → DM lo σ (w.putObj D ob) ds
  | [], _, _ => trivial
  | d :: ds, hne, ⟨⟨D2, h1, h2, h3, h4, h5⟩, h6⟩ => by
    refine ⟨⟨D2, h1, h2, ?_, h4, h5⟩, DM.shut (fun d' h => hne d' (List.mem_cons_of_mem _ h)) h6⟩
    rw [World.putObj_heap_other ?_]; exact h3
    rintro rfl
    exact hne d (List.mem_cons_self ..) (by rw [h1])
def noRF : Code → Bool
  | .seq a b => noRF a && noRF b
  | .cond _ a b => noRF a && noRF b
  | .block _ a => noRF a
  | .loop a => noRF a
  | .scope a => noRF a
  | .rangeFunc .. => false
  | _ => true
theorem wpIn_loop_ghost {F : Fence} {m : Nat} {P : Program} {Q : Exit → Act → World → Prop} {a : Act} {w : World} {c : Code} (I : Nat → Act → World → Prop) (n₀ : Nat) (h₀ : I n₀ a w)
    (round : ∀ n a w, I n a w → c.wpIn F m P (Exit.then (fun a' w' => ∃ n', n' < n ∧ I n' a' w') Q) a w) : (Code.loop c).wpIn F m P Q a w := by
  refine wpIn_loop (fun a w => ∃ n, I n a w) (fun a w => leastOf (fun n => I n a w)) ⟨n₀, h₀⟩ ?_
  intro a w hI
  refine wpIn_mono (round _ a w (leastOf_spec hI).1) ?_
  intro e a' w' hq
  cases e with
  | normal =>
    obtain ⟨n', hlt, hI'⟩ := hq
    exact show (∃ n, I n a' w') ∧ leastOf (fun n => I n a' w') < leastOf (fun n => I n a w) from ⟨⟨n', hI'⟩, Nat.lt_of_le_of_lt ((leastOf_spec ⟨n', hI'⟩).2 n' hI') hlt⟩
  | exit id => exact hq
  | goto l => exact hq
  | ret => exact hq
  | panic ch => exact hq
  | outgrown => exact hq
end Go.AM

set_option linter.unusedSimpArgs false
set_option linter.unusedVariables false
namespace Go.AM
inductive ACode
  | skip
  | reg (ops : List AOper)
  | dreg (ops : List (AOper × List Nat))
  | seq (a b : ACode)
  | cond (c : AX) (t e : ACode)
  | block (id : Nat) (c : ACode)
  | loop (c : ACode)
  | exit (id : Nat)
  | ret
  | rangeF (g : AX) (N : Nat) (sl : List Nat) (ps : Array Tmp) (assign body : Code)
abbrev AQ := Exit → List Value → AHeap → Prop
def AQ.andThen (Q : AQ) (K : List Value → AHeap → Prop) : AQ
  | .normal, fr, H => K fr H
  | e, fr, H => Q e fr H
def AQ.inBlock (Q : AQ) (id : Nat) : AQ
  | .exit id', fr, H => if id' = id then Q .normal fr H else Q (.exit id') fr H
  | e, fr, H => Q e fr H
def afterR (Q : AQ) (fr : List Value) (b : Nat) (H : AHeap) : Prop := match H.get b with
  | some (.loop true st pe _) => st ≠ .busy ∧ (match pe with
    | none => Q .normal fr (H.set b .dead)
    | some .ret => Q .ret fr (H.set b .dead)
    | some (.exit id) => Q (.exit id) fr (H.set b .dead)
    | _ => False)
  | _ => False
theorem afterR_grow {Q Q' : AQ} {fr : List Value} {b n : Nat} {H : AHeap} (hn : n ≤ H.n) (hq : ∀ e fr H, Q e fr H → n ≤ H.n → Q' e fr H) (h : afterR Q fr b H) : afterR Q' fr b H := by
  unfold afterR at *
  split at h
  · refine ⟨h.1, ?_⟩
    have h := h.2
    split at h
    · exact hq _ _ _ h hn
    · exact hq _ _ _ h hn
    · exact hq _ _ _ h hn
    · exact h.elim
  · exact h.elim
theorem afterR_out {Q : AQ} {fr : List Value} {b : Nat} {H : AHeap} (h : afterR Q fr b H) : ∃ e fr' H', Q e fr' H' ∧ afterR (fun e2 fr2 H2 => e2 = e ∧ fr2 = fr' ∧ H2 = H') fr b H := by
  unfold afterR at *
  split at h
  · obtain ⟨h0, h⟩ := h
    split at h
    · exact ⟨_, _, _, h, h0, rfl, rfl, rfl⟩
    · exact ⟨_, _, _, h, h0, rfl, rfl, rfl⟩
    · exact ⟨_, _, _, h, h0, rfl, rfl, rfl⟩
    · exact h.elim
  · exact h.elim
def W (P : Program) (ng : Nat) : ACode → AQ → List Value → AHeap → Prop
  | .skip, Q, fr, H => Q .normal fr H
  | .reg ops, Q, fr, H => RW P ng ops fr [] H (Q .normal)
  | .dreg ops, Q, fr, H => RD P ng ops fr [] H [] (Q .normal)
  | .seq a b, Q, fr, H => W P ng a (Q.andThen (W P ng b Q)) fr H
  | .cond c t e, Q, fr, H => match c.ev fr [] with
    | .bool b => if b then W P ng t Q fr H else W P ng e Q fr H
    | _ => False
  | .block id c, Q, fr, H => W P ng c (Q.inBlock id) fr H
  | .loop c, Q, fr, H => ∃ (I : Nat → List Value → AHeap → Prop) (n : Nat), I n fr H ∧ ∀ k fr H, I k fr H → W P ng c (Q.andThen fun fr H => ∃ k', k' < k ∧ I k' fr H) fr H
  | .exit id, Q, fr, H => Q (.exit id) fr H
  | .ret, Q, fr, H => Q .ret fr H
  | .rangeF g N sl ps assign body, Q, fr, H =>
    match g.ev fr [] with
    | .func (.func gf) first cap => Bodied P gf ∧ ∃ v H1, ARun P ng gf (first.toList ++ [.chan (some H.n)] ++ cap.toList) (H.alloc (.loop true .ready none ⟨N, sl, fr, ps, assign, body⟩)) v H1 ∧ afterR Q fr H.n H1
    | _ => False
def compC (P : Program) (ng N : Nat) (sl : List Nat) : Code → Option ACode
  | .skip => some .skip
  | .region _ ops false => (compR P ng N sl ops ops.toList []).map .reg
  | .region _ ops true => if drawOK P ops (drawUns P ops) then (compR P ng N sl ops ops.toList []).map fun l => .dreg (l.zip (drawUns P ops)) else none
  | .seq a b => match compC P ng N sl a, compC P ng N sl b with
    | some x, some y => some (.seq x y)
    | _, _ => none
  | .cond c t e => match compX ng sl [] c, compC P ng N sl t, compC P ng N sl e with
    | some x, some y, some z => some (.cond x y z)
    | _, _, _ => none
  | .block id c => (compC P ng N sl c).map (.block id)
  | .loop c => (compC P ng N sl c).map .loop
  | .exit id => some (.exit id)
  | .ret => some .ret
  | .rangeFunc f ps a b => (compX ng sl [] f).map fun x => .rangeF x N sl ps a b
  | _ => none
def LQ (ng N : Nat) (sl : List Nat) (σ0 : Sg) (H0 : AHeap) (w0 : World) (Q : AQ) : Exit → Act → World → Prop := fun e a w =>
  match e with
  | .normal | .exit _ | .ret => ∃ fr H σ ds, ER σ N sl [] ds fr [] a ∧ HR ng σ H.get w ∧ Ext H0.n σ0 H0.get w0 H.n σ H.get w ∧ DM w0.heap.size σ w ds ∧ Q e fr H
  | _ => False
theorem RW_sound {F : Fence} (hF : IsW F) {m : Nat} {P : Program} {ng N : Nat} {sl : List Nat} (hnd : sl.Nodup) {ops : Array Oper} {σ0 : Sg} {H0 : AHeap} {w0 : World} {Q : AQ} : ∀ (l : List Oper) (tl : List Nat) (al : List AOper) (fr tm : List Value) (H : AHeap) (σ : Sg) (a : Act) (w : World) (ds : List Deferred),
    compR P ng N sl ops l tl = some al → (∀ t ∈ tl, t ∉ sl) → ER σ N sl tl ds fr tm a → HR ng σ H.get w → Ext H0.n σ0 H0.get w0 H.n σ H.get w → DM w0.heap.size σ w ds → RW P ng al fr tm H (Q .normal) → wpListIn F m P ops (LQ ng N sl σ0 H0 w0 Q) l a w
  | [], tl, al, fr, tm, H, σ, a, w, ds, hc, _, he, hr, hx, hd0, hw => by
    simp only [compR, Option.some.injEq] at hc
    subst hc
    exact ⟨fr, H, σ, ds, he.forget, hr, hx, hd0, hw⟩
  | o :: l, tl, al, fr, tm, H, σ, a, w, ds, hc, hdis, he, hr, hx, hd0, hw => by
    simp only [compR] at hc
    split at hc
    · rename_i hall
      split at hc
      · rename_i g d tl' hg hd
        simp only [Option.map_eq_some_iff] at hc
        obtain ⟨al', hal, rfl⟩ := hc
        have hev : ∀ x ∈ o.op.operands, VR σ (((compX ng sl tl x).getD (.c undef)).ev fr tm) (a.eval x) := by
          intro x hx
          have := List.all_eq_true.1 hall x (by simpa using hx)
          obtain ⟨ax, hax⟩ := Option.isSome_iff_exists.1 this
          rw [hax]
          exact compX_sound he hr hax
        have hwant := compG_sound he hr (ops := ops) (o := o) hg
        simp only [RW] at hw
        unfold wpListIn
        rw [hwant]
        split
        · rename_i hwt
          rw [if_pos hwt] at hw
          rw [map_map_op] at hw
          refine oper_wp hF hr (ev := (AX.ev fr tm) ∘ fun x => (compX ng sl tl x).getD (.c undef)) hev hw ?_
          intro v H' v' σ' w' hK h1 h2 h3
          obtain ⟨k1, k2⟩ := (he.mono h2.sub).put hnd hdis hd h3
          exact RW_sound hF hnd l tl' al' _ _ H' σ' _ w' ds hal k2 k1 h1 (hx.trans h2) (hd0.ext h2) hK
        · rename_i hwt
          rw [if_neg hwt] at hw
          obtain ⟨k1, k2⟩ := he.put hnd hdis hd (v := undef) (v' := undef) (.tuple _ _ rfl (fun i a => by simp at a))
          exact ⟨fun f _ => hF.fn f, RW_sound hF hnd l tl' al' _ _ H σ _ w ds hal k2 k1 hr hx hd0 hw⟩
      · cases hc
    · cases hc
theorem W_sound {F : Fence} (hF : IsW F) {m : Nat} {P : Program} {ng N : Nat} {sl : List Nat} (hnd : sl.Nodup) : ∀ (c : Code) (ac : ACode), compC P ng N sl c = some ac → (F = Fence.wide ∨ noRF c = true) → ∀ (Q : AQ) (fr : List Value) (H : AHeap), W P ng ac Q fr H →
    ∀ (σ0 : Sg) (H0 : AHeap) (w0 : World) (σ : Sg) (a : Act) (w : World) (ds : List Deferred), ER σ N sl [] ds fr [] a → HR ng σ H.get w → Ext H0.n σ0 H0.get w0 H.n σ H.get w → DM w0.heap.size σ w ds → c.wpIn F m P (LQ ng N sl σ0 H0 w0 Q) a w := by
  intro c
  induction c with
  | skip =>
    intro ac hc hf Q fr H hw σ0 H0 w0 σ a w ds he hr hx hd
    simp only [compC, Option.some.injEq] at hc; subst hc
    exact wpIn_skip ⟨fr, H, σ, ds, he, hr, hx, hd, hw⟩
  | region id ops draw =>
    intro ac hc hf Q fr H hw σ0 H0 w0 σ a w ds he hr hx hd
    cases draw
    · simp only [compC, Option.map_eq_some_iff] at hc
      obtain ⟨al, hal, rfl⟩ := hc
      exact wpIn_region_list (RW_sound hF hnd ops.toList [] al fr [] H σ a w ds hal (by simp) he hr hx hd hw)
    · simp only [compC] at hc
      split at hc
      · rename_i hok
        simp only [Option.map_eq_some_iff] at hc
        obtain ⟨al, hal, rfl⟩ := hc
        refine wpIn_region_any (drawOK_spec hok).mix ?_
        refine RD_sound hF (σ0 := σ) (H0 := H) (fr0 := fr) hnd hal hok he (hr.world (w' := { w with drawn := w.drawn + 1 }) rfl) hw ?_
        intro a' w' σ' fr' H' k1 k2 k3 k4
        exact ⟨fr', H', σ', ds, k1, k2, (hx.world (w2 := { w with drawn := w.drawn + 1 }) rfl rfl rfl rfl).trans k3, DM.ext k3 (DM.world (w := w) (w' := { w with drawn := w.drawn + 1 }) rfl hd), k4⟩
      · cases hc
  | seq x y ihx ihy =>
    intro ac hc hf Q fr H hw σ0 H0 w0 σ a w ds he hr hx hd
    simp only [compC] at hc
    split at hc
    · rename_i ax ay h1 h2
      simp only [Option.some.injEq] at hc; subst hc
      refine wpIn_seq (wpIn_mono (ihx ax h1 (hf.imp_right (fun h => by simp only [noRF, Bool.and_eq_true] at h; exact h.1)) _ fr H hw σ0 H0 w0 σ a w ds he hr hx hd) ?_)
      intro e a' w' hq
      cases e with
      | normal =>
        obtain ⟨fr', H', σ', ds', k1, k2, k3, k5, k4⟩ := hq
        exact ihy ay h2 (hf.imp_right (fun h => by simp only [noRF, Bool.and_eq_true] at h; exact h.2)) Q fr' H' k4 σ0 H0 w0 σ' a' w' ds' k1 k2 k3 k5
      | exit id => exact hq
      | ret => exact hq
      | goto l => exact hq
      | panic ch => exact hq
      | outgrown => exact hq
    · cases hc
  | cond c t e iht ihe =>
    intro ac hc hf Q fr H hw σ0 H0 w0 σ a w ds he hr hx hd
    simp only [compC] at hc
    split at hc
    · rename_i x y z h1 h2 h3
      simp only [Option.some.injEq] at hc; subst hc
      have hv := compX_sound he hr h1
      simp only [W] at hw
      split at hw
      · rename_i b hb
        rw [hb] at hv
        refine wpIn_cond (t := b) hv.bool_inv ?_
        cases b
        · exact ihe z h3 (hf.imp_right (fun h => by simp only [noRF, Bool.and_eq_true] at h; exact h.2)) Q fr H (by simpa using hw) σ0 H0 w0 σ a w ds he hr hx hd
        · exact iht y h2 (hf.imp_right (fun h => by simp only [noRF, Bool.and_eq_true] at h; exact h.1)) Q fr H (by simpa using hw) σ0 H0 w0 σ a w ds he hr hx hd
      · exact hw.elim
    · cases hc
  | block id c ih =>
    intro ac hc hf Q fr H hw σ0 H0 w0 σ a w ds he hr hx hd
    simp only [compC, Option.map_eq_some_iff] at hc
    obtain ⟨x, h1, rfl⟩ := hc
    refine wpIn_block (wpIn_mono (ih x h1 (hf.imp_right (fun h => by simpa only [noRF] using h)) _ fr H hw σ0 H0 w0 σ a w ds he hr hx hd) ?_)
    intro e a' w' hq
    cases e with
    | exit id' =>
      obtain ⟨fr', H', σ', ds', k1, k2, k3, k5, k4⟩ := hq
      simp only [AQ.inBlock] at k4
      simp only [Exit.inBlock]
      split
      · rename_i hid; rw [if_pos hid] at k4; exact ⟨fr', H', σ', ds', k1, k2, k3, k5, k4⟩
      · rename_i hid; rw [if_neg hid] at k4; exact ⟨fr', H', σ', ds', k1, k2, k3, k5, k4⟩
    | normal => exact hq
    | ret => exact hq
    | goto l => exact hq
    | panic ch => exact hq
    | outgrown => exact hq
  | loop c ih =>
    intro ac hc hf Q fr H hw σ0 H0 w0 σ a w ds he hr hx hd
    simp only [compC, Option.map_eq_some_iff] at hc
    obtain ⟨x, h1, rfl⟩ := hc
    simp only [W] at hw
    obtain ⟨I, n, h0, hstep⟩ := hw
    refine wpIn_loop_ghost (fun k a w => ∃ fr H σ ds, ER σ N sl [] ds fr [] a ∧ HR ng σ H.get w ∧ Ext H0.n σ0 H0.get w0 H.n σ H.get w ∧ DM w0.heap.size σ w ds ∧ I k fr H) n ⟨fr, H, σ, ds, he, hr, hx, hd, h0⟩ ?_
    rintro k a' w' ⟨fr', H', σ', ds', k1, k2, k3, k5, k4⟩
    refine wpIn_mono (ih x h1 (hf.imp_right (fun h => by simpa only [noRF] using h)) _ fr' H' (hstep k fr' H' k4) σ0 H0 w0 σ' a' w' ds' k1 k2 k3 k5) ?_
    intro e a2 w2 hq
    cases e with
    | normal =>
      obtain ⟨fr2, H2, σ2, ds2, m1, m2, m3, m6, k', m4, m5⟩ := hq
      exact ⟨k', m4, fr2, H2, σ2, ds2, m1, m2, m3, m6, m5⟩
    | exit id => exact hq
    | ret => exact hq
    | goto l => exact hq
    | panic ch => exact hq
    | outgrown => exact hq
  | exit id =>
    intro ac hc hf Q fr H hw σ0 H0 w0 σ a w ds he hr hx hd
    simp only [compC, Option.some.injEq] at hc; subst hc
    exact wpIn_exit ⟨fr, H, σ, ds, he, hr, hx, hd, hw⟩
  | ret =>
    intro ac hc hf Q fr H hw σ0 H0 w0 σ a w ds he hr hx hd
    simp only [compC, Option.some.injEq] at hc; subst hc
    exact wpIn_ret ⟨fr, H, σ, ds, he, hr, hx, hd, hw⟩
  | rangeFunc g ps x y ihx ihy =>
    intro ac hc hf Q fr H hw σ0 H0 w0 σ a w ds he hr hx hd
    simp only [compC, Option.map_eq_some_iff] at hc
    obtain ⟨ax, hax, rfl⟩ := hc
    have hF0 : F = Fence.wide := by
      rcases hf with h | h
      · exact h
      · cases h
    subst hF0
    have hv := compX_sound he hr hax
    simp only [W] at hw
    refine wpIn_rangeFunc ?_
    intro fn _
    -- the record is laid
    obtain ⟨j1, j2⟩ := junk_alloc hr (.deferred (some []))
    have hnew : ∀ (st : LoopState) (pe : Option Code), Loop := fun st pe => { state := st, pending := pe, fn := fn, tmps := a.tmps, params := ps, assign := x, body := y, defers := w.heap.size }
    obtain ⟨L, hL⟩ : ∃ L : LRec, (⟨N, sl, fr, ps, x, y⟩ : LRec) = L := ⟨_, rfl⟩
    obtain ⟨o1, ho1⟩ : ∃ o1 : Obj, Obj.loop { state := .ready, pending := none, fn := fn, tmps := a.tmps, params := ps, assign := x, body := y, defers := w.heap.size } = o1 := ⟨_, rfl⟩
    have hor : OR σ ((w.alloc (.deferred (some []))).alloc o1) ⟨w.heap.size + 1, 0, 0, 0, 0, false⟩ (.loop true .ready none L) := by
      subst hL; subst ho1
      refine ⟨fn, a.tmps, w.heap.size, ?_, he.size, he.frl, he.frv⟩
      have := heap_alloc_new (w.alloc (.deferred (some []))) (.loop { state := .ready, pending := none, fn := fn, tmps := a.tmps, params := ps, assign := x, body := y, defers := w.heap.size })
      rwa [show (w.alloc (.deferred (some []))).heap.size = w.heap.size + 1 by simp] at this
    obtain ⟨a1, a2⟩ := HR.alloc (w' := (w.alloc (.deferred (some []))).alloc o1) j1 (o := .loop true .ready none L) (i := ⟨w.heap.size + 1, 0, 0, 0, 0, false⟩) (by simp) hor rfl rfl rfl rfl
    have hx1 := (hx.trans j2).trans a2
    obtain ⟨σ1, hσ1⟩ : ∃ σ1, σ.up H.n ⟨w.heap.size + 1, 0, 0, 0, 0, false⟩ = σ1 := ⟨_, rfl⟩
    have hb1 : σ1 H.n = some ⟨w.heap.size + 1, 0, 0, 0, 0, false⟩ := by rw [← hσ1]; exact Sg.up_same _ _ _
    have hd1 : DM w0.heap.size σ1 ((w.alloc (.deferred (some []))).alloc o1) ({ target := .collected w.heap.size, args := #[] } :: ds) := by
      refine ⟨⟨w.heap.size, rfl, hx.size, ?_, ?_, ?_⟩, ?_⟩
      · rw [alloc_old _ _ _ (by simp)]; exact heap_alloc_new w _
      · intro b i hb
        rw [← hσ1] at hb
        by_cases e : b = H.n
        · subst e; rw [Sg.up_same] at hb; cases hb; simp
        · rw [Sg.up_other σ _ e] at hb
          have := hr.lt b i hb
          omega
      · intro d' hd' he'
        obtain ⟨D, k1, k2⟩ := hd.lt d' hd'
        rw [k1] at he'
        simp only [Target.collected.injEq] at he'
        omega
      · have := (hd.ext j2).ext a2
        rw [hσ1] at this
        exact this
    rw [hσ1] at a1 hx1
    rw [hL] at hw
    -- the call
    have main : ∀ (gf : FuncId) (first cap : Array Value), a.eval g = .func (.func gf) first cap → Bodied P gf → ∀ (v : Value) (H1 : AHeap) (xs : List Value), ARun P ng gf xs (H.alloc (.loop true .ready none L)) v H1 → afterR Q fr H.n H1 →
        VL σ1 xs (first.toList ++ [.func (.yield (w.heap.size + 1)) #[] #[]] ++ cap.toList) →
        ∃ (l : Nat) (mark : List Deferred) (w₁ : World) (d : Deferred) (w₁' : World) (f : FuncId) (args : Array Value) (w₂ : World),
        (Instr.enterLoop fn a.tmps ps x y Fence.wide.round).run P w = .ok (l, mark) w₁ ∧
        (resolve a.eval (rangeCall g l) 0).run P w₁ = .ok d w₁' ∧
        (∀ f', Target.leads P w₁' d.target d.args = some f' → Fence.wide.fn f') ∧
        (invoke d.target d.args).run P w₁' = .ok (.enter f args) w₂ ∧
        (Fence.wide.depth.isSome = true → 1 ≤ m) ∧
        CallsIn Fence.wide (m - 1) P f args w₂ (rangePost Fence.wide m P l (LQ ng N sl σ0 H0 w0 Q) { a with defers := mark ++ a.defers }) := by
      intro gf first cap hg hbd v H1 xs hrun haft hvl
      obtain ⟨_, hn1, hcall⟩ := hrun
      have hc := hbd.run
      refine ⟨w.heap.size + 1, [{ target := .collected w.heap.size, args := #[] }], (w.alloc (.deferred (some []))).alloc o1, { target := .fn (.func gf) cap, args := first ++ #[.func (.yield (w.heap.size + 1)) #[] #[]] },
        (w.alloc (.deferred (some []))).alloc o1, gf, first ++ #[.func (.yield (w.heap.size + 1)) #[] #[]] ++ cap, (w.alloc (.deferred (some []))).alloc o1, ?_, ?_, fun _ _ => trivial, ?_, (fun h => by cases h), ?_⟩
      · rw [← ho1]; exact run_enterLoop_outer _ _ _ _ _
      · simp only [resolve, hg, Deferred.ofValue, Sem.run_pure]
        simp [Act.eval]
      · simp [invoke, hc]
      · have h3 := (hcall σ1 _ _ a1 hvl).calls hbd
        have e3 : (first.toList ++ [Value.func (.yield (w.heap.size + 1)) #[] #[]] ++ cap.toList).toArray = first ++ #[.func (.yield (w.heap.size + 1)) #[] #[]] ++ cap := by
          apply Array.toList_inj.1; simp
        rw [e3] at h3
        refine CallsIn.mono (callsIn_wide.2 h3) ?_
        rintro e w' ⟨v', σ2, rfl, k1, k2, k3⟩
        have hb2 := k2.sub _ _ hb1
        have hx2 := hx1.trans k2
        have hd2 := hd1.ext k2
        obtain ⟨ob, g1, g2⟩ := k1.obj _ _ hb2
        unfold afterR at haft
        rw [g1] at haft
        split at haft
        · rename_i st pe L2 hob
          cases hob
          obtain ⟨fn2, tm2, ds2, q1, q2, q3⟩ := g2
          have hend := run_endLoop (P := P) q1 haft.1
          obtain ⟨p1, p2⟩ := put_own (o2 := .dead) (ob := .loop { state := .exhausted, pending := pe, fn := fn2, tmps := tm2, params := L2.ps, assign := L2.assign, body := L2.body, defers := ds2 }) k1 hb2 g1 rfl trivial
          have he2 : ER σ2 N sl [] ({ target := .collected w.heap.size, args := #[] } :: ds) fr [] { a with defers := [{ target := .collected w.heap.size, args := #[] }] ++ a.defers } := by
            have hle : σ.le σ2 := Sg.le.trans (by rw [← hσ1]; exact Sg.le_up _ (hr.none_of_ge (Nat.le_refl _))) k2.sub
            have := he.mono hle
            exact ⟨this.size, this.frl, this.tml, this.frv, this.tmv, by simp [this.dfr]⟩
          refine ⟨pe, _, hend, ?_⟩
          have haft := haft.2
          split at haft
          · exact ⟨fr, _, σ2, _, he2, p1, hx2.trans p2, hd2.ext p2, haft⟩
          · exact wpIn_ret ⟨fr, _, σ2, _, he2, p1, hx2.trans p2, hd2.ext p2, haft⟩
          · exact wpIn_exit ⟨fr, _, σ2, _, he2, p1, hx2.trans p2, hd2.ext p2, haft⟩
          · exact haft.elim
        · exact haft.elim
    have hyv : VR σ1 (.chan (some H.n)) (.func (.yield (w.heap.size + 1)) #[] #[]) := VR.yield hb1
    have hle1 : σ.le σ1 := by rw [← hσ1]; exact Sg.le_up _ (hr.none_of_ge (Nat.le_refl _))
    split at hw
    · rename_i gf first cap hfv
      obtain ⟨hbd, v, H1, h1, h2⟩ := hw
      rw [hfv] at hv
      cases hfe : a.eval g with
      | func fn' xs' ys' =>
        rw [hfe] at hv
        cases hv with
        | func _ _ _ _ _ p1 p2 p3 p4 =>
          refine main gf xs' ys' hfe hbd v H1 _ h1 h2 ?_
          exact ((VL.of_arr p1 (fun i a b => (p2 i a b).mono hle1)).append (.cons hyv .nil)).append (VL.of_arr p3 (fun i a b => (p4 i a b).mono hle1))
      | _ => rw [hfe] at hv; cases hv
    · exact hw.elim
  | scope c ih => intro ac hc; simp [compC] at hc
  | label l => intro ac hc; simp [compC] at hc
  | goto l => intro ac hc; simp [compC] at hc
  | refuse w => intro ac hc; simp [compC] at hc
theorem RW_grow {P : Program} {ng n : Nat} : ∀ {l : List AOper} {fr tm : List Value} {H : AHeap} {K K' : List Value → AHeap → Prop}, n ≤ H.n → (∀ fr H, K fr H → n ≤ H.n → K' fr H) → RW P ng l fr tm H K → RW P ng l fr tm H K'
  | [], fr, tm, H, K, K', hn, hk, h => hk _ _ h hn
  | o :: l, fr, tm, H, K, K', hn, hk, h => by
    simp only [RW] at h ⊢
    split at h
    · rename_i hw
      rw [if_pos hw]
      exact stepA_mono (fun v H' hh => RW_grow (Nat.le_trans hn hh.2) hk hh.1) (stepA_grow h)
    · rename_i hw
      rw [if_neg hw]
      exact RW_grow hn hk h
theorem RD_grow {P : Program} {ng n : Nat} : ∀ {l : List (AOper × List Nat)} {fr tm : List Value} {H : AHeap} {tr : List TE} {K K' : List Value → AHeap → Prop}, n ≤ H.n → (∀ fr H, K fr H → n ≤ H.n → K' fr H) → RD P ng l fr tm H tr K → RD P ng l fr tm H tr K'
  | [], fr, tm, H, tr, K, K', hn, hk, h => hk _ _ h hn
  | (o, un) :: l, fr, tm, H, tr, K, K', hn, hk, h => by
    simp only [RD] at h ⊢
    split at h
    · rename_i hw
      rw [if_pos hw]
      exact stepA_mono (fun v H' hh => ⟨hh.1.1, RD_grow (Nat.le_trans hn hh.2) hk hh.1.2⟩) (stepA_grow h)
    · rename_i hw
      rw [if_neg hw]
      exact RD_grow hn hk h
theorem RD_out {P : Program} {ng : Nat} : ∀ {l : List (AOper × List Nat)} {fr tm : List Value} {H : AHeap} {tr : List TE} {K : List Value → AHeap → Prop}, RD P ng l fr tm H tr K → ∃ fr' H', K fr' H' ∧ RD P ng l fr tm H tr fun fr2 H2 => fr2 = fr' ∧ H2 = H'
  | [], fr, tm, H, tr, K, h => ⟨fr, H, h, rfl, rfl⟩
  | (o, un) :: l, fr, tm, H, tr, K, h => by
    simp only [RD] at h
    split at h
    · rename_i hw
      obtain ⟨v, H', ⟨h0, h1⟩, h2⟩ := stepA_out' h
      obtain ⟨fr', H2, h3, h4⟩ := RD_out h1
      refine ⟨fr', H2, h3, ?_⟩
      simp only [RD]
      rw [if_pos hw]
      refine stepA_mono ?_ h2
      rintro v2 H3 ⟨rfl, rfl⟩
      exact ⟨h0, h4⟩
    · rename_i hw
      obtain ⟨fr', H2, h3, h4⟩ := RD_out h
      refine ⟨fr', H2, h3, ?_⟩
      simp only [RD]
      rw [if_neg hw]
      exact h4
theorem W_grow {P : Program} {ng n : Nat} : ∀ (ac : ACode) {Q Q' : AQ} {fr : List Value} {H : AHeap}, n ≤ H.n → (∀ e fr H, Q e fr H → n ≤ H.n → Q' e fr H) → W P ng ac Q fr H → W P ng ac Q' fr H := by
  intro ac
  induction ac with
  | skip => intro Q Q' fr H hn hq h; exact hq _ _ _ h hn
  | reg ops => intro Q Q' fr H hn hq h; exact RW_grow hn (hq .normal) h
  | dreg ops => intro Q Q' fr H hn hq h; exact RD_grow hn (hq .normal) h
  | seq a b iha ihb =>
    intro Q Q' fr H hn hq h
    refine iha hn ?_ h
    intro e fr H hh hn'
    cases e with
    | normal => exact ihb hn' hq hh
    | exit id => exact hq _ _ _ hh hn'
    | ret => exact hq _ _ _ hh hn'
    | goto l => exact hq _ _ _ hh hn'
    | panic ch => exact hq _ _ _ hh hn'
    | outgrown => exact hq _ _ _ hh hn'
  | cond c t e iht ihe =>
    intro Q Q' fr H hn hq h
    simp only [W] at h ⊢
    split at h
    · rename_i b hb
      cases b
      · simpa using ihe hn hq (by simpa using h)
      · simpa using iht hn hq (by simpa using h)
    · exact h.elim
  | block id c ih =>
    intro Q Q' fr H hn hq h
    refine ih hn ?_ h
    intro e fr H hh hn'
    cases e with
    | exit id' =>
      simp only [AQ.inBlock] at hh ⊢
      split
      · rename_i hid; rw [if_pos hid] at hh; exact hq _ _ _ hh hn'
      · rename_i hid; rw [if_neg hid] at hh; exact hq _ _ _ hh hn'
    | normal => exact hq _ _ _ hh hn'
    | ret => exact hq _ _ _ hh hn'
    | goto l => exact hq _ _ _ hh hn'
    | panic ch => exact hq _ _ _ hh hn'
    | outgrown => exact hq _ _ _ hh hn'
  | loop c ih =>
    intro Q Q' fr H hn hq h
    simp only [W] at h ⊢
    obtain ⟨I, k0, h0, hs⟩ := h
    refine ⟨fun k fr H => I k fr H ∧ n ≤ H.n, k0, ⟨h0, hn⟩, ?_⟩
    rintro k fr H ⟨hI, hn'⟩
    refine ih hn' ?_ (hs k fr H hI)
    intro e fr H hh hn2
    cases e with
    | normal => obtain ⟨k', a, b⟩ := hh; exact ⟨k', a, b, hn2⟩
    | exit id => exact hq _ _ _ hh hn2
    | ret => exact hq _ _ _ hh hn2
    | goto l => exact hq _ _ _ hh hn2
    | panic ch => exact hq _ _ _ hh hn2
    | outgrown => exact hq _ _ _ hh hn2
  | exit id => intro Q Q' fr H hn hq h; exact hq _ _ _ h hn
  | ret => intro Q Q' fr H hn hq h; exact hq _ _ _ h hn
  | rangeF g N sl ps assign body =>
    intro Q Q' fr H hn hq h
    simp only [W] at h ⊢
    split at h
    · obtain ⟨hbd, v, H1, h1, h2⟩ := h
      have hle : n ≤ H1.n := by
        have := h1.2.1
        simp only [AHeap.alloc] at this
        omega
      exact ⟨hbd, v, H1, h1, afterR_grow hle hq h2⟩
    · exact h.elim
theorem W_mono {P : Program} {ng : Nat} {ac : ACode} {Q Q' : AQ} {fr : List Value} {H : AHeap} (hq : ∀ e fr H, Q e fr H → Q' e fr H) (h : W P ng ac Q fr H) : W P ng ac Q' fr H :=
  W_grow (n := 0) ac (Nat.zero_le _) (fun e fr H hh _ => hq e fr H hh) h
def exactly (e : Exit) (fr : List Value) (H : AHeap) : AQ := fun e2 fr2 H2 => e2 = e ∧ fr2 = fr ∧ H2 = H
theorem RW_out {P : Program} {ng : Nat} : ∀ {l : List AOper} {fr tm : List Value} {H : AHeap} {K : List Value → AHeap → Prop}, RW P ng l fr tm H K → ∃ fr' H', K fr' H' ∧ RW P ng l fr tm H fun fr2 H2 => fr2 = fr' ∧ H2 = H'
  | [], fr, tm, H, K, h => ⟨fr, H, h, rfl, rfl⟩
  | o :: l, fr, tm, H, K, h => by
    simp only [RW] at h
    split at h
    · rename_i hw
      obtain ⟨v, H', h1, h2⟩ := stepA_out' h
      obtain ⟨fr', H2, h3, h4⟩ := RW_out h1
      refine ⟨fr', H2, h3, ?_⟩
      simp only [RW]
      rw [if_pos hw]
      refine stepA_mono ?_ h2
      rintro v2 H3 ⟨rfl, rfl⟩
      exact h4
    · rename_i hw
      obtain ⟨fr', H2, h3, h4⟩ := RW_out h
      refine ⟨fr', H2, h3, ?_⟩
      simp only [RW]
      rw [if_neg hw]
      exact h4
theorem W_out {P : Program} {ng : Nat} : ∀ (ac : ACode) {Q : AQ} {fr : List Value} {H : AHeap}, W P ng ac Q fr H → ∃ e fr' H', Q e fr' H' ∧ W P ng ac (exactly e fr' H') fr H := by
  intro ac
  induction ac with
  | skip => intro Q fr H h; exact ⟨.normal, fr, H, h, rfl, rfl, rfl⟩
  | reg ops =>
    intro Q fr H h
    obtain ⟨fr', H', h1, h2⟩ := RW_out h
    exact ⟨.normal, fr', H', h1, RW_grow (n := 0) (Nat.zero_le _) (fun fr H hh _ => ⟨rfl, hh.1, hh.2⟩) h2⟩
  | dreg ops =>
    intro Q fr H h
    obtain ⟨fr', H', h1, h2⟩ := RD_out h
    exact ⟨.normal, fr', H', h1, RD_grow (n := 0) (Nat.zero_le _) (fun fr H hh _ => ⟨rfl, hh.1, hh.2⟩) h2⟩
  | seq a b iha ihb =>
    intro Q fr H h
    obtain ⟨e, fr1, H1, h1, h2⟩ := iha h
    by_cases he : e = .normal
    · subst he
      obtain ⟨e2, fr2, H2, h3, h4⟩ := ihb h1
      refine ⟨e2, fr2, H2, h3, ?_⟩
      show W P ng a ((exactly e2 fr2 H2).andThen (W P ng b (exactly e2 fr2 H2))) fr H
      refine W_mono ?_ h2
      rintro e' fr' H' ⟨rfl, rfl, rfl⟩
      exact h4
    · refine ⟨e, fr1, H1, by cases e <;> first | exact absurd rfl he | exact h1, ?_⟩
      show W P ng a ((exactly e fr1 H1).andThen (W P ng b (exactly e fr1 H1))) fr H
      refine W_mono ?_ h2
      rintro e' fr' H' ⟨rfl, rfl, rfl⟩
      cases e' <;> first | exact absurd rfl he | exact ⟨rfl, rfl, rfl⟩
  | cond c t e iht ihe =>
    intro Q fr H h
    simp only [W] at h
    split at h
    · rename_i b hb
      cases b
      · obtain ⟨e', fr', H', h1, h2⟩ := ihe (by simpa using h)
        exact ⟨e', fr', H', h1, by simp only [W, hb]; simpa using h2⟩
      · obtain ⟨e', fr', H', h1, h2⟩ := iht (by simpa using h)
        exact ⟨e', fr', H', h1, by simp only [W, hb]; simpa using h2⟩
    · exact h.elim
  | block id c ih =>
    intro Q fr H h
    obtain ⟨e, fr1, H1, h1, h2⟩ := ih h
    by_cases he : e = .exit id
    · subst he
      simp only [AQ.inBlock, if_true] at h1
      refine ⟨.normal, fr1, H1, h1, ?_⟩
      show W P ng c ((exactly .normal fr1 H1).inBlock id) fr H
      refine W_mono ?_ h2
      rintro e' fr' H' ⟨rfl, rfl, rfl⟩
      simp only [AQ.inBlock, if_true]
      exact ⟨rfl, rfl, rfl⟩
    · have hne : ∀ id', e = .exit id' → ¬ id' = id := fun id' h1 h2 => he (by rw [h1, h2])
      refine ⟨e, fr1, H1, ?_, ?_⟩
      · cases e with
        | exit id' => simp only [AQ.inBlock] at h1; rw [if_neg (hne id' rfl)] at h1; exact h1
        | normal => exact h1
        | ret => exact h1
        | goto l => exact h1
        | panic ch => exact h1
        | outgrown => exact h1
      · show W P ng c ((exactly e fr1 H1).inBlock id) fr H
        refine W_mono ?_ h2
        rintro e' fr' H' ⟨rfl, rfl, rfl⟩
        cases e' with
        | exit id' => simp only [AQ.inBlock]; rw [if_neg (hne id' rfl)]; exact ⟨rfl, rfl, rfl⟩
        | normal => exact ⟨rfl, rfl, rfl⟩
        | ret => exact ⟨rfl, rfl, rfl⟩
        | goto l => exact ⟨rfl, rfl, rfl⟩
        | panic ch => exact ⟨rfl, rfl, rfl⟩
        | outgrown => exact ⟨rfl, rfl, rfl⟩
  | loop c ih =>
    intro Q fr H h
    simp only [W] at h
    obtain ⟨I, n, h0, hs⟩ := h
    have key : ∀ n fr H, I n fr H → ∃ e fr' H', Q e fr' H' ∧ W P ng (.loop c) (exactly e fr' H') fr H := by
      intro n
      induction n using Nat.strongRecOn with
      | _ n ihn =>
        intro fr H hI
        obtain ⟨e, fr1, H1, h1, h2⟩ := ih (hs n fr H hI)
        by_cases he : e = .normal
        · subst he
          obtain ⟨k', hk, hI'⟩ := h1
          obtain ⟨e2, fr2, H2, h3, h4⟩ := ihn k' hk fr1 H1 hI'
          refine ⟨e2, fr2, H2, h3, ?_⟩
          simp only [W] at h4 ⊢
          obtain ⟨I1, n1, g0, gs⟩ := h4
          refine ⟨fun k f h => (k = n1 + 1 ∧ f = fr ∧ h = H) ∨ (k ≤ n1 ∧ I1 k f h), n1 + 1, .inl ⟨rfl, rfl, rfl⟩, ?_⟩
          rintro k f h (⟨rfl, rfl, rfl⟩ | ⟨hk1, hI1⟩)
          · refine W_mono ?_ h2
            rintro e' fr' H' ⟨rfl, rfl, rfl⟩
            exact ⟨n1, by omega, .inr ⟨Nat.le_refl _, g0⟩⟩
          · refine W_mono ?_ (gs k f h hI1)
            intro e' fr' H' hh
            cases e' with
            | normal => obtain ⟨k2, a, b⟩ := hh; exact ⟨k2, a, .inr ⟨by omega, b⟩⟩
            | exit id => exact hh
            | ret => exact hh
            | goto l => exact hh
            | panic ch => exact hh
            | outgrown => exact hh
        · refine ⟨e, fr1, H1, by cases e <;> first | exact absurd rfl he | exact h1, ?_⟩
          simp only [W]
          refine ⟨fun k f h => f = fr ∧ h = H, 0, ⟨rfl, rfl⟩, ?_⟩
          rintro k f h ⟨rfl, rfl⟩
          refine W_mono ?_ h2
          rintro e' fr' H' ⟨rfl, rfl, rfl⟩
          cases e' <;> first | exact absurd rfl he | exact ⟨rfl, rfl, rfl⟩
    exact key n fr H h0
  | exit id => intro Q fr H h; exact ⟨_, _, _, h, rfl, rfl, rfl⟩
  | ret => intro Q fr H h; exact ⟨_, _, _, h, rfl, rfl, rfl⟩
  | rangeF g N sl ps assign body =>
    intro Q fr H h
    simp only [W] at h ⊢
    split at h
    · obtain ⟨hbd, v, H1, h1, h2⟩ := h
      obtain ⟨e, fr', H', h3, h4⟩ := afterR_out h2
      exact ⟨e, fr', H', h3, hbd, v, H1, h1, h4⟩
    · exact h.elim
inductive RX
  | t (i : Nat)
  | c1 (i : Nat)
  | cn (n i : Nat)
structure AFunc where
  sl : List Nat
  body : ACode
  res : List RX
def initFr (sl : List Nat) (args : List Value) : List Value := sl.map fun s => args.getD s undef
def cell1 (v : Value) (H : AHeap) : Option Value := match v with
  | .pointer (some ⟨b, o, none⟩) => cellA H b o
  | _ => none
def celln (n : Nat) (v : Value) (H : AHeap) : Option Value := match v with
  | .pointer (some ⟨b, o, none⟩) => (rangeA H b o n).map fun c => .agg c.toArray
  | _ => none
def RX.get (fr : List Value) (H : AHeap) : RX → Option Value
  | .t i => some (fr.getD i undef)
  | .c1 i => cell1 (fr.getD i undef) H
  | .cn n i => celln n (fr.getD i undef) H
def resVs (fr : List Value) (H : AHeap) : List RX → Option (List Value)
  | [] => some []
  | x :: r => match x.get fr H, resVs fr H r with
    | some v, some l => some (v :: l)
    | _, _ => none
def tupV : List Value → Value
  | [v] => v
  | l => .tuple l.toArray
def resO (res : List RX) (fr : List Value) (H : AHeap) : Option Value := (resVs fr H res).map tupV
def compRes (P : Program) (sl : List Nat) : List ResultVar → Option (List RX)
  | [] => some []
  | .tmp t :: r => match posOf sl t, compRes P sl r with
    | some i, some l => some (.t i :: l)
    | _, _ => none
  | .cell p t :: r => match posOf sl p, isAggT P t, sizeT P t, compRes P sl r with
    | some i, some true, some n, some l => some (.cn n i :: l)
    | some i, some false, _, some l => some (.c1 i :: l)
    | _, _, _, _ => none
def nodupB : List Nat → Bool
  | [] => true
  | x :: l => !l.contains x && nodupB l
theorem nodupB_spec : ∀ {l : List Nat}, nodupB l = true → l.Nodup
  | [], _ => List.nodup_nil
  | x :: l, h => by
    simp only [nodupB, Bool.and_eq_true, Bool.not_eq_true', List.contains_eq_mem, decide_eq_false_iff_not] at h
    exact List.nodup_cons.2 ⟨h.1, nodupB_spec h.2⟩
def compF (P : Program) (ng : Nat) (sl : List Nat) (f : FuncId) : Option AFunc :=
  match P.funcs[f]? with
  | none => none
  | some fn => match fn.body with
    | none => none
    | some c =>
      if nodupB sl && sl.all (· < fn.ntmps) && !(fn.name == "runtime.NumGoroutine") then
        match compC P ng fn.ntmps sl c, compRes P sl fn.results.toList with
        | some b, some r => some { sl := sl, body := b, res := r }
        | _, _ => none
      else none
theorem ER.slot {σ : Sg} {N : Nat} {sl : List Nat} {ds : List Deferred} {fr : List Value} {a : Act} (he : ER σ N sl [] ds fr [] a) {t i : Nat} (hi : posOf sl t = some i) : VR σ (fr.getD i undef) (a.tmps.getD t undef) := by
  have hs := posOf_get hi
  have hlt : i < fr.length := by rw [he.frl]; exact (List.getElem?_eq_some_iff.1 hs).1
  obtain ⟨v', k1, k2⟩ := he.frv i t fr[i] hs (List.getElem?_eq_getElem hlt)
  simp only [Array.getD_eq_getD_getElem?, k1, Option.getD_some]
  simpa [List.getD, List.getElem?_eq_getElem hlt] using k2
theorem run_asAddr {P : Program} (ad : Addr) (w : World) : (asAddr (.pointer (some ad))).run P w = .ok ad w := by simp [asAddr]
theorem compRes_sound {σ : Sg} {N ng : Nat} {sl : List Nat} {ds : List Deferred} {fr : List Value} {a : Act} (he : ER σ N sl [] ds fr [] a) {P : Program} {H : AHeap} {w : World} (hr : HR ng σ H.get w) : ∀ (l : List ResultVar) (r : List RX), compRes P sl l = some r → ∀ us, resVs fr H r = some us →
    ∃ vs : List Value, (l.mapM (fun (rv : ResultVar) => match rv with
      | .tmp t => (pure (a.tmps.getD t undef) : Sem Value)
      | .cell p t => do loadVar t (← asAddr (a.tmps.getD p undef)))).run P w = .ok vs w ∧ VL σ us vs
  | [], r, h, us, hu => by
    simp only [compRes, Option.some.injEq] at h; subst h
    simp only [resVs, Option.some.injEq] at hu; subst hu
    exact ⟨[], by simp, .nil⟩
  | .tmp t :: l, r, h, us, hu => by
    simp only [compRes] at h
    split at h
    · rename_i i l' hi hl
      simp only [Option.some.injEq] at h; subst h
      simp only [resVs, RX.get] at hu
      split at hu
      · rename_i v us' hv hus
        simp only [Option.some.injEq] at hv hu; subst hv; subst hu
        obtain ⟨vs, h1, h2⟩ := compRes_sound he hr l l' hl us' hus
        exact ⟨_ :: vs, by simp only [List.mapM_cons, Sem.run_bind, Sem.run_pure, Result.andThen_ok, h1], .cons (he.slot hi) h2⟩
      · cases hu
    · cases h
  | .cell p t :: l, r, h, us, hu => by
    simp only [compRes] at h
    split at h
    · rename_i i n l' hi hag hn hl
      simp only [Option.some.injEq] at h; subst h
      simp only [resVs, RX.get] at hu
      split at hu
      · rename_i v us' hv hus
        simp only [Option.some.injEq] at hu; subst hu
        obtain ⟨vs, h1, h2⟩ := compRes_sound he hr l l' hl us' hus
        have hs := he.slot hi
        unfold celln at hv
        split at hv
        · rename_i b o hb
          rw [hb] at hs
          simp only [Option.map_eq_some_iff] at hv
          obtain ⟨cs, hc, rfl⟩ := hv
          obtain ⟨pv, hpv⟩ : ∃ pv, a.tmps.getD p undef = pv := ⟨_, rfl⟩
          rw [hpv] at hs
          cases hs with
          | @ptr _ _ j hj =>
            obtain ⟨_, l2, g1, g2, g3⟩ := rangeA_sound hr hj hc
            have hll := run_loadCells_list (P := P) w _ l2 g3
            rw [g2] at hll
            refine ⟨.agg l2.toArray :: vs, ?_, .cons (VR.agg_of g1) h2⟩
            have hld : (loadVar t ⟨j.c, j.off + o, none⟩).run P w = .ok (.agg l2.toArray) w := by simp [loadVar, run_isAgg hag, run_sizeT hn, hll]
            simp only [List.mapM_cons, Sem.run_bind, run_asAddr, Sem.run_pure, Result.andThen_ok, hld, h1, hpv]
        · cases hv
      · cases hu
    · rename_i i _ l' hi hag hl
      simp only [Option.some.injEq] at h; subst h
      simp only [resVs, RX.get] at hu
      split at hu
      · rename_i v us' hv hus
        simp only [Option.some.injEq] at hu; subst hu
        obtain ⟨vs, h1, h2⟩ := compRes_sound he hr l l' hl us' hus
        have hs := he.slot hi
        unfold cell1 at hv
        split at hv
        · rename_i b o hb
          rw [hb] at hs
          obtain ⟨pv, hpv⟩ : ∃ pv, a.tmps.getD p undef = pv := ⟨_, rfl⟩
          rw [hpv] at hs
          cases hs with
          | @ptr _ _ j hj =>
            obtain ⟨v', g1, g2⟩ := cellA_sound hr hj hv
            refine ⟨v' :: vs, ?_, .cons g2 h2⟩
            have hld : (loadVar t ⟨j.c, j.off + o, none⟩).run P w = .ok v' w := by simp [loadVar, run_isAgg hag, g1]
            simp only [List.mapM_cons, Sem.run_bind, run_asAddr, Sem.run_pure, Result.andThen_ok, hld, h1, hpv]
        · cases hv
      · cases hu
    · cases h
theorem run_of_W {P : Program} {ng f : Nat} {sl : List Nat} {af : AFunc} (hc : compF P ng sl f = some af) {args : List Value} {H : AHeap} {v : Value} {H' : AHeap} (hnn : H.n ≤ H'.n)
    (hargs : ∀ fn, P.funcs[f]? = some fn → args.length ≤ fn.ntmps)
    (h : W P ng af.body (fun e fr H2 => match e with | .normal | .ret => resO af.res fr H2 = some v ∧ H2 = H' | _ => False) (initFr af.sl args) H) : ARun P ng f args H v H' := by
  unfold compF at hc
  split at hc
  · cases hc
  · rename_i fn hfn
    split at hc
    · cases hc
    · rename_i c hb
      split at hc
      · rename_i hcond
        simp only [Bool.and_eq_true, Bool.not_eq_true'] at hcond
        obtain ⟨⟨h1, h2⟩, h3⟩ := hcond
        split at hc
        · rename_i b r hcb hcr
          simp only [Option.some.injEq] at hc; subst hc
          have hle := hargs fn hfn
          refine ⟨⟨fn, hfn⟩, hnn, ?_⟩
          intro σ w args' hr hv
          have hl := hv.length
          refine .body ⟨fn, hfn, by simp [hb], h3⟩ ?_
          refine (callsIn_wide (n := 0)).1 (callsIn_of_wp_marks hfn hb trivial ?_)
          have he : ER σ fn.ntmps sl [] [] (initFr sl args) [] { tmps := args'.toArray ++ Array.replicate (fn.ntmps - args'.toArray.size) undef, defers := [] } := by
            refine ⟨by simp; omega, by simp [initFr], rfl, ?_, fun i s v h => by simp at h, rfl⟩
            intro i s u hs hu
            simp only [initFr, List.getElem?_map, hs, Option.map_some, Option.some.injEq] at hu
            subst hu
            have hsN : s < fn.ntmps := by simpa using List.all_eq_true.1 h2 s (List.mem_of_getElem? hs)
            by_cases hsa : s < args.length
            · obtain ⟨v', k1, k2⟩ := hv.get (i := s) (v := args[s]) (List.getElem?_eq_getElem hsa)
              refine ⟨v', ?_, by simpa [List.getD, List.getElem?_eq_getElem hsa] using k2⟩
              rw [Array.getElem?_append_left (by simp; omega)]
              simpa using k1
            · refine ⟨undef, ?_, ?_⟩
              · rw [Array.getElem?_append_right (by simp; omega)]
                rw [Array.getElem?_replicate, if_pos (by simp; omega)]
              · rw [List.getD, List.getElem?_eq_none (by omega)]
                exact .tuple _ _ rfl (fun i a => by simp at a)
          refine wpIn_mono (W_sound .wide (nodupB_spec h1) c b hcb (.inl rfl) _ _ H h σ H w σ _ w [] he hr (Ext.refl _ _ _ _) trivial) ?_
          intro e a' w' hq
          have last : ∀ fr H2 σ' ds0, ER σ' fn.ntmps sl [] ds0 fr [] a' → resO r fr H2 = some v ∧ H2 = H' → ∀ (ds : List Deferred) (w' : World), HR ng σ' H2.get w' → Ext H.n σ H.get w H2.n σ' H2.get w' → DM w.heap.size σ' w' ds →
              LeavesInM Fence.wide 0 P fn a'.tmps (fun e w' => ∃ v' σ', e = .returned v' ∧ HR ng σ' H'.get w' ∧ Ext H.n σ H.get w H'.n σ' H'.get w' ∧ VR σ' v v') ds .returning w' := by
            rintro fr H2 σ' ds0 k1 ⟨hres, rfl⟩ ds
            induction ds with
            | nil =>
              intro w' k2 k3 _
              simp only [resO, Option.map_eq_some_iff] at hres
              obtain ⟨us, hus, rfl⟩ := hres
              obtain ⟨vs, m1, m2⟩ := compRes_sound k1 (P := P) (w := w') k2 fn.results.toList r hcr us hus
              have hrun : (results fn a'.tmps).run P w' = .ok (if h : vs.length = 1 then vs[0] else .tuple vs.toArray) w' := by
                unfold results
                rw [Array.mapM_eq_mapM_toList]
                simp only [Sem.run_bind, Sem.run_map]
                refine (congrArg (fun r => Result.andThen (Result.andThen r _) _) m1).trans ?_
                simp only [Result.andThen_ok, Sem.run_pure]
                by_cases h1 : vs.length = 1 <;> simp [h1]
              refine ⟨_, hrun, _, σ', rfl, k2, k3, ?_⟩
              have ml := m2.length
              unfold tupV
              split
              · rename_i u
                match vs, m2 with
                | [u], .cons hu .nil => simpa using hu
              · rename_i hne
                have h1 : ¬ vs.length = 1 := by
                  intro h1
                  rw [← ml] at h1
                  match us, h1 with
                  | [i], _ => exact hne i rfl
                rw [dif_neg h1]
                exact VR.tuple_of m2
            | cons d ds ih =>
              rintro w' k2 k3 ⟨⟨D, rfl, q2, q3, q4, q5⟩, q6⟩
              refine ⟨by simp, .inl ⟨D, w'.putObj D (.deferred none), rfl, run_takeDeferred q3, ?_⟩⟩
              exact ih _ (k2.other (by simp) (fun b i hb => World.putObj_heap_other (q4 b i hb))) (k3.other (by simp) (fun k hk => World.putObj_heap_other (by omega)) rfl rfl rfl) (DM.shut q5 q6)
          cases e with
          | normal => obtain ⟨fr, H2, σ', ds, k1, k2, k3, k5, k4⟩ := hq; rw [← k1.dfr] at k5; exact last fr H2 σ' _ k1 k4 _ _ k2 k3 k5
          | ret => obtain ⟨fr, H2, σ', ds, k1, k2, k3, k5, k4⟩ := hq; rw [← k1.dfr] at k5; exact last fr H2 σ' _ k1 k4 _ _ k2 k3 k5
          | exit id => obtain ⟨fr, H2, σ', ds, k1, k2, k3, k5, k4⟩ := hq; exact k4.elim
          | goto l => exact hq.elim
          | panic ch => exact hq.elim
          | outgrown => exact hq.elim
        · cases hc
      · cases hc
theorem run_of {P : Program} {ng f : Nat} {sl : List Nat} {af : AFunc} (hc : compF P ng sl f = some af) {args : List Value} {H : AHeap} {R : Value → AHeap → Prop}
    (hargs : ∀ fn, P.funcs[f]? = some fn → args.length ≤ fn.ntmps)
    (h : W P ng af.body (fun e fr H2 => match e with | .normal | .ret => ∃ v, resO af.res fr H2 = some v ∧ R v H2 | _ => False) (initFr af.sl args) H) : ∃ v H', ARun P ng f args H v H' ∧ R v H' := by
  have h1 := W_grow (n := H.n) (Q' := fun e fr H2 => (match e with | .normal | .ret => ∃ v, resO af.res fr H2 = some v ∧ R v H2 | _ => False) ∧ H.n ≤ H2.n) af.body (Nat.le_refl _) (fun e fr H2 a b => ⟨a, b⟩) h
  obtain ⟨e, fr, H', ⟨h2, h3⟩, h4⟩ := W_out af.body h1
  obtain ⟨v, h5, h6⟩ : ∃ v, resO af.res fr H' = some v ∧ R v H' := by cases e <;> first | exact h2 | exact h2.elim
  refine ⟨v, H', run_of_W hc h3 hargs ?_, h6⟩
  refine W_mono ?_ h4
  rintro e' fr' H2 ⟨rfl, rfl, rfl⟩
  cases e' <;> first | exact ⟨h5, rfl⟩ | exact h2
end Go.AM

set_option linter.unusedSimpArgs false
set_option linter.unusedVariables false
namespace Go.AM
def setPs (sl : List Nat) : List Value → List Nat → List Value → List Value
  | fr, [], _ => fr
  | fr, _ :: _, [] => fr
  | fr, p :: ps, v :: vs => setPs sl (match posOf sl p with | some i => fr.set i v | none => fr) ps vs
theorem FV.setPs {σ : Sg} {sl : List Nat} (hnd : sl.Nodup) : ∀ {ps : List Nat} {fr : List Value} {tmps : Array Value} {vs vs' : List Value}, (∀ s ∈ sl, s < tmps.size) → FV σ sl fr tmps → VL σ vs vs' → ps.length = vs.length →
    FV σ sl (AM.setPs sl fr ps vs) ((ps.zip vs').foldl (fun t (p, v) => t.setIfInBounds p v) tmps) ∧ ((ps.zip vs').foldl (fun (t : Array Value) (p, v) => t.setIfInBounds p v) tmps).size = tmps.size
  | [], fr, tmps, vs, vs', _, h, _, _ => by cases vs <;> exact ⟨h, rfl⟩
  | p :: ps, fr, tmps, [], _, _, h, .nil, hl => by simp at hl
  | p :: ps, fr, tmps, v :: vs, v' :: vs', hN, h, .cons hv hvs, hl => by
    simp only [AM.setPs, List.zip_cons_cons, List.foldl_cons]
    have h1 : FV σ sl (match posOf sl p with | some i => fr.set i v | none => fr) (tmps.setIfInBounds p v') := by
      split
      · rename_i i hi
        have hti := posOf_get hi
        have hps : p < tmps.size := hN p (List.mem_of_getElem? hti)
        refine ⟨by simpa using h.1, ?_⟩
        intro j s u hj hu
        rw [List.getElem?_set] at hu
        by_cases hij : i = j
        · subst hij
          rw [hti] at hj; cases hj
          split at hu
          · split at hu
            · cases hu; exact ⟨v', by simp [hps], hv⟩
            · cases hu
          · rename_i h1; exact absurd rfl h1
        · rw [if_neg hij] at hu
          obtain ⟨u', k1, k2⟩ := h.2 j s u hj hu
          refine ⟨u', ?_, k2⟩
          have hne : p ≠ s := fun he => by
            subst he
            obtain ⟨l1, e1⟩ := List.getElem?_eq_some_iff.1 hti
            obtain ⟨l2, e2⟩ := List.getElem?_eq_some_iff.1 hj
            exact hij ((List.getElem_inj hnd).1 (e1.trans e2.symm))
          rw [Array.getElem?_setIfInBounds_ne hne]; exact k1
      · rename_i hi
        have hni := posOf_none hi
        refine ⟨h.1, ?_⟩
        intro j s u hj hu
        obtain ⟨u', k1, k2⟩ := h.2 j s u hj hu
        refine ⟨u', ?_, k2⟩
        have hne : p ≠ s := fun he => by subst he; exact hni (List.mem_of_getElem? hj)
        rw [Array.getElem?_setIfInBounds_ne hne]; exact k1
    obtain ⟨k1, k2⟩ := FV.setPs hnd (ps := ps) (vs := vs) (vs' := vs') (by simpa using hN) h1 hvs (by simpa using hl)
    exact ⟨k1, by rw [k2]; simp⟩
def roundQ (b : Nat) (R : Value → AHeap → Prop) : AQ := fun e _ H => match H.get b with
  | some (.loop true _ _ L) => (match e with
    | .normal => R (.bool true) (H.set b (.loop true .ready none L))
    | .ret => R (.bool false) (H.set b (.loop true .done (some .ret) L))
    | .exit id => R (.bool false) (H.set b (.loop true .done (some (.exit id)) L))
    | _ => False)
  | _ => False
theorem yield_of {P : Program} {ng b : Nat} {args : List Value} {H : AHeap} {R : Value → AHeap → Prop} {pe : Option Code} {L : LRec} {aa ab : ACode} (hg : H.get b = some (.loop true .ready pe L))
    (hca : compC P ng L.N L.sl L.assign = some aa) (hcb : compC P ng L.N L.sl L.body = some ab) (hrf : (noRF L.assign && noRF L.body) = true) (hsl : (nodupB L.sl && L.sl.all (· < L.N)) = true) (hps : L.ps.size = args.length)
    (h : W P ng aa (fun e fr1 H1 => e = .normal ∧ ∃ pe1 L1, H1.get b = some (.loop true .ready pe1 L1) ∧ W P ng ab (roundQ b R) fr1 (H1.set b (.loop true .busy pe1 L1))) (setPs L.sl L.fr L.ps.toList args) H) :
    ∃ v H', AYield P ng b args H v H' ∧ R v H' := by
  simp only [Bool.and_eq_true] at hrf hsl
  have hnd := nodupB_spec hsl.1
  have h1 := W_grow (n := H.n) (Q' := fun e fr1 H1 => (e = .normal ∧ ∃ pe1 L1, H1.get b = some (.loop true .ready pe1 L1) ∧ W P ng ab (roundQ b R) fr1 (H1.set b (.loop true .busy pe1 L1))) ∧ H.n ≤ H1.n) aa (Nat.le_refl _) (fun e fr H a b => ⟨a, b⟩) h
  obtain ⟨e1, fr1, H1, ⟨⟨rfl, pe1, L1, hg1, hw2⟩, hn1⟩, hwa⟩ := W_out aa h1
  have h2 := W_grow (n := H.n) (Q' := fun e fr H2 => roundQ b R e fr H2 ∧ H.n ≤ H2.n) ab (by simpa [AHeap.set] using hn1) (fun e fr H a b => ⟨a, b⟩) hw2
  obtain ⟨e2, fr2, H2, ⟨hq2, hn2⟩, hwb⟩ := W_out ab h2
  have key : ∀ (v : Value) (o2 : AO) (jump : Option Code) (st pe2 L2), H2.get b = some (.loop true st pe2 L2) → o2 = .loop true (if jump.isNone then .ready else .done) jump L2 → v = .bool jump.isNone →
      (match e2 with | .normal => jump = none | .ret => jump = some .ret | .exit id => jump = some (.exit id) | _ => False) → AYield P ng b args H v (H2.set b o2) := by
    rintro v o2 jump st pe2 L2 hg2 rfl rfl hj
    refine ⟨by simpa [AHeap.set] using hn2, ?_⟩
    intro σ w args' i hr hv hb
    obtain ⟨ob, g1, g2⟩ := hr.obj b i hb
    rw [hg] at g1; cases g1
    obtain ⟨fn, tmps, ds, q1, q2, q3⟩ := g2
    have hys : args'.toArray.size = L.ps.size := by rw [hps, hv.length]; simp
    have hy := run_yield (P := P) q1 hys
    refine ⟨fn, _, L.assign, L.body, hy, roundIn_of_wpIn trivial ?_⟩
    have hfv := FV.setPs hnd (ps := L.ps.toList) (vs := args) (vs' := args') (fun s hs => by rw [q2]; simpa using List.all_eq_true.1 hsl.2 s hs) q3 hv (by simpa using hps)
    have ez : ((L.ps.zip args'.toArray).foldl (fun (tmps : Array Value) (x : Tmp × Value) => tmps.setIfInBounds x.1 x.2) tmps) = ((L.ps.toList.zip args').foldl (fun (t : Array Value) (x : Nat × Value) => t.setIfInBounds x.1 x.2) tmps) := by
      rw [← Array.foldl_toList, Array.toList_zip]
    have he : ER σ L.N L.sl [] [] (setPs L.sl L.fr L.ps.toList args) [] { tmps := (L.ps.zip args'.toArray).foldl (fun (tmps : Array Value) (x : Tmp × Value) => tmps.setIfInBounds x.1 x.2) tmps, defers := [] } := by
      rw [ez]
      exact ⟨by rw [← q2]; exact hfv.2, hfv.1.1, rfl, hfv.1.2, fun i s v h => by simp at h, rfl⟩
    refine wpIn_mono (W_sound (.round i.c) (m := 0) hnd L.assign aa hca (.inr hrf.1) _ _ H hwa σ H w σ _ w [] he hr (Ext.refl _ _ _ _) trivial) ?_
    intro e a1 w1 hq
    have hen : e = .normal := by cases e <;> first | rfl | exact hq.elim | (obtain ⟨_, _, _, _, _, _, _, _, h, _⟩ := hq; cases h)
    subst hen
    obtain ⟨fr1', H1', σ1, ds1, k1, k2, k3, k5, _, rfl, rfl⟩ := hq
    have hb1 := k3.sub _ _ hb
    obtain ⟨ob1, g1, g2⟩ := k2.obj b i hb1
    rw [hg1] at g1; cases g1
    obtain ⟨fn1, tm1, dd1, r1, r2, r3⟩ := g2
    have hbr := run_beginRound (P := P) r1 rfl
    refine ⟨_, hbr, ?_⟩
    obtain ⟨p1, p2⟩ := put_own (o2 := .loop true .busy pe1 L1) (ob := .loop { state := .busy, pending := pe1, fn := fn1, tmps := tm1, params := L1.ps, assign := L1.assign, body := L1.body, defers := dd1 }) k2 hb1 hg1 rfl
      ⟨fn1, tm1, dd1, World.putObj_heap_same (k2.lt b i hb1), r2, r3⟩
    refine wpIn_mono (W_sound (.round i.c) (m := 0) hnd L.body ab hcb (.inr hrf.2) _ _ _ hwb σ H w σ1 _ _ ds1 k1 p1 (k3.trans p2) (k5.ext p2)) ?_
    intro e a2 w2 hq
    have fin : ∀ (fr : List Value) (H3 : AHeap) (σ2 : Sg), HR ng σ2 H3.get w2 → Ext H.n σ H.get w H3.n σ2 H3.get w2 → e = e2 ∧ fr = fr2 ∧ H3 = H2 →
        ∃ v' w', (Instr.endRound i.c jump).run P w2 = .ok v' w' ∧ ∃ v2 σ', Ending.returned v' = .returned v2 ∧ HR ng σ' (H2.set b (.loop true (if jump.isNone then .ready else .done) jump L2)).get w' ∧
          Ext H.n σ H.get w (H2.set b (.loop true (if jump.isNone then .ready else .done) jump L2)).n σ' (H2.set b (.loop true (if jump.isNone then .ready else .done) jump L2)).get w' ∧ VR σ' (.bool jump.isNone) v2 := by
      rintro fr H3 σ2 m1 m2 ⟨_, _, rfl⟩
      have hb2 := m2.sub _ _ hb
      obtain ⟨ob2, g1, g2⟩ := m1.obj b i hb2
      rw [hg2] at g1; cases g1
      obtain ⟨fn2, tm2, dd2, s1, s2, s3⟩ := g2
      have her := run_endRound (P := P) jump s1
      obtain ⟨t1, t2⟩ := put_own (o2 := .loop true (if jump.isNone then .ready else .done) jump L2) (ob := .loop { state := (if jump.isNone then .ready else .done), pending := jump, fn := fn2, tmps := tm2, params := L2.ps, assign := L2.assign, body := L2.body, defers := dd2 }) m1 hb2 hg2 rfl
        ⟨fn2, tm2, dd2, World.putObj_heap_same (m1.lt b i hb2), s2, s3⟩
      exact ⟨_, _, her, _, σ2, rfl, t1, m2.trans t2, .bool _⟩
    cases e with
    | normal =>
      obtain ⟨fr, H3, σ2, ds2, m0, m1, m2, m3, m4⟩ := hq
      have m5 := m4.1
      subst m5
      simp only at hj
      subst hj
      exact fin fr H3 σ2 m1 m2 m4
    | ret =>
      obtain ⟨fr, H3, σ2, ds2, m0, m1, m2, m3, m4⟩ := hq
      have m5 := m4.1
      subst m5
      simp only at hj
      subst hj
      exact fin fr H3 σ2 m1 m2 m4
    | exit id =>
      obtain ⟨fr, H3, σ2, ds2, m0, m1, m2, m3, m4⟩ := hq
      have m5 := m4.1
      subst m5
      simp only at hj
      subst hj
      exact fin fr H3 σ2 m1 m2 m4
    | goto t => exact hq.elim
    | panic ch => exact hq.elim
    | outgrown => exact hq.elim
  unfold roundQ at hq2
  split at hq2
  · rename_i st pe2 L2 hg2
    split at hq2
    · exact ⟨_, _, key _ _ none st pe2 L2 hg2 rfl rfl rfl, hq2⟩
    · exact ⟨_, _, key _ _ (some .ret) st pe2 L2 hg2 rfl rfl rfl, hq2⟩
    · exact ⟨_, _, key _ _ (some (.exit _)) st pe2 L2 hg2 rfl rfl rfl, hq2⟩
    · exact hq2.elim
  · exact hq2.elim
def rfs : Code → List (Code × Code)
  | .seq a b => rfs a ++ rfs b
  | .cond _ a b => rfs a ++ rfs b
  | .block _ a => rfs a
  | .loop a => rfs a
  | .rangeFunc _ _ a b => [(a, b)]
  | _ => []
def rfAt (P : Program) (f k : Nat) : Code × Code := ((((P.funcs[f]?).bind (·.body)).map rfs).getD [])[k]?.getD (.skip, .skip)
def rfA (P : Program) (f k : Nat) : Code := (rfAt P f k).1
def rfB (P : Program) (f k : Nat) : Code := (rfAt P f k).2
theorem W_rangeF {P : Program} {ng : Nat} {g : AX} {N : Nat} {sl : List Nat} {ps : Array Tmp} {a b : Code} {Q : AQ} {fr : List Value} {H : AHeap} {gf : FuncId} {first cap : Array Value} (hg : g.ev fr [] = .func (.func gf) first cap) (hb : Bodied P gf)
    (h : ∃ v H1, ARun P ng gf (first.toList ++ [.chan (some H.n)] ++ cap.toList) (H.alloc (.loop true .ready none ⟨N, sl, fr, ps, a, b⟩)) v H1 ∧ afterR Q fr H.n H1) : W P ng (.rangeF g N sl ps a b) Q fr H := by
  simp only [W, hg]; exact ⟨hb, h⟩
theorem afterR_ready {Q : AQ} {fr : List Value} {b : Nat} {H : AHeap} {L : LRec} (hg : H.get b = some (.loop true .ready none L)) (h : Q .normal fr (H.set b .dead)) : afterR Q fr b H := by
  unfold afterR; rw [hg]; exact ⟨by simp, h⟩
theorem afterR_ret {Q : AQ} {fr : List Value} {b : Nat} {H : AHeap} {L : LRec} (hg : H.get b = some (.loop true .done (some .ret) L)) (h : Q .ret fr (H.set b .dead)) : afterR Q fr b H := by
  unfold afterR; rw [hg]; exact ⟨by simp, h⟩
theorem afterR_exit {Q : AQ} {fr : List Value} {b id : Nat} {H : AHeap} {L : LRec} (hg : H.get b = some (.loop true .done (some (.exit id)) L)) (h : Q (.exit id) fr (H.set b .dead)) : afterR Q fr b H := by
  unfold afterR; rw [hg]; exact ⟨by simp, h⟩
end Go.AM

set_option linter.unusedSimpArgs false
set_option linter.unusedVariables false
namespace Go.AM
section
variable {P : Program} {ng : Nat} {H : AHeap} {K : Value → AHeap → Prop} {KF : List Value → AHeap → Prop} {fr tm : List Value}
theorem RW_nil : RW P ng [] fr tm H KF = KF fr H := _root_.id rfl
theorem RW_cons (op : AOp AX) (d : D) (r : List AOper) : RW P ng (⟨op, d, none⟩ :: r) fr tm H KF = stepA P ng (op.map (AX.ev fr tm)) H fun v H' => RW P ng r (d.frame v fr) (d.temps v tm) H' KF := by
  simp only [RW, wantA, if_true]
theorem RW_consg (op : AOp AX) (d : D) (x : AX) (b : Bool) (r : List AOper) : RW P ng (⟨op, d, some (x, b)⟩ :: r) fr tm H KF =
    if wantA (some (x, b)) fr tm then stepA P ng (op.map (AX.ev fr tm)) H fun v H' => RW P ng r (d.frame v fr) (d.temps v tm) H' KF else RW P ng r (d.frame undef fr) (d.temps undef tm) H KF := by
  simp only [RW]
theorem D_no (v : Value) : D.no.frame v fr = fr := _root_.id rfl
theorem D_no' (v : Value) : D.no.temps v tm = tm := _root_.id rfl
theorem D_tm (v : Value) : D.tm.frame v fr = fr := _root_.id rfl
theorem D_tm' (v : Value) : D.tm.temps v tm = v :: tm := _root_.id rfl
theorem D_fr (i : Nat) (v : Value) : (D.fr i).frame v fr = fr.set i v := _root_.id rfl
theorem D_fr' (i : Nat) (v : Value) : (D.fr i).temps v tm = tm := _root_.id rfl
theorem AX_fr (i : Nat) : (AX.fr i).ev fr tm = fr.getD i undef := _root_.id rfl
theorem AX_tm (i : Nat) : (AX.tm i).ev fr tm = tm.getD i undef := _root_.id rfl
theorem AX_c (v : Value) : (AX.c v).ev fr tm = v := _root_.id rfl
theorem AX_g (n : Nat) : (AX.g n).ev fr tm = ptr n 0 := _root_.id rfl
theorem AX_fn (f : FuncId) : (AX.fn f).ev fr tm = .func (.func f) #[] #[] := _root_.id rfl
theorem stepA_of {op : AOp Value} {v : Value} {H' : AHeap} (h : asem op H = some (v, H')) (hk : K v H') : stepA P ng op H K := by
  cases op <;> simp only [stepA] <;> first
    | exact ⟨v, H', h, hk⟩
    | (simp [asem] at h; done)
theorem stepS {op : AOp Value} {v : Value} {H' : AHeap} (h : asem op H = some (v, H')) : stepA P ng op H K = K v H' := by
  apply propext
  constructor
  · intro hs
    cases op <;> simp only [stepA] at hs <;> first
      | (obtain ⟨v2, H2, h1, h2⟩ := hs; rw [h] at h1; cases h1; exact h2)
      | (simp [asem] at h; done)
  · exact stepA_of h
theorem stepC {op : AOp Value} {p : Prop} [Decidable p] {v : Value} {H' : AHeap} (h : asem op H = if p then some (v, H') else none) (hc : ∀ f xs, op ≠ .callf f xs) (hc' : ∀ f xs, op ≠ .callv f xs) (hi : ∀ nm x xs, op ≠ .inv nm x xs) : stepA P ng op H K = (p ∧ K v H') := by
  by_cases hp : p
  · rw [if_pos hp] at h
    rw [stepS h]
    simp [hp]
  · rw [if_neg hp] at h
    simp only [hp, false_and, eq_iff_iff, iff_false]
    intro hs
    cases op <;> simp only [stepA] at hs <;> first
      | (obtain ⟨v2, H2, h1, h2⟩ := hs; rw [h] at h1; cases h1; done)
      | exact hc _ _ rfl
      | exact hc' _ _ rfl
      | exact hi _ _ _ rfl
theorem s_mov (x : Value) : stepA P ng (.mov x) H K = K x H := stepS rfl
theorem s_pick (t : Bool) (a b : Value) : stepA P ng (.pick (.bool t) a b) H K = K (if t then a else b) H := stepS rfl
theorem s_new (e esz : Nat) (z : List Value) : stepA P ng (.new e esz z) H K = (z.all Value.oneCell' = true ∧ K (ptr H.n 0) (H.alloc (.cells true false esz z e))) := stepC rfl (by simp) (by simp) (by simp)
theorem s_box (e esz : Nat) (x : Value) : stepA P ng (.box e esz x) H K = (x.cells.toList.all Value.oneCell' = true ∧ K (ptr H.n 0) (H.alloc (.cells true false esz x.cells.toList e))) := stepC rfl (by simp) (by simp) (by simp)
theorem s_build (z : List Value) (ps : List (Nat × Nat × Value)) : stepA P ng (.build z ps) H K = ∃ c, fillA z ps = some c ∧ K (.agg c.toArray) H := by
  simp only [stepA, asem, Option.map_eq_some_iff, Prod.mk.injEq]
  apply propext
  constructor
  · rintro ⟨v, H', ⟨c, h1, rfl, rfl⟩, h2⟩; exact ⟨c, h1, h2⟩
  · rintro ⟨c, h1, h2⟩; exact ⟨_, _, ⟨c, h1, rfl, rfl⟩, h2⟩
theorem s_bslice (e esz n : Nat) (z : List Value) (ps : List (Nat × Nat × Value)) : stepA P ng (.bslice e esz n z ps) H K = ∃ c, fillA z ps = some c ∧ (c.all Value.oneCell' = true ∧ c.length = n * esz) ∧ K (slc H.n 0 n n) (H.alloc (.cells true false esz c e)) := by
  simp only [stepA, asem]
  apply propext
  constructor
  · rintro ⟨v, H', h, hk⟩
    split at h
    · split at h
      · rename_i c hc hh; cases h; exact ⟨c, hc, by simpa using hh, hk⟩
      · cases h
    · cases h
  · rintro ⟨c, h1, h2, h3⟩
    refine ⟨_, _, ?_, h3⟩
    rw [h1]; simp only; rw [if_pos (by simpa using h2)]
theorem s_load1 (b o : Nat) : stepA P ng (.load1 (ptr b o)) H K = ∃ v, cellA H b o = some v ∧ K v H := by
  simp only [stepA, asem, ptr, Option.map_eq_some_iff, Prod.mk.injEq]
  apply propext
  constructor
  · rintro ⟨v, H', ⟨c, h1, rfl, rfl⟩, h2⟩; exact ⟨c, h1, h2⟩
  · rintro ⟨c, h1, h2⟩; exact ⟨_, _, ⟨c, h1, rfl, rfl⟩, h2⟩
theorem s_loadn (n b o : Nat) : stepA P ng (.loadn n (ptr b o)) H K = ∃ c, rangeA H b o n = some c ∧ K (.agg c.toArray) H := by
  simp only [stepA, asem, ptr, Option.map_eq_some_iff, Prod.mk.injEq]
  apply propext
  constructor
  · rintro ⟨v, H', ⟨c, h1, rfl, rfl⟩, h2⟩; exact ⟨c, h1, h2⟩
  · rintro ⟨c, h1, h2⟩; exact ⟨_, _, ⟨c, h1, rfl, rfl⟩, h2⟩
theorem s_store1 {b o : Nat} {x : Value} {room : Bool} {esz e : Nat} {c : List Value} (h : H.get b = some (.cells true room esz c e)) : stepA P ng (.store1 (ptr b o) x) H K = ((o < c.length ∧ x.oneCell' = true) ∧ K undef (H.set b (.cells true room esz (c.set o x) e))) := by
  refine stepC ?_ (by simp) (by simp) (by simp)
  simp only [asem, ptr, h]
theorem s_nilck (b o : Nat) : stepA P ng (.nilck (ptr b o)) H K = K (ptr b o) H := stepS rfl
theorem s_bin (op : BinOp) (x y : Value) : stepA P ng (.bin op x y) H K = ∃ v, binA op x y = some v ∧ K v H := by
  simp only [stepA, asem, Option.map_eq_some_iff, Prod.mk.injEq]
  apply propext
  constructor
  · rintro ⟨v, H', ⟨c, h1, rfl, rfl⟩, h2⟩; exact ⟨c, h1, h2⟩
  · rintro ⟨c, h1, h2⟩; exact ⟨_, _, ⟨c, h1, rfl, rfl⟩, h2⟩
theorem s_eqv (k : Nat) (neg : Bool) (x y : Value) : stepA P ng (.eqv k neg x y) H K = ∃ b, eqA k x y = some b ∧ K (.bool (if neg then !b else b)) H := by
  simp only [stepA, asem, Option.map_eq_some_iff, Prod.mk.injEq]
  apply propext
  constructor
  · rintro ⟨v, H', ⟨c, h1, rfl, rfl⟩, h2⟩; exact ⟨c, h1, h2⟩
  · rintro ⟨c, h1, h2⟩; exact ⟨_, _, ⟨c, h1, rfl, rfl⟩, h2⟩
theorem s_not (b : Bool) : stepA P ng (.un .not (.bool b)) H K = K (.bool (!b)) H := stepS rfl
theorem s_neg (k : IntKind) (n : Int) : stepA P ng (.un .neg (.int k n)) H K = K (.int k (k.wrap (0 - n))) H := stepS rfl
theorem s_i2i (k k' : IntKind) (n : Int) : stepA P ng (.i2i k (.int k' n)) H K = K (.int k (k.wrap n)) H := stepS rfl
theorem s_s2s (s : ByteArray) : stepA P ng (.s2s (.string s)) H K = K (.string s) H := stepS rfl
theorem s_s2b (e : Nat) (s : ByteArray) : stepA P ng (.s2b e (.string s)) H K = K (slc H.n 0 s.size s.size) (H.alloc (.cells true true 1 (s.data.toList.map fun b => .int .u8 b.toNat) e)) := stepS rfl
theorem s_iface (t : TypeId) (x : Value) : stepA P ng (.iface t x) H K = K (.iface t x) H := stepS rfl
theorem s_mkfn (fn : Fn) (xs ys : List Value) : stepA P ng (.mkfn fn xs ys) H K = K (.func fn xs.toArray ys.toArray) H := stepS rfl
theorem s_faddr (off b o : Nat) : stepA P ng (.faddr off (ptr b o)) H K = K (ptr b (o + off)) H := stepS rfl
theorem s_fld1 (off : Nat) (cs : Array Value) : stepA P ng (.fld1 off (.agg cs)) H K = ∃ v, cs.toList[off]? = some v ∧ K v H := by
  simp only [stepA, asem, Option.map_eq_some_iff, Prod.mk.injEq]
  apply propext
  constructor
  · rintro ⟨v, H', ⟨c, h1, rfl, rfl⟩, h2⟩; exact ⟨c, h1, h2⟩
  · rintro ⟨c, h1, h2⟩; exact ⟨_, _, ⟨c, h1, rfl, rfl⟩, h2⟩
theorem s_iaddr (esz b o n k : Nat) (kd : IntKind) (i : Int) : stepA P ng (.iaddr esz (slc b o n k) (.int kd i)) H K = ((0 ≤ i ∧ i < (n : Int)) ∧ K (ptr b (o + i.toNat * esz)) H) := by
  exact stepC rfl (by simp) (by simp) (by simp)
theorem s_idxs (s : ByteArray) (kd : IntKind) (i : Int) : stepA P ng (.idxs (.string s) (.int kd i)) H K = ((0 ≤ i ∧ i < (s.size : Int)) ∧ ∃ b, s.data.toList[i.toNat]? = some b ∧ K (.int .u8 b.toNat) H) := by
  simp only [stepA, asem]
  split
  · rename_i h
    simp only [Option.map_eq_some_iff, Prod.mk.injEq]
    apply propext
    constructor
    · rintro ⟨v, H', ⟨c, h1, rfl, rfl⟩, h2⟩; exact ⟨h, c, h1, h2⟩
    · rintro ⟨_, c, h1, h2⟩; exact ⟨_, _, ⟨c, h1, rfl, rfl⟩, h2⟩
  · rename_i h; simp [h]
theorem s_assert (t u : TypeId) (z v : Value) (ok : Bool) : stepA P ng (.assert t z ok (.iface u v)) H K = if u = t then K (if ok then .tuple #[v, .bool true] else v) H else (ok = true ∧ K (.tuple #[z, .bool false]) H) := by
  by_cases h : u = t
  · rw [if_pos h]
    exact stepS (by simp [asem, h])
  · rw [if_neg h]
    exact stepC (by simp [asem, h]) (by simp) (by simp) (by simp)
theorem s_extract (vs : Array Value) (i : Nat) : stepA P ng (.extract (.tuple vs) i) H K = ∃ v, vs.toList[i]? = some v ∧ K v H := by
  simp only [stepA, asem, Option.map_eq_some_iff, Prod.mk.injEq]
  apply propext
  constructor
  · rintro ⟨v, H', ⟨c, h1, rfl, rfl⟩, h2⟩; exact ⟨c, h1, h2⟩
  · rintro ⟨c, h1, h2⟩; exact ⟨_, _, ⟨c, h1, rfl, rfl⟩, h2⟩
theorem s_len (a : Option Addr) (n k : Nat) : stepA P ng (.len false (.slice a n k)) H K = K (.int .i64 n) H := stepS rfl
theorem s_lens (s : ByteArray) : stepA P ng (.len true (.string s)) H K = K (.int .i64 s.size) H := stepS rfl
theorem s_lenc (b o n k : Nat) : stepA P ng (.len false (slc b o n k)) H K = K (.int .i64 n) H := stepS rfl
theorem s_callf (f : FuncId) (xs : List Value) : stepA P ng (.callf f xs) H K = ∃ v H', ARun P ng f xs H v H' ∧ K v H' := _root_.id rfl
theorem s_app {e esz bytes : Nat} {s x v : Value} {a : Option Addr} {m k : Nat} {news : List Value} {H' : AHeap} (hx : x = .slice a m k) (h1 : elemsA H esz x = some news) (h2 : appA H e esz bytes s m news = some (v, H')) :
    stepA P ng (.app e esz bytes s x) H K = K v H' := by
  subst hx
  exact stepS (by simp only [asem, h1, h2])
theorem alloc_n (o : AO) : (H.alloc o).n = H.n + 1 := _root_.id rfl
theorem set_n (b : Nat) (o : AO) : (H.set b o).n = H.n := _root_.id rfl
theorem alloc_get (o : AO) (b : Nat) : (H.alloc o).get b = if b = H.n then some o else H.get b := by
  split
  · rename_i h; subst h; exact AHeap.get_alloc_new H o
  · rename_i h; exact AHeap.get_alloc_ne H o h
def cellsOf (l : List UInt8) : List Value := l.map fun b => .int .u8 b.toNat
theorem bytesOf_cellsOf : ∀ l : List UInt8, bytesOf (cellsOf l) = some l
  | [] => rfl
  | b :: l => by
    have h1 := bytesOf_cellsOf l
    unfold cellsOf at h1 ⊢
    simp only [List.map_cons, bytesOf, h1, Option.map_some, Option.some.injEq, List.cons.injEq, and_true]
    simp
theorem cellsOf_length (l : List UInt8) : (cellsOf l).length = l.length := by simp [cellsOf]
theorem cellsOf_append (l m : List UInt8) : cellsOf (l ++ m) = cellsOf l ++ cellsOf m := by simp [cellsOf]
theorem cellsOf_one (l : List UInt8) : ∀ v ∈ cellsOf l, v.oneCell' = true := by
  intro v hv
  simp only [cellsOf, List.mem_map] at hv
  obtain ⟨b, _, rfl⟩ := hv
  rfl
end
end Go.AM

set_option linter.unusedSimpArgs false
set_option linter.unusedVariables false
namespace Go.AM
section
variable {P : Program} {ng : Nat} {H : AHeap} {Q : AQ} {fr tm : List Value}
theorem W_skip : W P ng .skip Q fr H = Q .normal fr H := _root_.id rfl
theorem W_reg (l : List AOper) : W P ng (.reg l) Q fr H = RW P ng l fr [] H (Q .normal) := _root_.id rfl
theorem W_dreg (l : List (AOper × List Nat)) : W P ng (.dreg l) Q fr H = RD P ng l fr [] H [] (Q .normal) := _root_.id rfl
theorem W_seq (a b : ACode) : W P ng (.seq a b) Q fr H = W P ng a (Q.andThen (W P ng b Q)) fr H := _root_.id rfl
theorem W_cond (c : AX) (t e : ACode) : W P ng (.cond c t e) Q fr H = match c.ev fr [] with
    | .bool b => if b then W P ng t Q fr H else W P ng e Q fr H
    | _ => False := rfl
theorem W_block (id : Nat) (c : ACode) : W P ng (.block id c) Q fr H = W P ng c (Q.inBlock id) fr H := _root_.id rfl
theorem W_exit (id : Nat) : W P ng (.exit id) Q fr H = Q (.exit id) fr H := _root_.id rfl
theorem W_ret : W P ng .ret Q fr H = Q .ret fr H := _root_.id rfl
theorem W_loop {c : ACode} (I : Nat → List Value → AHeap → Prop) (n : Nat) (h0 : I n fr H) (hs : ∀ k fr H, I k fr H → W P ng c (Q.andThen fun fr H => ∃ k', k' < k ∧ I k' fr H) fr H) : W P ng (.loop c) Q fr H :=
  ⟨I, n, h0, hs⟩
theorem getD_nil' (n : Nat) : ([] : List Value).getD n undef = undef := _root_.id rfl
def argsOK (P : Program) (f n : Nat) : Bool := match P.funcs[f]? with
  | some fn => decide (n ≤ fn.ntmps)
  | none => true
theorem walk {f : Nat} {sl : List Nat} {af : AFunc} (hc : compF P ng sl f = some af) {args : List Value} {R : Value → AHeap → Prop} (hargs : argsOK P f args.length = true)
    (h : W P ng af.body (fun e fr H2 => match e with | .normal | .ret => ∃ v, resO af.res fr H2 = some v ∧ R v H2 | _ => False) (initFr af.sl args) H) : ∃ v H', ARun P ng f args H v H' ∧ R v H' :=
  run_of hc (fun fn hf => by unfold argsOK at hargs; rw [hf] at hargs; simpa using hargs) h
theorem wrap_i64 {n : Int} (h1 : -9223372036854775808 ≤ n) (h2 : n ≤ 9223372036854775807) : IntKind.i64.wrap n = n := by
  simp only [IntKind.wrap, IntKind.bits, IntKind.signed]
  simp
  split <;> omega
theorem wrap_u8 (n : Int) : IntKind.u8.wrap n = n % 256 := by simp [IntKind.wrap, IntKind.bits, IntKind.signed]
theorem wrap_u16 (n : Int) : IntKind.u16.wrap n = n % 65536 := by simp [IntKind.wrap, IntKind.bits, IntKind.signed]
theorem wrap_u32 (n : Int) : IntKind.u32.wrap n = n % 4294967296 := by simp [IntKind.wrap, IntKind.bits, IntKind.signed]
theorem wrap_u64 (n : Int) : IntKind.u64.wrap n = n % 18446744073709551616 := by simp [IntKind.wrap, IntKind.bits, IntKind.signed]
variable (k : IntKind) (a b : Int)
theorem b_add : binA .add (.int k a) (.int k b) = some (.int k (k.wrap (a + b))) := by simp [binA, intA]
theorem b_sub : binA .sub (.int k a) (.int k b) = some (.int k (k.wrap (a - b))) := by simp [binA, intA]
theorem b_mul : binA .mul (.int k a) (.int k b) = some (.int k (k.wrap (a * b))) := by simp [binA, intA]
theorem b_eql : binA .eql (.int k a) (.int k b) = some (.bool (a == b)) := by simp [binA, intA]
theorem b_neq : binA .neq (.int k a) (.int k b) = some (.bool (a != b)) := by simp [binA, intA]
theorem b_lss : binA .lss (.int k a) (.int k b) = some (.bool (decide (a < b))) := by simp [binA, intA]
theorem b_leq : binA .leq (.int k a) (.int k b) = some (.bool (decide (a ≤ b))) := by simp [binA, intA]
theorem b_gtr : binA .gtr (.int k a) (.int k b) = some (.bool (decide (b < a))) := by simp [binA, intA]
theorem b_geq : binA .geq (.int k a) (.int k b) = some (.bool (decide (b ≤ a))) := by simp [binA, intA]
theorem b_and : binA .and (.int k a) (.int k b) = some (.int k (k.wrap (BitVec.ofInt k.bits a &&& BitVec.ofInt k.bits b).toNat)) := by simp [binA, intA]
theorem b_or : binA .or (.int k a) (.int k b) = some (.int k (k.wrap (BitVec.ofInt k.bits a ||| BitVec.ofInt k.bits b).toNat)) := by simp [binA, intA]
theorem b_xor : binA .xor (.int k a) (.int k b) = some (.int k (k.wrap (BitVec.ofInt k.bits a ^^^ BitVec.ofInt k.bits b).toNat)) := by simp [binA, intA]
theorem b_rem (h : b ≠ 0) : binA .rem (.int k a) (.int k b) = some (.int k (a.tmod b)) := by simp [binA, intA, h]
theorem b_shl (k' : IntKind) (h : 0 ≤ b) : binA .shl (.int k a) (.int k' b) = some (.int k (k.wrap (a * 2 ^ (min b.toNat k.bits)))) := by simp [binA, h]
theorem b_shr (k' : IntKind) (h : 0 ≤ b) : binA .shr (.int k a) (.int k' b) = some (.int k (a.fdiv (2 ^ (min b.toNat k.bits)))) := by simp [binA, h]
theorem b_seql (a b : ByteArray) : binA .eql (.string a) (.string b) = some (.bool (decide (a = b))) := by simp [binA, strA]
theorem b_sneq (a b : ByteArray) : binA .neq (.string a) (.string b) = some (.bool (!decide (a = b))) := by simp [binA, strA]
theorem b_slss (a b : ByteArray) : binA .lss (.string a) (.string b) = some (.bool (Op.bytesLess a.data.toList b.data.toList)) := by simp [binA, strA]
theorem b_sadd {a b : ByteArray} (h : a.size + b.size ≤ 140737488355328) : binA .add (.string a) (.string b) = some (.string (a ++ b)) := by simp [binA, strA, h]
structure Keeps (H0 H : AHeap) : Prop where
  n : H0.n ≤ H.n
  get : ∀ b, b < H0.n → H.get b = H0.get b
theorem Keeps.refl (H : AHeap) : Keeps H H := ⟨Nat.le_refl _, fun _ _ => rfl⟩
theorem Keeps.trans {A B C : AHeap} (h : Keeps A B) (k : Keeps B C) : Keeps A C := ⟨Nat.le_trans h.n k.n, fun b hb => (k.get b (Nat.lt_of_lt_of_le hb h.n)).trans (h.get b hb)⟩
theorem Keeps.alloc {A B : AHeap} (h : Keeps A B) (o : AO) : Keeps A (B.alloc o) := ⟨by rw [alloc_n]; have := h.n; omega, fun b hb => by
  rw [alloc_get, if_neg (by have := h.n; omega)]; exact h.get b hb⟩
theorem Keeps.at_ {A B : AHeap} (h : Keeps A B) {b : Nat} {o : AO} (hb : A.get b = some o) : B.get b = some o := by rw [h.get b (AHeap.get_lt hb)]; exact hb
structure Chg (S : List Nat) (H H' : AHeap) : Prop where
  n : H.n ≤ H'.n
  get : ∀ b, b < H.n → b ∉ S → H'.get b = H.get b
theorem Chg.refl (S : List Nat) (H : AHeap) : Chg S H H := ⟨Nat.le_refl _, fun _ _ _ => rfl⟩
theorem Keeps.chg {A B : AHeap} (h : Keeps A B) (S : List Nat) : Chg S A B := ⟨h.n, fun b hb _ => h.get b hb⟩
theorem Chg.trans {S T : List Nat} {A B C : AHeap} (h : Chg S A B) (k : Chg T B C) (hT : ∀ x ∈ T, x ∈ S ∨ A.n ≤ x) : Chg S A C :=
  ⟨Nat.le_trans h.n k.n, fun b hb hx => (k.get b (Nat.lt_of_lt_of_le hb h.n) (fun e => by rcases hT b e with h1 | h1; exact hx h1; omega)).trans (h.get b hb hx)⟩
theorem Keeps.chg_trans {S : List Nat} {A B C : AHeap} (h : Keeps A B) (k : Chg S B C) (hS : ∀ x ∈ S, A.n ≤ x) : Keeps A C :=
  ⟨Nat.le_trans h.n k.n, fun b hb => (k.get b (Nat.lt_of_lt_of_le hb h.n) (fun e => by have := hS b e; omega)).trans (h.get b hb)⟩
theorem Chg.mono {S T : List Nat} {A B : AHeap} (h : Chg S A B) (hS : ∀ x ∈ S, x ∈ T) : Chg T A B := ⟨h.n, fun b hb hx => h.get b hb (fun e => hx (hS b e))⟩
theorem Chg.set (H : AHeap) {b : Nat} (hb : b < H.n) (o : AO) : Chg [b] H (H.set b o) := ⟨Nat.le_refl _, fun x hx hn => AHeap.get_set_other H (fun e => hn (by simp [e])) hb o⟩
theorem Chg.alloc {S : List Nat} {A B : AHeap} (h : Chg S A B) (o : AO) : Chg S A (B.alloc o) := h.trans ((Keeps.refl B).alloc o |>.chg []) (by simp)
theorem Chg.at_ {S : List Nat} {A B : AHeap} (h : Chg S A B) {b : Nat} {o : AO} (hb : A.get b = some o) (hS : b ∉ S) : B.get b = some o := by rw [h.get b (AHeap.get_lt hb) hS]; exact hb
def blk : Value → Option Nat
  | .pointer (some a) => some a.block
  | .slice (some a) _ _ => some a.block
  | _ => none
def blkL (v : Value) : List Nat := (blk v).toList
theorem mem_blkL {v : Value} {b : Nat} : b ∈ blkL v ↔ blk v = some b := by unfold blkL; cases blk v <;> simp [eq_comm]
def Fresh (n : Nat) (v : Value) : Prop := ∀ b, blk v = some b → n ≤ b
structure BS (H : AHeap) (v : Value) (l : List UInt8) : Prop where
  sh : ∃ a k, v = .slice a l.length k
  el : elemsA H 1 v = some (cellsOf l)
theorem BS.chg {H H' : AHeap} {v : Value} {l : List UInt8} {S : List Nat} (h : BS H v l) (k : Chg S H H') (hS : ∀ x ∈ blkL v, x ∉ S) : BS H' v l := by
  refine ⟨h.sh, ?_⟩
  have h2 := h.el
  obtain ⟨a, c, rfl⟩ := h.sh
  match a, h2 with
  | none, h2 => exact h2
  | some ⟨b, o, none⟩, h2 =>
    have hb := k.get b
    simp only [elemsA] at h2 ⊢
    cases hg : H.get b with
    | none => rw [hg] at h2; cases h2
    | some ob =>
      have := k.at_ hg (hS b (mem_blkL.2 rfl))
      rw [hg] at h2
      rw [this]; exact h2
  | some ⟨b, o, some _⟩, h2 => simpa [elemsA] using h2
theorem BS.split {H : AHeap} {v : Value} {l : List UInt8} (h : BS H v l) (hl : l ≠ []) : ∃ b o k, v = slc b o l.length k ∧ ∀ (i : Nat) (hi : i < l.length), cellA H b (o + i) = some (.int .u8 l[i].toNat) := by
  have h2 := h.el
  obtain ⟨a, c, rfl⟩ := h.sh
  match a, h2 with
  | none, h2 =>
    simp only [elemsA, Option.some.injEq] at h2
    have := congrArg List.length h2
    rw [cellsOf_length] at this
    exact absurd (List.length_eq_zero_iff.1 this.symm) hl
  | some ⟨b, o, none⟩, h2 =>
    refine ⟨b, o, c, rfl, fun i hi => ?_⟩
    simp only [elemsA] at h2
    unfold cellA
    split at h2
    · rename_i own room esz cc e hg
      split at h2
      · simp only [Option.some.injEq] at h2
        have h3 : ((cc.drop o).take (l.length * 1))[i]? = (cellsOf l)[i]? := by rw [h2]
        rw [List.getElem?_take_of_lt (by omega), List.getElem?_drop] at h3
        rw [h3]
        simp [cellsOf, hi]
      · cases h2
    · cases h2
  | some ⟨b, o, some _⟩, h2 => simp [elemsA] at h2; exact absurd h2.1 hl
theorem BS.keeps {H H' : AHeap} {v : Value} {l : List UInt8} (h : BS H v l) (k : Keeps H H') : BS H' v l := h.chg (k.chg []) (by simp)
theorem BS.nil (H : AHeap) : BS H (.slice none 0 0) [] := ⟨⟨_, _, rfl⟩, rfl⟩
def AP (H : AHeap) (e esz : Nat) (v : Value) (n : Nat) (c : List Value) : Prop :=
  (v = .slice none 0 0 ∧ n = 0 ∧ c = []) ∨ ∃ b room, v = slc b 0 n n ∧ c.length = n * esz ∧ H.get b = some (.cells true room esz c e)
theorem AP.elems {H : AHeap} {e esz : Nat} {v : Value} {n : Nat} {c : List Value} (h : AP H e esz v n c) : elemsA H esz v = some c := by
  rcases h with ⟨rfl, rfl, rfl⟩ | ⟨b, room, rfl, h1, h2⟩
  · rfl
  · simp only [elemsA, slc, h2]
    rw [if_pos (by omega), List.drop_zero, ← h1, List.take_length]
theorem AP.shape {H : AHeap} {e esz : Nat} {v : Value} {n : Nat} {c : List Value} (h : AP H e esz v n c) : ∃ a, v = .slice a n n := by
  rcases h with ⟨rfl, rfl, rfl⟩ | ⟨b, room, rfl, h1, h2⟩
  · exact ⟨_, rfl⟩
  · exact ⟨_, rfl⟩
theorem AP.bs {H : AHeap} {e : Nat} {v : Value} {n : Nat} {l : List UInt8} (h : AP H e 1 v n (cellsOf l)) : BS H v l := by
  have hn : n = l.length := by
    rcases h with ⟨_, rfl, h3⟩ | ⟨b, room, rfl, h1, h2⟩
    · have := congrArg List.length h3; rw [cellsOf_length] at this; simpa using this.symm
    · rw [cellsOf_length] at h1; omega
  obtain ⟨a, ha⟩ := h.shape
  exact ⟨⟨a, n, by rw [← hn]; exact ha⟩, h.elems⟩
theorem AP.chg {A B : AHeap} {S : List Nat} {e esz : Nat} {v : Value} {n : Nat} {c : List Value} (h : AP A e esz v n c) (k : Chg S A B) (hS : ∀ x ∈ blkL v, x ∉ S) : AP B e esz v n c := by
  rcases h with ⟨rfl, rfl, rfl⟩ | ⟨b, room, rfl, h1, h2⟩
  · exact .inl ⟨rfl, rfl, rfl⟩
  · exact .inr ⟨b, room, rfl, h1, k.at_ h2 (hS b (mem_blkL.2 rfl))⟩
theorem AP.lt {A : AHeap} {e esz : Nat} {v : Value} {n : Nat} {c : List Value} (h : AP A e esz v n c) {b : Nat} (hb : blk v = some b) : b < A.n := by
  rcases h with ⟨rfl, rfl, rfl⟩ | ⟨b', room, rfl, h1, h2⟩
  · cases hb
  · cases hb; exact AHeap.get_lt h2
theorem AP.keeps {A B : AHeap} {e esz : Nat} {v : Value} {n : Nat} {c : List Value} (h : AP A e esz v n c) (k : Keeps A B) : AP B e esz v n c := by
  rcases h with ⟨rfl, rfl, rfl⟩ | ⟨b, room, rfl, h1, h2⟩
  · exact .inl ⟨rfl, rfl, rfl⟩
  · exact .inr ⟨b, room, rfl, h1, k.at_ h2⟩
theorem AP.app {H : AHeap} {e esz bytes : Nat} {v : Value} {n m : Nat} {c news : List Value} (h : AP H e esz v n c) (hm : news.length = m * esz) (hs : (n + m) * bytes ≤ 140737488355328 ∧ n + m ≤ 140737488355328) :
    ∃ v' H', appA H e esz bytes v m news = some (v', H') ∧ AP H' e esz v' (n + m) (c ++ news) ∧ Chg (blkL v) H H' ∧ (blk v' = blk v ∨ blk v' = some H.n) := by
  rcases h with ⟨rfl, rfl, rfl⟩ | ⟨b, room, rfl, h1, h2⟩
  · simp only [appA]
    by_cases hm0 : m = 0
    · subst hm0
      have : news = [] := by rw [← List.length_eq_zero_iff]; omega
      subst this
      exact ⟨_, _, by simp, .inl ⟨rfl, rfl, rfl⟩, Chg.refl _ _, .inl rfl⟩
    · refine ⟨slc H.n 0 m m, H.alloc (.cells true true esz news e), by simp only [Nat.zero_add] at hs; simp [hm0, hs], .inr ⟨H.n, true, by simp, by simpa using hm, by simpa using AHeap.get_alloc_new H _⟩, (Chg.refl _ _).alloc _, .inr rfl⟩
  · simp only [appA, slc]
    by_cases hm0 : m = 0
    · subst hm0
      have : news = [] := by rw [← List.length_eq_zero_iff]; omega
      subst this
      rw [if_pos rfl]
      exact ⟨_, _, rfl, .inr ⟨b, room, rfl, by simpa using h1, by simpa using h2⟩, Chg.refl _ _, .inl rfl⟩
    · rw [if_neg hm0, if_pos hs]
      simp only [h2, true_and]
      rw [if_pos (show 0 + n * esz ≤ c.length by omega), if_neg (show ¬ n + m ≤ n by omega)]
      have hnew : (c.drop 0).take (n * esz) ++ news = c ++ news := by rw [List.drop_zero, ← h1, List.take_length]
      rw [hnew]
      have hlen : (c ++ news).length = (n + m) * esz := by rw [List.length_append, h1, hm, Nat.add_mul]
      split
      · refine ⟨_, _, rfl, .inr ⟨H.n, true, rfl, hlen, AHeap.get_alloc_new H _⟩, (Chg.refl _ _).alloc _, .inr rfl⟩
      · refine ⟨_, _, rfl, .inr ⟨H.n, true, rfl, hlen, AHeap.get_alloc_new (H.set b .dead) _⟩, (Chg.set H (AHeap.get_lt h2) _).alloc _, .inr rfl⟩
theorem s_appAP {K : Value → AHeap → Prop} {e esz bytes : Nat} {s x : Value} {n m : Nat} {c news : List Value} (h : AP H e esz s n c) (hx : ∃ a k, x = .slice a m k) (h1 : elemsA H esz x = some news) (hm : news.length = m * esz)
    (hs : (n + m) * bytes ≤ 140737488355328 ∧ n + m ≤ 140737488355328)
    (hk : ∀ v' H', AP H' e esz v' (n + m) (c ++ news) → Chg (blkL s) H H' → (blk v' = blk s ∨ blk v' = some H.n) → K v' H') : stepA P ng (.app e esz bytes s x) H K := by
  obtain ⟨a, k, rfl⟩ := hx
  obtain ⟨v', H', k1, k2, k3, k4⟩ := h.app (bytes := bytes) hm hs
  rw [s_app rfl h1 k1]
  exact hk v' H' k2 k3 k4
theorem Fresh.L {n : Nat} {v : Value} (h : Fresh n v) : ∀ x ∈ blkL v, n ≤ x := fun x hx => h x (mem_blkL.1 hx)
theorem Fresh.app {n : Nat} {s v' : Value} (h : Fresh n s) (hn : n ≤ H.n) (hv : blk v' = blk s ∨ blk v' = some H.n) : Fresh n v' := by
  intro b hb
  rcases hv with hv | hv
  · exact h b (by rw [← hv]; exact hb)
  · rw [hv] at hb; cases hb; exact hn
theorem RD_nil {tr : List TE} {KF : List Value → AHeap → Prop} : RD P ng [] fr tm H tr KF = KF fr H := _root_.id rfl
theorem RD_cons {tr : List TE} {KF : List Value → AHeap → Prop} (op : AOp AX) (d : D) (un : List Nat) (r : List (AOper × List Nat)) : RD P ng ((⟨op, d, none⟩, un) :: r) fr tm H tr KF =
    stepA P ng (op.map (AX.ev fr tm)) H fun v H' => oblA (clsA op) (touchA (op.map (AX.ev fr tm)) H) H H' tr un ∧ RD P ng r (d.frame v fr) (d.temps v tm) H' (tr ++ [⟨clsA op, touchA (op.map (AX.ev fr tm)) H, H, H'⟩]) KF := by
  simp only [RD, wantA, if_true]
theorem RD_consg {tr : List TE} {KF : List Value → AHeap → Prop} (op : AOp AX) (d : D) (x : AX) (b : Bool) (un : List Nat) (r : List (AOper × List Nat)) : RD P ng ((⟨op, d, some (x, b)⟩, un) :: r) fr tm H tr KF =
    if wantA (some (x, b)) fr tm then
    stepA P ng (op.map (AX.ev fr tm)) H fun v H' => oblA (clsA op) (touchA (op.map (AX.ev fr tm)) H) H H' tr un ∧ RD P ng r (d.frame v fr) (d.temps v tm) H' (tr ++ [⟨clsA op, touchA (op.map (AX.ev fr tm)) H, H, H'⟩]) KF
    else RD P ng r (d.frame undef fr) (d.temps undef tm) H (tr ++ [⟨9, [], H, H⟩]) KF := by
  simp only [RD]
theorem obl_nil (k : Nat) (bs : List Nat) (A B : AHeap) (tr : List TE) : oblA k bs A B tr [] = True := _root_.id rfl
theorem cellA_of {b o : Nat} {own room : Bool} {esz e : Nat} {c : List Value} (h : H.get b = some (.cells own room esz c e)) : cellA H b o = c[o]? := by simp only [cellA, h]
theorem rangeA_of {b o n : Nat} {own room : Bool} {esz e : Nat} {c : List Value} (h : H.get b = some (.cells own room esz c e)) : rangeA H b o n = if o + n ≤ c.length then some ((c.drop o).take n) else none := by simp only [rangeA, h]
theorem resO0 (fr : List Value) : resO [] fr H = some (.tuple #[]) := _root_.id rfl
theorem resO1 (i : Nat) (fr : List Value) : resO [.t i] fr H = some (fr.getD i undef) := _root_.id rfl
theorem resO2 (i j : Nat) (fr : List Value) : resO [.t i, .t j] fr H = some (.tuple #[fr.getD i undef, fr.getD j undef]) := _root_.id rfl
theorem resO3 (i j k : Nat) (fr : List Value) : resO [.t i, .t j, .t k] fr H = some (.tuple #[fr.getD i undef, fr.getD j undef, fr.getD k undef]) := _root_.id rfl
theorem bnd_none (d t : Nat) : bndA none d t = some d := _root_.id rfl
theorem bnd_some (k : IntKind) (i d t : Nat) (h : i ≤ t) : bndA (some (.int k (i : Int))) d t = some i := by
  simp only [bndA]
  rw [if_pos (by omega)]
  simp
theorem e_sn (n k n' k' : Nat) : eqA 2 (.slice none n k) (.slice none n' k') = some true := _root_.id rfl
theorem e_ss (a : Addr) (n k n' k' : Nat) : eqA 2 (.slice (some a) n k) (.slice none n' k') = some false := _root_.id rfl
theorem e_pn : eqA 1 (.pointer none) (.pointer none) = some true := _root_.id rfl
theorem e_ps (b o : Nat) : eqA 1 (ptr b o) (.pointer none) = some false := _root_.id rfl
theorem e_bb (a b : Bool) : eqA 0 (.bool a) (.bool b) = some (a == b) := _root_.id rfl
theorem fill0 (c : List Value) : fillA c [] = some c := _root_.id rfl
theorem fill1 (z : Value) (k : IntKind) (n : Int) : fillA [z] [(0, 1, .int k n)] = some [.int k n] := by simp [fillA, Value.cells]
theorem elems_own {H : AHeap} {b : Nat} {own room : Bool} {esz e n k : Nat} {c : List Value} (h : H.get b = some (.cells own room esz c e)) (hn : c.length = n * esz) : elemsA H esz (slc b 0 n k) = some c := by
  simp only [elemsA, slc, h]
  rw [if_pos (by omega), List.drop_zero, ← hn, List.take_length]
end
end Go.AM

set_option linter.unusedSimpArgs false
set_option linter.unusedVariables false
namespace Go.AM
structure ZN where
  c : TypeId → List Value
  v : TypeId → Value
  k : TypeId → List Nat
  r : Nat → TypeId → List Value
def compOpZ (Z : ZN) (P : Program) (o : Oper) : AOp Operand :=
  match o.op with
  | .alloc e => match sizeT P e with
    | some n => .new e n (Z.c e)
    | none => .bad
  | .build t ps => match P.underlying t with
    | some (.struct fs) => match placesT P fs ps.toList with
      | some qs => .build (Z.c t) qs
      | none => .bad
    | some (.array _ e) => match sizeT P e with
      | some n => .build (Z.c t) (ps.toList.map fun p => (p.1 * n, n, p.2))
      | none => .bad
    | _ => .bad
  | .buildSlice t len ps => match elemOfT P t with
    | some e => match sizeT P e with
      | some n => .bslice e n len (Z.r len e) (ps.toList.map fun p => (p.1 * n, n, p.2))
      | none => .bad
    | none => .bad
  | .binOp op t x y ty => match op, P.underlying t with
    | .eql, some (.struct _) => .eqs (Z.k t) false x y
    | .eql, some (.array _ _) => .eqs (Z.k t) false x y
    | .neq, some (.struct _) => .eqs (Z.k t) true x y
    | .neq, some (.array _ _) => .eqs (Z.k t) true x y
    | _, _ => compOp P o
  | .makeSlice t l c => match elemOfT P t with
    | some e => match sizeT P e, bytesT P e with
      | some n, some b => .mksl e n b (Z.c e) l c
      | _, _ => .bad
    | none => .bad
  | .typeAssert x _ u ok => match P.underlying u with
    | some (.interface _) => .bad
    | _ => .assert u (Z.v u) ok x
  | .call c => match c.callee with
    | .builtin .append => match c.args.toList, c.argTypes.toList with
      | [s, x], [t, u] => match elemOfT P t, P.underlying u with
        | some e, some (.slice _) => match sizeT P e, bytesT P e with
          | some n, some b => .app e n b s x
          | _, _ => .bad
        | some e, some .string => match bytesT P e with
          | some b => .apps e b s x
          | _ => .bad
        | some e, some (.int .i64) => match sizeT P e, bytesT P e with
          | some n, some b => .appz e n b (Z.c e) s x
          | _, _ => .bad
        | _, _ => .bad
      | _, _ => .bad
    | .builtin .clear => match c.args.toList, c.argTypes.toList with
      | [x], [t] => match elemOfT P t with
        | some e => match sizeT P e with
          | some n => .clr n (Z.c e) x
          | none => .bad
        | none => .bad
      | _, _ => .bad
    | _ => compOp P o
  | _ => compOp P o
def compRZ (Z : ZN) (P : Program) (ng N : Nat) (sl : List Nat) (ops : Array Oper) : List Oper → List Nat → Option (List AOper)
  | [], _ => some []
  | o :: r, tl =>
    match compG ng sl tl ops o.guard, compD N sl tl o.dst with
    | some g, some (d, tl') => (compRZ Z P ng N sl ops r tl').map fun l => { op := (compOpZ Z P o).map fun x => (compX ng sl tl x).getD (.c undef), dst := d, g := g } :: l
    | _, _ => none
def compCZ (Z : ZN) (P : Program) (ng N : Nat) (sl : List Nat) : Code → Option ACode
  | .skip => some .skip
  | .region _ ops false => (compRZ Z P ng N sl ops ops.toList []).map .reg
  | .region _ ops true => (compRZ Z P ng N sl ops ops.toList []).map fun l => .dreg (l.zip (drawUns P ops))
  | .seq a b => match compCZ Z P ng N sl a, compCZ Z P ng N sl b with
    | some x, some y => some (.seq x y)
    | _, _ => none
  | .cond c t e => match compX ng sl [] c, compCZ Z P ng N sl t, compCZ Z P ng N sl e with
    | some x, some y, some z => some (.cond x y z)
    | _, _, _ => none
  | .block id c => (compCZ Z P ng N sl c).map (.block id)
  | .loop c => (compCZ Z P ng N sl c).map .loop
  | .exit id => some (.exit id)
  | .ret => some .ret
  | .rangeFunc f ps a b => (compX ng sl [] f).map fun x => .rangeF x N sl ps a b
  | _ => none
def compFZ (Z : ZN) (P : Program) (ng : Nat) (sl : List Nat) (f : FuncId) : Option AFunc :=
  match P.funcs[f]? with
  | none => none
  | some fn => match fn.body with
    | none => none
    | some c => match compCZ Z P ng fn.ntmps sl c, compRes P sl fn.results.toList with
        | some b, some r => some { sl := sl, body := b, res := r }
        | _, _ => none
def Cz (c : TypeId → List Value) (v : TypeId → Value) (k : TypeId → List Nat) (r : Nat → TypeId → List Value) (P : Program) (ng : Nat) (sl : List Nat) (f : FuncId) (a : AFunc) : Prop :=
  ∀ (zc : TypeId → List Value) (zv : TypeId → Value) (zk : TypeId → List Nat) (zr : Nat → TypeId → List Value), (∀ t, zc t = c t) → (∀ t, zv t = v t) → (∀ t, zk t = k t) → (∀ n t, zr n t = r n t) → compFZ ⟨zc, zv, zk, zr⟩ P ng sl f = some a
def CzC (c : TypeId → List Value) (v : TypeId → Value) (k : TypeId → List Nat) (r : Nat → TypeId → List Value) (P : Program) (ng N : Nat) (sl : List Nat) (x : Code) (a : ACode) : Prop :=
  ∀ (zc : TypeId → List Value) (zv : TypeId → Value) (zk : TypeId → List Nat) (zr : Nat → TypeId → List Value), (∀ t, zc t = c t) → (∀ t, zv t = v t) → (∀ t, zk t = k t) → (∀ n t, zr n t = r n t) → compCZ ⟨zc, zv, zk, zr⟩ P ng N sl x = some a
end Go.AM

set_option maxRecDepth 100000
set_option maxHeartbeats 0
namespace Go.AM.F
def zclD : TypeId → List Value
 | _ => []
def zvlD : TypeId → Value
 | _ => undef
def zklD : TypeId → List Nat
 | _ => []
def zrlD : Nat → TypeId → List Value
 | 8, 87 => [(.int .u32 0), (.int .u32 0), (.int .u32 0), (.int .u32 0), (.int .u32 0), (.int .u32 0), (.int .u32 0), (.int .u32 0)]
 | _, _ => []
noncomputable def f125 : AFunc := by
 refine (fun (_ : Cz zclD zvlD zklD zrlD Go.Proofs.Tryz.prog 0 [0, 2] 125 ?a) => ?a) ?h
 case h =>
 intro zc zv zk zr hc hv hk hr
 conv => lhs; cbv; try simp only [hc, hv, hk, hr, zclD, zvlD, zklD, zrlD]
theorem f125_ok : compF Go.Proofs.Tryz.prog 0 [0, 2] 125 = some f125 := by kernel_rfl
theorem f125_n : argsOK Go.Proofs.Tryz.prog 125 1 = true := by kernel_rfl
noncomputable def f154 : AFunc := by
 refine (fun (_ : Cz zclD zvlD zklD zrlD Go.Proofs.Tryz.prog 0 [0, 2, 3, 5, 6, 7, 8, 9] 154 ?a) => ?a) ?h
 case h =>
 intro zc zv zk zr hc hv hk hr
 conv => lhs; cbv; try simp only [hc, hv, hk, hr, zclD, zvlD, zklD, zrlD]
theorem f154_ok : compF Go.Proofs.Tryz.prog 0 [0, 2, 3, 5, 6, 7, 8, 9] 154 = some f154 := by kernel_rfl
theorem f154_n : argsOK Go.Proofs.Tryz.prog 154 1 = true := by kernel_rfl
noncomputable def f157 : AFunc := by
 refine (fun (_ : Cz zclD zvlD zklD zrlD Go.Proofs.Tryz.prog 0 [0, 1, 4, 5, 6, 7, 8, 13, 26, 33] 157 ?a) => ?a) ?h
 case h =>
 intro zc zv zk zr hc hv hk hr
 conv => lhs; cbv; try simp only [hc, hv, hk, hr, zclD, zvlD, zklD, zrlD]
theorem f157_ok : compF Go.Proofs.Tryz.prog 0 [0, 1, 4, 5, 6, 7, 8, 13, 26, 33] 157 = some f157 := by kernel_rfl
theorem f157_n : argsOK Go.Proofs.Tryz.prog 157 2 = true := by kernel_rfl
noncomputable def f166 : AFunc := by
 refine (fun (_ : Cz zclD zvlD zklD zrlD Go.Proofs.Tryz.prog 0 [0, 1, 4, 5, 6] 166 ?a) => ?a) ?h
 case h =>
 intro zc zv zk zr hc hv hk hr
 conv => lhs; cbv; try simp only [hc, hv, hk, hr, zclD, zvlD, zklD, zrlD]
theorem f166_ok : compF Go.Proofs.Tryz.prog 0 [0, 1, 4, 5, 6] 166 = some f166 := by kernel_rfl
theorem f166_n : argsOK Go.Proofs.Tryz.prog 166 2 = true := by kernel_rfl
noncomputable def f167 : AFunc := by
 refine (fun (_ : Cz zclD zvlD zklD zrlD Go.Proofs.Tryz.prog 0 [0, 2, 5] 167 ?a) => ?a) ?h
 case h =>
 intro zc zv zk zr hc hv hk hr
 conv => lhs; cbv; try simp only [hc, hv, hk, hr, zclD, zvlD, zklD, zrlD]
theorem f167_ok : compF Go.Proofs.Tryz.prog 0 [0, 2, 5] 167 = some f167 := by kernel_rfl
theorem f167_n : argsOK Go.Proofs.Tryz.prog 167 1 = true := by kernel_rfl
end Go.AM.F

set_option maxRecDepth 100000
set_option maxHeartbeats 0
namespace Go.AM.F
def zclC : TypeId → List Value
 | 207 => [(.slice none 0 0), (.bool false)]
 | _ => []
def zvlC : TypeId → Value
 | 5 => (.int .u8 0)
 | 85 => (.int .u64 0)
 | 181 => (.int .u16 0)
 | 87 => (.int .u32 0)
 | _ => undef
def zklC : TypeId → List Nat
 | _ => []
def zrlC : Nat → TypeId → List Value
 | 0, 5 => []
 | 1, 5 => [(.int .u8 0)]
 | _, _ => []
noncomputable def f91 : AFunc := by
 refine (fun (_ : Cz zclC zvlC zklC zrlC Go.Proofs.Tryz.prog 0 [0, 2, 4] 91 ?a) => ?a) ?h
 case h =>
 intro zc zv zk zr hc hv hk hr
 conv => lhs; cbv; try simp only [hc, hv, hk, hr, zclC, zvlC, zklC, zrlC]
theorem f91_ok : compF Go.Proofs.Tryz.prog 0 [0, 2, 4] 91 = some f91 := by kernel_rfl
theorem f91_n : argsOK Go.Proofs.Tryz.prog 91 1 = true := by kernel_rfl
noncomputable def f93 : AFunc := by
 refine (fun (_ : Cz zclC zvlC zklC zrlC Go.Proofs.Tryz.prog 0 [0, 1, 4, 5, 6, 10] 93 ?a) => ?a) ?h
 case h =>
 intro zc zv zk zr hc hv hk hr
 conv => lhs; cbv; try simp only [hc, hv, hk, hr, zclC, zvlC, zklC, zrlC]
theorem f93_ok : compF Go.Proofs.Tryz.prog 0 [0, 1, 4, 5, 6, 10] 93 = some f93 := by kernel_rfl
theorem f93_n : argsOK Go.Proofs.Tryz.prog 93 2 = true := by kernel_rfl
noncomputable def f114 : AFunc := by
 refine (fun (_ : Cz zclC zvlC zklC zrlC Go.Proofs.Tryz.prog 0 [0, 2] 114 ?a) => ?a) ?h
 case h =>
 intro zc zv zk zr hc hv hk hr
 conv => lhs; cbv; try simp only [hc, hv, hk, hr, zclC, zvlC, zklC, zrlC]
theorem f114_ok : compF Go.Proofs.Tryz.prog 0 [0, 2] 114 = some f114 := by kernel_rfl
theorem f114_n : argsOK Go.Proofs.Tryz.prog 114 1 = true := by kernel_rfl
noncomputable def f115 : AFunc := by
 refine (fun (_ : Cz zclC zvlC zklC zrlC Go.Proofs.Tryz.prog 0 [0, 2] 115 ?a) => ?a) ?h
 case h =>
 intro zc zv zk zr hc hv hk hr
 conv => lhs; cbv; try simp only [hc, hv, hk, hr, zclC, zvlC, zklC, zrlC]
theorem f115_ok : compF Go.Proofs.Tryz.prog 0 [0, 2] 115 = some f115 := by kernel_rfl
theorem f115_n : argsOK Go.Proofs.Tryz.prog 115 1 = true := by kernel_rfl
noncomputable def f116 : AFunc := by
 refine (fun (_ : Cz zclC zvlC zklC zrlC Go.Proofs.Tryz.prog 0 [0, 2] 116 ?a) => ?a) ?h
 case h =>
 intro zc zv zk zr hc hv hk hr
 conv => lhs; cbv; try simp only [hc, hv, hk, hr, zclC, zvlC, zklC, zrlC]
theorem f116_ok : compF Go.Proofs.Tryz.prog 0 [0, 2] 116 = some f116 := by kernel_rfl
theorem f116_n : argsOK Go.Proofs.Tryz.prog 116 1 = true := by kernel_rfl
noncomputable def f118 : AFunc := by
 refine (fun (_ : Cz zclC zvlC zklC zrlC Go.Proofs.Tryz.prog 0 [0, 2] 118 ?a) => ?a) ?h
 case h =>
 intro zc zv zk zr hc hv hk hr
 conv => lhs; cbv; try simp only [hc, hv, hk, hr, zclC, zvlC, zklC, zrlC]
theorem f118_ok : compF Go.Proofs.Tryz.prog 0 [0, 2] 118 = some f118 := by kernel_rfl
theorem f118_n : argsOK Go.Proofs.Tryz.prog 118 1 = true := by kernel_rfl
noncomputable def f119 : AFunc := by
 refine (fun (_ : Cz zclC zvlC zklC zrlC Go.Proofs.Tryz.prog 0 [0, 1, 4] 119 ?a) => ?a) ?h
 case h =>
 intro zc zv zk zr hc hv hk hr
 conv => lhs; cbv; try simp only [hc, hv, hk, hr, zclC, zvlC, zklC, zrlC]
theorem f119_ok : compF Go.Proofs.Tryz.prog 0 [0, 1, 4] 119 = some f119 := by kernel_rfl
theorem f119_n : argsOK Go.Proofs.Tryz.prog 119 2 = true := by kernel_rfl
noncomputable def f123 : AFunc := by
 refine (fun (_ : Cz zclC zvlC zklC zrlC Go.Proofs.Tryz.prog 0 [0, 2, 3, 4, 8] 123 ?a) => ?a) ?h
 case h =>
 intro zc zv zk zr hc hv hk hr
 conv => lhs; cbv; try simp only [hc, hv, hk, hr, zclC, zvlC, zklC, zrlC]
theorem f123_ok : compF Go.Proofs.Tryz.prog 0 [0, 2, 3, 4, 8] 123 = some f123 := by kernel_rfl
theorem f123_n : argsOK Go.Proofs.Tryz.prog 123 1 = true := by kernel_rfl
noncomputable def f147 : AFunc := by
 refine (fun (_ : Cz zclC zvlC zklC zrlC Go.Proofs.Tryz.prog 0 [0, 1, 4] 147 ?a) => ?a) ?h
 case h =>
 intro zc zv zk zr hc hv hk hr
 conv => lhs; cbv; try simp only [hc, hv, hk, hr, zclC, zvlC, zklC, zrlC]
theorem f147_ok : compF Go.Proofs.Tryz.prog 0 [0, 1, 4] 147 = some f147 := by kernel_rfl
theorem f147_n : argsOK Go.Proofs.Tryz.prog 147 2 = true := by kernel_rfl
noncomputable def f148 : AFunc := by
 refine (fun (_ : Cz zclC zvlC zklC zrlC Go.Proofs.Tryz.prog 0 [0, 1, 4, 5, 6, 9] 148 ?a) => ?a) ?h
 case h =>
 intro zc zv zk zr hc hv hk hr
 conv => lhs; cbv; try simp only [hc, hv, hk, hr, zclC, zvlC, zklC, zrlC]
theorem f148_ok : compF Go.Proofs.Tryz.prog 0 [0, 1, 4, 5, 6, 9] 148 = some f148 := by kernel_rfl
theorem f148_n : argsOK Go.Proofs.Tryz.prog 148 2 = true := by kernel_rfl
noncomputable def f149 : AFunc := by
 refine (fun (_ : Cz zclC zvlC zklC zrlC Go.Proofs.Tryz.prog 0 [0, 1] 149 ?a) => ?a) ?h
 case h =>
 intro zc zv zk zr hc hv hk hr
 conv => lhs; cbv; try simp only [hc, hv, hk, hr, zclC, zvlC, zklC, zrlC]
theorem f149_ok : compF Go.Proofs.Tryz.prog 0 [0, 1] 149 = some f149 := by kernel_rfl
theorem f149_n : argsOK Go.Proofs.Tryz.prog 149 2 = true := by kernel_rfl
noncomputable def f150 : AFunc := by
 refine (fun (_ : Cz zclC zvlC zklC zrlC Go.Proofs.Tryz.prog 0 [0, 1] 150 ?a) => ?a) ?h
 case h =>
 intro zc zv zk zr hc hv hk hr
 conv => lhs; cbv; try simp only [hc, hv, hk, hr, zclC, zvlC, zklC, zrlC]
theorem f150_ok : compF Go.Proofs.Tryz.prog 0 [0, 1] 150 = some f150 := by kernel_rfl
theorem f150_n : argsOK Go.Proofs.Tryz.prog 150 2 = true := by kernel_rfl
noncomputable def f151 : AFunc := by
 refine (fun (_ : Cz zclC zvlC zklC zrlC Go.Proofs.Tryz.prog 0 [0, 1] 151 ?a) => ?a) ?h
 case h =>
 intro zc zv zk zr hc hv hk hr
 conv => lhs; cbv; try simp only [hc, hv, hk, hr, zclC, zvlC, zklC, zrlC]
theorem f151_ok : compF Go.Proofs.Tryz.prog 0 [0, 1] 151 = some f151 := by kernel_rfl
theorem f151_n : argsOK Go.Proofs.Tryz.prog 151 2 = true := by kernel_rfl
noncomputable def f152 : AFunc := by
 refine (fun (_ : Cz zclC zvlC zklC zrlC Go.Proofs.Tryz.prog 0 [0, 1, 5] 152 ?a) => ?a) ?h
 case h =>
 intro zc zv zk zr hc hv hk hr
 conv => lhs; cbv; try simp only [hc, hv, hk, hr, zclC, zvlC, zklC, zrlC]
theorem f152_ok : compF Go.Proofs.Tryz.prog 0 [0, 1, 5] 152 = some f152 := by kernel_rfl
theorem f152_n : argsOK Go.Proofs.Tryz.prog 152 2 = true := by kernel_rfl
noncomputable def f153 : AFunc := by
 refine (fun (_ : Cz zclC zvlC zklC zrlC Go.Proofs.Tryz.prog 0 [0, 1] 153 ?a) => ?a) ?h
 case h =>
 intro zc zv zk zr hc hv hk hr
 conv => lhs; cbv; try simp only [hc, hv, hk, hr, zclC, zvlC, zklC, zrlC]
theorem f153_ok : compF Go.Proofs.Tryz.prog 0 [0, 1] 153 = some f153 := by kernel_rfl
theorem f153_n : argsOK Go.Proofs.Tryz.prog 153 2 = true := by kernel_rfl
noncomputable def f155 : AFunc := by
 refine (fun (_ : Cz zclC zvlC zklC zrlC Go.Proofs.Tryz.prog 0 [0, 2, 4] 155 ?a) => ?a) ?h
 case h =>
 intro zc zv zk zr hc hv hk hr
 conv => lhs; cbv; try simp only [hc, hv, hk, hr, zclC, zvlC, zklC, zrlC]
theorem f155_ok : compF Go.Proofs.Tryz.prog 0 [0, 2, 4] 155 = some f155 := by kernel_rfl
theorem f155_n : argsOK Go.Proofs.Tryz.prog 155 1 = true := by kernel_rfl
noncomputable def f164 : AFunc := by
 refine (fun (_ : Cz zclC zvlC zklC zrlC Go.Proofs.Tryz.prog 0 [0, 1, 4, 5, 7, 8, 9, 10, 11, 20, 21, 26, 31] 164 ?a) => ?a) ?h
 case h =>
 intro zc zv zk zr hc hv hk hr
 conv => lhs; cbv; try simp only [hc, hv, hk, hr, zclC, zvlC, zklC, zrlC]
theorem f164_ok : compF Go.Proofs.Tryz.prog 0 [0, 1, 4, 5, 7, 8, 9, 10, 11, 20, 21, 26, 31] 164 = some f164 := by kernel_rfl
theorem f164_n : argsOK Go.Proofs.Tryz.prog 164 2 = true := by kernel_rfl
noncomputable def f165 : AFunc := by
 refine (fun (_ : Cz zclC zvlC zklC zrlC Go.Proofs.Tryz.prog 0 [0, 1, 4, 5, 6, 8, 18] 165 ?a) => ?a) ?h
 case h =>
 intro zc zv zk zr hc hv hk hr
 conv => lhs; cbv; try simp only [hc, hv, hk, hr, zclC, zvlC, zklC, zrlC]
theorem f165_ok : compF Go.Proofs.Tryz.prog 0 [0, 1, 4, 5, 6, 8, 18] 165 = some f165 := by kernel_rfl
theorem f165_n : argsOK Go.Proofs.Tryz.prog 165 2 = true := by kernel_rfl
noncomputable def f172 : AFunc := by
 refine (fun (_ : Cz zclC zvlC zklC zrlC Go.Proofs.Tryz.prog 0 [0, 2, 3, 4, 5, 6, 7, 8, 9, 15, 23, 31] 172 ?a) => ?a) ?h
 case h =>
 intro zc zv zk zr hc hv hk hr
 conv => lhs; cbv; try simp only [hc, hv, hk, hr, zclC, zvlC, zklC, zrlC]
theorem f172_ok : compF Go.Proofs.Tryz.prog 0 [0, 2, 3, 4, 5, 6, 7, 8, 9, 15, 23, 31] 172 = some f172 := by kernel_rfl
theorem f172_n : argsOK Go.Proofs.Tryz.prog 172 1 = true := by kernel_rfl
end Go.AM.F

set_option linter.unusedSimpArgs false
set_option linter.unusedVariables false
namespace Go.AM
section
variable {P : Program} {ng : Nat} {H : AHeap} {KF : List Value → AHeap → Prop} {fr tm : List Value} {tr : List TE} {Q : AQ}
def boolIs (v : Value) (b : Bool) : Bool := wantA (some (.c v, b)) [] []
def stR (P : Program) (ng : Nat) (op : AOp Value) (d : D) (r : List AOper) (fr tm : List Value) (H : AHeap) (KF : List Value → AHeap → Prop) : Prop :=
  stepA P ng op H fun v H' => RW P ng r (d.frame v fr) (d.temps v tm) H' KF
def goR (P : Program) (ng : Nat) (o : Option (Value × AHeap)) (d : D) (r : List AOper) (fr tm : List Value) (KF : List Value → AHeap → Prop) : Prop :=
  ∃ v H', o = some (v, H') ∧ RW P ng r (d.frame v fr) (d.temps v tm) H' KF
def gdR (P : Program) (ng : Nat) (c : Bool) (op : AOp AX) (d : D) (r : List AOper) (fr tm : List Value) (H : AHeap) (KF : List Value → AHeap → Prop) : Prop :=
  if c then RW P ng (⟨op, d, none⟩ :: r) fr tm H KF else RW P ng r (d.frame undef fr) (d.temps undef tm) H KF
abbrev callR (P : Program) (ng : Nat) (f : FuncId) (xs : List Value) (d : D) (r : List AOper) (fr tm : List Value) (H : AHeap) (KF : List Value → AHeap → Prop) : Prop :=
  ∃ v H', ARun P ng f xs H v H' ∧ RW P ng r (d.frame v fr) (d.temps v tm) H' KF
theorem r_nil : RW P ng [] fr tm H KF = KF fr H := _root_.id rfl
theorem r_cons (op : AOp AX) (d : D) (r : List AOper) : RW P ng (⟨op, d, none⟩ :: r) fr tm H KF = stR P ng (op.map (AX.ev fr tm)) d r fr tm H KF := RW_cons op d r
theorem r_consg (op : AOp AX) (d : D) (x : AX) (b : Bool) (r : List AOper) : RW P ng (⟨op, d, some (x, b)⟩ :: r) fr tm H KF = gdR P ng (wantA (some (x, b)) fr tm) op d r fr tm H KF := by
  rw [RW_consg]; unfold gdR; rw [RW_cons]
theorem gd_true (op : AOp AX) (d : D) (r : List AOper) : gdR P ng true op d r fr tm H KF = stR P ng (op.map (AX.ev fr tm)) d r fr tm H KF := by unfold gdR; rw [if_pos rfl]; exact RW_cons op d r
theorem gd_false (op : AOp AX) (d : D) (r : List AOper) : gdR P ng false op d r fr tm H KF = RW P ng r (d.frame undef fr) (d.temps undef tm) H KF := by unfold gdR; rw [if_neg (by simp)]
theorem go_some (v : Value) (d : D) (r : List AOper) : goR P ng (some (v, H)) d r fr tm KF = RW P ng r (d.frame v fr) (d.temps v tm) H KF :=
  propext ⟨fun ⟨v, H', e, k⟩ => by cases e; exact k, fun k => ⟨_, _, rfl, k⟩⟩
theorem st_call (f : FuncId) (xs : List Value) (d : D) (r : List AOper) : stR P ng (.callf f xs) d r fr tm H KF = callR P ng f xs d r fr tm H KF := _root_.id rfl
theorem st_callv (g : FuncId) (first cap : Array Value) (xs : List Value) (d : D) (r : List AOper) : stR P ng (.callv (.func (.func g) first cap) xs) d r fr tm H KF = callR P ng g (first.toList ++ xs ++ cap.toList) d r fr tm H KF := _root_.id rfl
theorem at_n (K : List Value → AHeap → Prop) : Q.andThen K .normal fr H = K fr H := _root_.id rfl
theorem at_e (K : List Value → AHeap → Prop) (i : Nat) : Q.andThen K (.exit i) fr H = Q (.exit i) fr H := _root_.id rfl
theorem at_r (K : List Value → AHeap → Prop) : Q.andThen K .ret fr H = Q .ret fr H := _root_.id rfl
theorem ib_n (i : Nat) : Q.inBlock i .normal fr H = Q .normal fr H := _root_.id rfl
theorem ib_r (i : Nat) : Q.inBlock i .ret fr H = Q .ret fr H := _root_.id rfl
theorem ib_e (i : Nat) : Q.inBlock i (.exit i) fr H = Q .normal fr H := by simp [AQ.inBlock]
theorem ib_x {i j : Nat} (h : ¬ j = i) : Q.inBlock i (.exit j) fr H = Q (.exit j) fr H := by simp [AQ.inBlock, h]
theorem want_x (x : AX) (b : Bool) : wantA (some (x, b)) fr tm = boolIs (x.ev fr tm) b := by
  simp only [boolIs, wantA, AX.ev]
theorem bi_tt : boolIs (.bool true) true = true := by simp [boolIs, wantA, AX.ev]
theorem bi_tf : boolIs (.bool true) false = false := by simp [boolIs, wantA, AX.ev]
theorem bi_ft : boolIs (.bool false) true = false := by simp [boolIs, wantA, AX.ev]
theorem bi_ff : boolIs (.bool false) false = true := by simp [boolIs, wantA, AX.ev]
theorem pk_t (a b : Value) : asem (.pick (.bool true) a b) H = some (a, H) := _root_.id rfl
theorem pk_f (a b : Value) : asem (.pick (.bool false) a b) H = some (b, H) := _root_.id rfl
theorem walk2 {f : Nat} {sl : List Nat} {af : AFunc} (hc : compF P ng sl f = some af) {args : List Value} {R : Value → AHeap → Prop} (hargs : argsOK P f args.length = true)
    (h : ∀ Q : AQ, (∀ fr H2, (∃ v, resO af.res fr H2 = some v ∧ R v H2) → Q .normal fr H2) → (∀ fr H2, (∃ v, resO af.res fr H2 = some v ∧ R v H2) → Q .ret fr H2) → W P ng af.body Q (initFr af.sl args) H) : ∃ v H', ARun P ng f args H v H' ∧ R v H' :=
  walk hc hargs (h _ (fun _ _ h => h) (fun _ _ h => h))
def stD (P : Program) (ng : Nat) (op : AOp Value) (d : D) (un : List Nat) (r : List (AOper × List Nat)) (fr tm : List Value) (H : AHeap) (tr : List TE) (KF : List Value → AHeap → Prop) : Prop :=
  stepA P ng op H fun v H' => oblA (clsA op) (touchA op H) H H' tr un ∧ RD P ng r (d.frame v fr) (d.temps v tm) H' (tr ++ [⟨clsA op, touchA op H, H, H'⟩]) KF
def goD (P : Program) (ng : Nat) (op : AOp Value) (o : Option (Value × AHeap)) (d : D) (un : List Nat) (r : List (AOper × List Nat)) (fr tm : List Value) (H : AHeap) (tr : List TE) (KF : List Value → AHeap → Prop) : Prop :=
  ∃ v H', o = some (v, H') ∧ oblA (clsA op) (touchA op H) H H' tr un ∧ RD P ng r (d.frame v fr) (d.temps v tm) H' (tr ++ [⟨clsA op, touchA op H, H, H'⟩]) KF
def gdD (P : Program) (ng : Nat) (c : Bool) (op : AOp AX) (d : D) (un : List Nat) (r : List (AOper × List Nat)) (fr tm : List Value) (H : AHeap) (tr : List TE) (KF : List Value → AHeap → Prop) : Prop :=
  if c then stD P ng (op.map (AX.ev fr tm)) d un r fr tm H tr KF else RD P ng r (d.frame undef fr) (d.temps undef tm) H (tr ++ [⟨9, [], H, H⟩]) KF
abbrev callD (P : Program) (ng : Nat) (f : FuncId) (xs : List Value) (d : D) (un : List Nat) (r : List (AOper × List Nat)) (fr tm : List Value) (H : AHeap) (tr : List TE) (KF : List Value → AHeap → Prop) : Prop :=
  ∃ v H', ARun P ng f xs H v H' ∧ oblA 3 [] H H' tr un ∧ RD P ng r (d.frame v fr) (d.temps v tm) H' (tr ++ [⟨3, [], H, H'⟩]) KF
theorem d_nil : RD P ng [] fr tm H tr KF = KF fr H := _root_.id rfl
theorem cls_ev (op : AOp AX) : clsA (op.map (AX.ev fr tm)) = clsA op := cls_map _ _
theorem d_cons (op : AOp AX) (d : D) (un : List Nat) (r : List (AOper × List Nat)) : RD P ng ((⟨op, d, none⟩, un) :: r) fr tm H tr KF = stD P ng (op.map (AX.ev fr tm)) d un r fr tm H tr KF := by
  rw [RD_cons]; unfold stD; rw [cls_ev]
theorem d_consg (op : AOp AX) (d : D) (x : AX) (b : Bool) (un : List Nat) (r : List (AOper × List Nat)) : RD P ng ((⟨op, d, some (x, b)⟩, un) :: r) fr tm H tr KF = gdD P ng (wantA (some (x, b)) fr tm) op d un r fr tm H tr KF := by
  rw [RD_consg]; unfold gdD stD; rw [cls_ev]
theorem gdD_true (op : AOp AX) (d : D) (un : List Nat) (r : List (AOper × List Nat)) : gdD P ng true op d un r fr tm H tr KF = stD P ng (op.map (AX.ev fr tm)) d un r fr tm H tr KF := by unfold gdD; rw [if_pos rfl]
theorem gdD_false (op : AOp AX) (d : D) (un : List Nat) (r : List (AOper × List Nat)) : gdD P ng false op d un r fr tm H tr KF = RD P ng r (d.frame undef fr) (d.temps undef tm) H (tr ++ [⟨9, [], H, H⟩]) KF := by unfold gdD; rw [if_neg (by simp)]
theorem goD_some {H' : AHeap} (op : AOp Value) (v : Value) (d : D) (r : List (AOper × List Nat)) : goD P ng op (some (v, H')) d [] r fr tm H tr KF = RD P ng r (d.frame v fr) (d.temps v tm) H' (tr ++ [⟨clsA op, touchA op H, H, H'⟩]) KF := by
  exact propext ⟨fun ⟨v, H', e, _, k⟩ => by cases e; exact k, fun k => ⟨_, _, rfl, trivial, k⟩⟩
theorem goD_some' {H' : AHeap} (op : AOp Value) (v : Value) (d : D) (u : Nat) (un : List Nat) (r : List (AOper × List Nat)) : goD P ng op (some (v, H')) d (u :: un) r fr tm H tr KF =
    (oblA (clsA op) (touchA op H) H H' tr (u :: un) ∧ RD P ng r (d.frame v fr) (d.temps v tm) H' (tr ++ [⟨clsA op, touchA op H, H, H'⟩]) KF) := by
  exact propext ⟨fun ⟨v, H', e, k⟩ => by cases e; exact k, fun k => ⟨_, _, rfl, k⟩⟩
theorem stD_call (f : FuncId) (xs : List Value) (d : D) (un : List Nat) (r : List (AOper × List Nat)) : stD P ng (.callf f xs) d un r fr tm H tr KF = callD P ng f xs d un r fr tm H tr KF := _root_.id rfl
def condW (P : Program) (ng : Nat) (v : Value) (t e : ACode) (Q : AQ) (fr : List Value) (H : AHeap) : Prop := match v with
  | .bool b => if b then W P ng t Q fr H else W P ng e Q fr H
  | _ => False
theorem w_cond (c : AX) (t e : ACode) : W P ng (.cond c t e) Q fr H = condW P ng (c.ev fr []) t e Q fr H := _root_.id rfl
theorem cond_true (t e : ACode) : condW P ng (.bool true) t e Q fr H = W P ng t Q fr H := by simp [condW]
theorem cond_false (t e : ACode) : condW P ng (.bool false) t e Q fr H = W P ng e Q fr H := by simp [condW]
section
variable (d : D) (r : List AOper) (un : List Nat) (rd : List (AOper × List Nat))
theorem st_of {op : AOp Value} (h1 : ∀ f xs, op ≠ .callf f xs) (h2 : ∀ f xs, op ≠ .callv f xs) (h3 : ∀ nm x xs, op ≠ .inv nm x xs) : stR P ng op d r fr tm H KF = goR P ng (asem op H) d r fr tm KF := by
  unfold stR goR
  cases op <;> first | rfl | exact absurd rfl (h1 _ _) | exact absurd rfl (h2 _ _) | exact absurd rfl (h3 _ _ _)
theorem stD_of {op : AOp Value} (h1 : ∀ f xs, op ≠ .callf f xs) (h2 : ∀ f xs, op ≠ .callv f xs) (h3 : ∀ nm x xs, op ≠ .inv nm x xs) : stD P ng op d un rd fr tm H tr KF = goD P ng op (asem op H) d un rd fr tm H tr KF := by
  unfold stD goD
  cases op <;> first | rfl | exact absurd rfl (h1 _ _) | exact absurd rfl (h2 _ _) | exact absurd rfl (h3 _ _ _)
theorem st_mov (x : Value) : stR P ng (.mov x) d r fr tm H KF = RW P ng r (d.frame x fr) (d.temps x tm) H KF := by rw [st_of d r (by simp) (by simp) (by simp)]; exact go_some x d r
theorem st_pick (c a b : Value) : stR P ng (.pick c a b) d r fr tm H KF = goR P ng (asem (.pick c a b) H) d r fr tm KF := st_of d r (by simp) (by simp) (by simp)
theorem sd_pick (c a b : Value) : stD P ng (.pick c a b) d un rd fr tm H tr KF = goD P ng (.pick c a b) (asem (.pick c a b) H) d un rd fr tm H tr KF := stD_of d un rd (by simp) (by simp) (by simp)
theorem st_new (e s : Nat) (z : List Value) : stR P ng (.new e s z) d r fr tm H KF = goR P ng (asem (.new e s z) H) d r fr tm KF := st_of d r (by simp) (by simp) (by simp)
theorem sd_new (e s : Nat) (z : List Value) : stD P ng (.new e s z) d un rd fr tm H tr KF = goD P ng (.new e s z) (asem (.new e s z) H) d un rd fr tm H tr KF := stD_of d un rd (by simp) (by simp) (by simp)
theorem st_box (e s : Nat) (x : Value) : stR P ng (.box e s x) d r fr tm H KF = goR P ng (asem (.box e s x) H) d r fr tm KF := st_of d r (by simp) (by simp) (by simp)
theorem sd_box (e s : Nat) (x : Value) : stD P ng (.box e s x) d un rd fr tm H tr KF = goD P ng (.box e s x) (asem (.box e s x) H) d un rd fr tm H tr KF := stD_of d un rd (by simp) (by simp) (by simp)
theorem st_build (z : List Value) (ps : List (Nat × Nat × Value)) : stR P ng (.build z ps) d r fr tm H KF = goR P ng (asem (.build z ps) H) d r fr tm KF := st_of d r (by simp) (by simp) (by simp)
theorem sd_build (z : List Value) (ps : List (Nat × Nat × Value)) : stD P ng (.build z ps) d un rd fr tm H tr KF = goD P ng (.build z ps) (asem (.build z ps) H) d un rd fr tm H tr KF := stD_of d un rd (by simp) (by simp) (by simp)
theorem st_bslice (e s n : Nat) (z : List Value) (ps : List (Nat × Nat × Value)) : stR P ng (.bslice e s n z ps) d r fr tm H KF = goR P ng (asem (.bslice e s n z ps) H) d r fr tm KF := st_of d r (by simp) (by simp) (by simp)
theorem sd_bslice (e s n : Nat) (z : List Value) (ps : List (Nat × Nat × Value)) : stD P ng (.bslice e s n z ps) d un rd fr tm H tr KF = goD P ng (.bslice e s n z ps) (asem (.bslice e s n z ps) H) d un rd fr tm H tr KF := stD_of d un rd (by simp) (by simp) (by simp)
theorem st_load1 (x : Value) : stR P ng (.load1 x) d r fr tm H KF = goR P ng (asem (.load1 x) H) d r fr tm KF := st_of d r (by simp) (by simp) (by simp)
theorem sd_load1 (x : Value) : stD P ng (.load1 x) d un rd fr tm H tr KF = goD P ng (.load1 x) (asem (.load1 x) H) d un rd fr tm H tr KF := stD_of d un rd (by simp) (by simp) (by simp)
theorem st_loadn (n : Nat) (x : Value) : stR P ng (.loadn n x) d r fr tm H KF = goR P ng (asem (.loadn n x) H) d r fr tm KF := st_of d r (by simp) (by simp) (by simp)
theorem sd_loadn (n : Nat) (x : Value) : stD P ng (.loadn n x) d un rd fr tm H tr KF = goD P ng (.loadn n x) (asem (.loadn n x) H) d un rd fr tm H tr KF := stD_of d un rd (by simp) (by simp) (by simp)
theorem st_store1 (a x : Value) : stR P ng (.store1 a x) d r fr tm H KF = goR P ng (asem (.store1 a x) H) d r fr tm KF := st_of d r (by simp) (by simp) (by simp)
theorem sd_store1 (a x : Value) : stD P ng (.store1 a x) d un rd fr tm H tr KF = goD P ng (.store1 a x) (asem (.store1 a x) H) d un rd fr tm H tr KF := stD_of d un rd (by simp) (by simp) (by simp)
theorem st_storen (n : Nat) (a x : Value) : stR P ng (.storen n a x) d r fr tm H KF = goR P ng (asem (.storen n a x) H) d r fr tm KF := st_of d r (by simp) (by simp) (by simp)
theorem sd_storen (n : Nat) (a x : Value) : stD P ng (.storen n a x) d un rd fr tm H tr KF = goD P ng (.storen n a x) (asem (.storen n a x) H) d un rd fr tm H tr KF := stD_of d un rd (by simp) (by simp) (by simp)
theorem st_nilck (x : Value) : stR P ng (.nilck x) d r fr tm H KF = goR P ng (asem (.nilck x) H) d r fr tm KF := st_of d r (by simp) (by simp) (by simp)
theorem sd_nilck (x : Value) : stD P ng (.nilck x) d un rd fr tm H tr KF = goD P ng (.nilck x) (asem (.nilck x) H) d un rd fr tm H tr KF := stD_of d un rd (by simp) (by simp) (by simp)
theorem st_bin (o : BinOp) (x y : Value) : stR P ng (.bin o x y) d r fr tm H KF = goR P ng (asem (.bin o x y) H) d r fr tm KF := st_of d r (by simp) (by simp) (by simp)
theorem sd_bin (o : BinOp) (x y : Value) : stD P ng (.bin o x y) d un rd fr tm H tr KF = goD P ng (.bin o x y) (asem (.bin o x y) H) d un rd fr tm H tr KF := stD_of d un rd (by simp) (by simp) (by simp)
theorem st_eqv (k : Nat) (n : Bool) (x y : Value) : stR P ng (.eqv k n x y) d r fr tm H KF = goR P ng (asem (.eqv k n x y) H) d r fr tm KF := st_of d r (by simp) (by simp) (by simp)
theorem sd_eqv (k : Nat) (n : Bool) (x y : Value) : stD P ng (.eqv k n x y) d un rd fr tm H tr KF = goD P ng (.eqv k n x y) (asem (.eqv k n x y) H) d un rd fr tm H tr KF := stD_of d un rd (by simp) (by simp) (by simp)
theorem st_un (o : UnOp) (x : Value) : stR P ng (.un o x) d r fr tm H KF = goR P ng (asem (.un o x) H) d r fr tm KF := st_of d r (by simp) (by simp) (by simp)
theorem sd_un (o : UnOp) (x : Value) : stD P ng (.un o x) d un rd fr tm H tr KF = goD P ng (.un o x) (asem (.un o x) H) d un rd fr tm H tr KF := stD_of d un rd (by simp) (by simp) (by simp)
theorem st_i2i (k : IntKind) (x : Value) : stR P ng (.i2i k x) d r fr tm H KF = goR P ng (asem (.i2i k x) H) d r fr tm KF := st_of d r (by simp) (by simp) (by simp)
theorem sd_i2i (k : IntKind) (x : Value) : stD P ng (.i2i k x) d un rd fr tm H tr KF = goD P ng (.i2i k x) (asem (.i2i k x) H) d un rd fr tm H tr KF := stD_of d un rd (by simp) (by simp) (by simp)
theorem st_s2s (x : Value) : stR P ng (.s2s x) d r fr tm H KF = goR P ng (asem (.s2s x) H) d r fr tm KF := st_of d r (by simp) (by simp) (by simp)
theorem sd_s2s (x : Value) : stD P ng (.s2s x) d un rd fr tm H tr KF = goD P ng (.s2s x) (asem (.s2s x) H) d un rd fr tm H tr KF := stD_of d un rd (by simp) (by simp) (by simp)
theorem st_s2b (e : Nat) (x : Value) : stR P ng (.s2b e x) d r fr tm H KF = goR P ng (asem (.s2b e x) H) d r fr tm KF := st_of d r (by simp) (by simp) (by simp)
theorem sd_s2b (e : Nat) (x : Value) : stD P ng (.s2b e x) d un rd fr tm H tr KF = goD P ng (.s2b e x) (asem (.s2b e x) H) d un rd fr tm H tr KF := stD_of d un rd (by simp) (by simp) (by simp)
theorem st_b2s (x : Value) : stR P ng (.b2s x) d r fr tm H KF = goR P ng (asem (.b2s x) H) d r fr tm KF := st_of d r (by simp) (by simp) (by simp)
theorem sd_b2s (x : Value) : stD P ng (.b2s x) d un rd fr tm H tr KF = goD P ng (.b2s x) (asem (.b2s x) H) d un rd fr tm H tr KF := stD_of d un rd (by simp) (by simp) (by simp)
theorem st_iface (t : TypeId) (x : Value) : stR P ng (.iface t x) d r fr tm H KF = goR P ng (asem (.iface t x) H) d r fr tm KF := st_of d r (by simp) (by simp) (by simp)
theorem sd_iface (t : TypeId) (x : Value) : stD P ng (.iface t x) d un rd fr tm H tr KF = goD P ng (.iface t x) (asem (.iface t x) H) d un rd fr tm H tr KF := stD_of d un rd (by simp) (by simp) (by simp)
theorem st_mkfn (f : Fn) (xs ys : List Value) : stR P ng (.mkfn f xs ys) d r fr tm H KF = goR P ng (asem (.mkfn f xs ys) H) d r fr tm KF := st_of d r (by simp) (by simp) (by simp)
theorem sd_mkfn (f : Fn) (xs ys : List Value) : stD P ng (.mkfn f xs ys) d un rd fr tm H tr KF = goD P ng (.mkfn f xs ys) (asem (.mkfn f xs ys) H) d un rd fr tm H tr KF := stD_of d un rd (by simp) (by simp) (by simp)
theorem st_mksl (e s b : Nat) (z : List Value) (l c : Value) : stR P ng (.mksl e s b z l c) d r fr tm H KF = goR P ng (asem (.mksl e s b z l c) H) d r fr tm KF := st_of d r (by simp) (by simp) (by simp)
theorem sd_mksl (e s b : Nat) (z : List Value) (l c : Value) : stD P ng (.mksl e s b z l c) d un rd fr tm H tr KF = goD P ng (.mksl e s b z l c) (asem (.mksl e s b z l c) H) d un rd fr tm H tr KF := stD_of d un rd (by simp) (by simp) (by simp)
theorem st_slstr (x : Value) (lo hi : Option Value) : stR P ng (.slstr x lo hi) d r fr tm H KF = goR P ng (asem (.slstr x lo hi) H) d r fr tm KF := st_of d r (by simp) (by simp) (by simp)
theorem sd_slstr (x : Value) (lo hi : Option Value) : stD P ng (.slstr x lo hi) d un rd fr tm H tr KF = goD P ng (.slstr x lo hi) (asem (.slstr x lo hi) H) d un rd fr tm H tr KF := stD_of d un rd (by simp) (by simp) (by simp)
theorem st_slsl (s : Nat) (x : Value) (lo hi mx : Option Value) : stR P ng (.slsl s x lo hi mx) d r fr tm H KF = goR P ng (asem (.slsl s x lo hi mx) H) d r fr tm KF := st_of d r (by simp) (by simp) (by simp)
theorem sd_slsl (s : Nat) (x : Value) (lo hi mx : Option Value) : stD P ng (.slsl s x lo hi mx) d un rd fr tm H tr KF = goD P ng (.slsl s x lo hi mx) (asem (.slsl s x lo hi mx) H) d un rd fr tm H tr KF := stD_of d un rd (by simp) (by simp) (by simp)
theorem st_faddr (o : Nat) (x : Value) : stR P ng (.faddr o x) d r fr tm H KF = goR P ng (asem (.faddr o x) H) d r fr tm KF := st_of d r (by simp) (by simp) (by simp)
theorem sd_faddr (o : Nat) (x : Value) : stD P ng (.faddr o x) d un rd fr tm H tr KF = goD P ng (.faddr o x) (asem (.faddr o x) H) d un rd fr tm H tr KF := stD_of d un rd (by simp) (by simp) (by simp)
theorem st_fld1 (o : Nat) (x : Value) : stR P ng (.fld1 o x) d r fr tm H KF = goR P ng (asem (.fld1 o x) H) d r fr tm KF := st_of d r (by simp) (by simp) (by simp)
theorem sd_fld1 (o : Nat) (x : Value) : stD P ng (.fld1 o x) d un rd fr tm H tr KF = goD P ng (.fld1 o x) (asem (.fld1 o x) H) d un rd fr tm H tr KF := stD_of d un rd (by simp) (by simp) (by simp)
theorem st_fldn (o n : Nat) (x : Value) : stR P ng (.fldn o n x) d r fr tm H KF = goR P ng (asem (.fldn o n x) H) d r fr tm KF := st_of d r (by simp) (by simp) (by simp)
theorem sd_fldn (o n : Nat) (x : Value) : stD P ng (.fldn o n x) d un rd fr tm H tr KF = goD P ng (.fldn o n x) (asem (.fldn o n x) H) d un rd fr tm H tr KF := stD_of d un rd (by simp) (by simp) (by simp)
theorem st_iaddr (s : Nat) (x i : Value) : stR P ng (.iaddr s x i) d r fr tm H KF = goR P ng (asem (.iaddr s x i) H) d r fr tm KF := st_of d r (by simp) (by simp) (by simp)
theorem sd_iaddr (s : Nat) (x i : Value) : stD P ng (.iaddr s x i) d un rd fr tm H tr KF = goD P ng (.iaddr s x i) (asem (.iaddr s x i) H) d un rd fr tm H tr KF := stD_of d un rd (by simp) (by simp) (by simp)
theorem st_idxs (x i : Value) : stR P ng (.idxs x i) d r fr tm H KF = goR P ng (asem (.idxs x i) H) d r fr tm KF := st_of d r (by simp) (by simp) (by simp)
theorem sd_idxs (x i : Value) : stD P ng (.idxs x i) d un rd fr tm H tr KF = goD P ng (.idxs x i) (asem (.idxs x i) H) d un rd fr tm H tr KF := stD_of d un rd (by simp) (by simp) (by simp)
theorem st_assert (t : TypeId) (z : Value) (ok : Bool) (x : Value) : stR P ng (.assert t z ok x) d r fr tm H KF = goR P ng (asem (.assert t z ok x) H) d r fr tm KF := st_of d r (by simp) (by simp) (by simp)
theorem sd_assert (t : TypeId) (z : Value) (ok : Bool) (x : Value) : stD P ng (.assert t z ok x) d un rd fr tm H tr KF = goD P ng (.assert t z ok x) (asem (.assert t z ok x) H) d un rd fr tm H tr KF := stD_of d un rd (by simp) (by simp) (by simp)
theorem st_extract (x : Value) (i : Nat) : stR P ng (.extract x i) d r fr tm H KF = goR P ng (asem (.extract x i) H) d r fr tm KF := st_of d r (by simp) (by simp) (by simp)
theorem sd_extract (x : Value) (i : Nat) : stD P ng (.extract x i) d un rd fr tm H tr KF = goD P ng (.extract x i) (asem (.extract x i) H) d un rd fr tm H tr KF := stD_of d un rd (by simp) (by simp) (by simp)
theorem st_len (s : Bool) (x : Value) : stR P ng (.len s x) d r fr tm H KF = goR P ng (asem (.len s x) H) d r fr tm KF := st_of d r (by simp) (by simp) (by simp)
theorem sd_len (s : Bool) (x : Value) : stD P ng (.len s x) d un rd fr tm H tr KF = goD P ng (.len s x) (asem (.len s x) H) d un rd fr tm H tr KF := stD_of d un rd (by simp) (by simp) (by simp)
theorem st_mark (x : Value) : stR P ng (.mark x) d r fr tm H KF = goR P ng (asem (.mark x) H) d r fr tm KF := st_of d r (by simp) (by simp) (by simp)
theorem sd_mark (x : Value) : stD P ng (.mark x) d un rd fr tm H tr KF = goD P ng (.mark x) (asem (.mark x) H) d un rd fr tm H tr KF := stD_of d un rd (by simp) (by simp) (by simp)
theorem sd_mov (x : Value) : stD P ng (.mov x) d un rd fr tm H tr KF = goD P ng (.mov x) (asem (.mov x) H) d un rd fr tm H tr KF := stD_of d un rd (by simp) (by simp) (by simp)
theorem sd_app (e s b : Nat) (x y : Value) : stD P ng (.app e s b x y) d un rd fr tm H tr KF = goD P ng (.app e s b x y) (asem (.app e s b x y) H) d un rd fr tm H tr KF := stD_of d un rd (by simp) (by simp) (by simp)
end
theorem a_mov (x : Value) : asem (.mov x) H = some (x, H) := _root_.id rfl
theorem a_pick (t : Bool) (a b : Value) : asem (.pick (.bool t) a b) H = some (if t then a else b, H) := _root_.id rfl
theorem a_new (e esz : Nat) (z : List Value) : asem (.new e esz z) H = if z.all Value.oneCell' then some (ptr H.n 0, H.alloc (.cells true false esz z e)) else none := _root_.id rfl
theorem a_box (e esz : Nat) (x : Value) : asem (.box e esz x) H = if x.cells.toList.all Value.oneCell' then some (ptr H.n 0, H.alloc (.cells true false esz x.cells.toList e)) else none := _root_.id rfl
theorem a_build (z : List Value) (ps : List (Nat × Nat × Value)) : asem (.build z ps) H = (fillA z ps).map fun c => (.agg c.toArray, H) := _root_.id rfl
theorem a_load1 (b o : Nat) : asem (.load1 (ptr b o)) H = (cellA H b o).map fun v => (v, H) := _root_.id rfl
theorem a_loadn (n b o : Nat) : asem (.loadn n (ptr b o)) H = (rangeA H b o n).map fun c => (.agg c.toArray, H) := _root_.id rfl
theorem a_store1 {b o : Nat} {x : Value} {room : Bool} {esz e : Nat} {c : List Value} (h : H.get b = some (.cells true room esz c e)) : asem (.store1 (ptr b o) x) H = if o < c.length ∧ x.oneCell' = true then some (undef, H.set b (.cells true room esz (c.set o x) e)) else none := by
  simp only [asem, ptr, h]
theorem a_nilck (b o : Nat) : asem (.nilck (ptr b o)) H = some (ptr b o, H) := _root_.id rfl
theorem a_bin (op : BinOp) (x y : Value) : asem (.bin op x y) H = (binA op x y).map fun v => (v, H) := _root_.id rfl
theorem a_eqv (k : Nat) (neg : Bool) (x y : Value) : asem (.eqv k neg x y) H = (eqA k x y).map fun b => (.bool (if neg then !b else b), H) := _root_.id rfl
theorem a_not (b : Bool) : asem (.un .not (.bool b)) H = some (.bool (!b), H) := _root_.id rfl
theorem a_neg (k : IntKind) (n : Int) : asem (.un .neg (.int k n)) H = some (.int k (k.wrap (0 - n)), H) := _root_.id rfl
theorem a_i2i (k k' : IntKind) (n : Int) : asem (.i2i k (.int k' n)) H = some (.int k (k.wrap n), H) := _root_.id rfl
theorem a_s2s (s : ByteArray) : asem (.s2s (.string s)) H = some (.string s, H) := _root_.id rfl
theorem a_s2b (e : Nat) (l : List UInt8) : asem (.s2b e (.string ⟨l.toArray⟩)) H = some (slc H.n 0 l.length l.length, H.alloc (.cells true true 1 (cellsOf l) e)) := by
  simp only [asem, cellsOf]
  simp [ByteArray.size]
theorem a_iface (t : TypeId) (x : Value) : asem (.iface t x) H = some (.iface t x, H) := _root_.id rfl
theorem a_mkfn (fn : Fn) (xs ys : List Value) : asem (.mkfn fn xs ys) H = some (.func fn xs.toArray ys.toArray, H) := _root_.id rfl
theorem a_faddr (off b o : Nat) : asem (.faddr off (ptr b o)) H = some (ptr b (o + off), H) := _root_.id rfl
theorem a_fld1 (off : Nat) (cs : Array Value) : asem (.fld1 off (.agg cs)) H = cs.toList[off]?.map fun v => (v, H) := _root_.id rfl
theorem a_iaddr (esz b o n k : Nat) (kd : IntKind) (i : Int) : asem (.iaddr esz (slc b o n k) (.int kd i)) H = if 0 ≤ i ∧ i < (n : Int) then some (ptr b (o + i.toNat * esz), H) else none := _root_.id rfl
theorem a_assert (t u : TypeId) (z v : Value) (ok : Bool) : asem (.assert t z ok (.iface u v)) H = if u = t then some (if ok then .tuple #[v, .bool true] else v, H) else if ok then some (.tuple #[z, .bool false], H) else none := _root_.id rfl
theorem a_extract (vs : Array Value) (i : Nat) : asem (.extract (.tuple vs) i) H = vs.toList[i]?.map fun v => (v, H) := _root_.id rfl
theorem a_len (a : Option Addr) (n k : Nat) : asem (.len false (.slice a n k)) H = some (.int .i64 n, H) := _root_.id rfl
theorem a_lenc (b o n k : Nat) : asem (.len false (slc b o n k)) H = some (.int .i64 n, H) := _root_.id rfl
theorem a_lens (l : List UInt8) : asem (.len true (.string ⟨l.toArray⟩)) H = some (.int .i64 l.length, H) := by
  simp [asem, lenA, ByteArray.size]
theorem a_slsl_nil {esz : Nat} {lo hi mx : Option Value} (h : ∃ m hh l, bndA mx 0 0 = some m ∧ bndA hi 0 m = some hh ∧ bndA lo 0 hh = some l) : asem (.slsl esz (.slice none 0 0) lo hi mx) H = some (.slice none 0 0, H) := by
  obtain ⟨m, hh, l, h1, h2, h3⟩ := h
  simp only [asem, h1, h2, h3]
theorem a_slsl {esz b o n k m hh l e : Nat} {own room : Bool} {c : List Value} {lo hi mx : Option Value} (hb : H.get b = some (.cells own room esz c e)) (h1 : bndA mx k k = some m) (h2 : bndA hi n m = some hh) (h3 : bndA lo 0 hh = some l) :
    asem (.slsl esz (slc b o n k) lo hi mx) H = some (slc b (o + l * esz) (hh - l) (m - l), H) := by
  simp only [asem, slc, h1, h2, h3, hb, true_or, if_true]
theorem one_int (k : IntKind) (n : Int) : (Value.int k n).oneCell' = true := _root_.id rfl
theorem one_bool (b : Bool) : (Value.bool b).oneCell' = true := _root_.id rfl
theorem one_str (b : ByteArray) : (Value.string b).oneCell' = true := _root_.id rfl
theorem one_sl (a : Option Addr) (n k : Nat) : (Value.slice a n k).oneCell' = true := _root_.id rfl
theorem one_slc (b o n k : Nat) : (slc b o n k).oneCell' = true := _root_.id rfl
theorem one_ptr (b o : Nat) : (ptr b o).oneCell' = true := _root_.id rfl
theorem one_pn (a : Option Addr) : (Value.pointer a).oneCell' = true := _root_.id rfl
theorem one_if (t : TypeId) (v : Value) : (Value.iface t v).oneCell' = true := _root_.id rfl
theorem one_map (t : Option Nat) : (Value.map t).oneCell' = true := _root_.id rfl
def one1 (x : Value) : Prop := x.oneCell' = true
theorem a_st {b o : Nat} {x : Value} {room : Bool} {esz e : Nat} {c : List Value} (h : H.get b = some (.cells true room esz c e)) (ho : o < c.length) (hx : one1 x) : asem (.store1 (ptr b o) x) H = some (undef, H.set b (.cells true room esz (c.set o x) e)) := by
  rw [a_store1 h, if_pos ⟨ho, hx⟩]
theorem o_int (k : IntKind) (n : Int) : one1 (Value.int k n) = True := by simp [one1, one_int]
theorem o_bool (b : Bool) : one1 (Value.bool b) = True := by simp [one1, one_bool]
theorem o_str (b : ByteArray) : one1 (Value.string b) = True := by simp [one1, one_str]
theorem o_sl (a : Option Addr) (n k : Nat) : one1 (Value.slice a n k) = True := by simp [one1, one_sl]
theorem o_slc (b o n k : Nat) : one1 (slc b o n k) = True := by simp [one1, one_slc]
theorem o_ptr (b o : Nat) : one1 (ptr b o) = True := by simp [one1, one_ptr]
theorem o_pn (a : Option Addr) : one1 (Value.pointer a) = True := by simp [one1, one_pn]
theorem o_if (t : TypeId) (v : Value) : one1 (Value.iface t v) = True := by simp [one1, one_if]
theorem o_map (t : Option Nat) : one1 (Value.map t) = True := by simp [one1, one_map]
theorem appR {d : D} {r : List AOper} {e esz bytes : Nat} {s x : Value} {n m : Nat} {c news : List Value} (h : AP H e esz s n c) (hx : ∃ a k, x = .slice a m k) (h1 : elemsA H esz x = some news) (hm : news.length = m * esz)
    (hs : (n + m) * bytes ≤ 140737488355328 ∧ n + m ≤ 140737488355328)
    (hk : ∀ v' H', AP H' e esz v' (n + m) (c ++ news) → Chg (blkL s) H H' → (blk v' = blk s ∨ blk v' = some H.n) → RW P ng r (d.frame v' fr) (d.temps v' tm) H' KF) : stR P ng (.app e esz bytes s x) d r fr tm H KF :=
  s_appAP h hx h1 hm hs hk
end
end Go.AM

set_option linter.unusedSimpArgs false
set_option linter.unusedVariables false
namespace Go.AM
noncomputable def bEq (a b : List UInt8) : Bool :=
  List.rec (motive := fun _ => List UInt8 → Bool) (fun b => List.rec (motive := fun _ => Bool) true (fun _ _ _ => false) b)
    (fun x _ ih b => List.rec (motive := fun _ => Bool) false (fun y r _ => Bool.rec (motive := fun _ => Bool) false (ih r) (Nat.beq x.toNat y.toNat)) b) a b
theorem bEq_eq : ∀ a b : List UInt8, bEq a b = decide (a = b)
  | [], [] => by simp [bEq]
  | [], y :: b => by simp [bEq]
  | x :: a, [] => by simp [bEq]
  | x :: a, y :: b => by
    have h : bEq (x :: a) (y :: b) = Bool.rec (motive := fun _ => Bool) false (bEq a b) (Nat.beq x.toNat y.toNat) := rfl
    rw [h, bEq_eq a b]
    cases e : Nat.beq x.toNat y.toNat
    · have : x ≠ y := fun h => by subst h; rw [Nat.beq_refl] at e; cases e
      simp [this]
    · have : x = y := UInt8.toNat_inj.1 (Nat.eq_of_beq_eq_true e)
      simp [this]
theorem bstr_eq (a b : ByteArray) : decide (a = b) = bEq a.data.toList b.data.toList := by
  rw [bEq_eq, Bool.eq_iff_iff]
  simp only [decide_eq_true_eq]
  constructor
  · intro h; rw [h]
  · intro h
    have : a.data = b.data := Array.toList_inj.1 h
    cases a; cases b; simp_all
def bCat (a b : ByteArray) : ByteArray := ⟨⟨a.data.toList ++ b.data.toList⟩⟩
theorem bCat_eq (a b : ByteArray) : bCat a b = a ++ b := by
  have : (a ++ b).data.toList = a.data.toList ++ b.data.toList := by rw [ByteArray.data_append]; simp
  have h2 : (bCat a b).data = (a ++ b).data := Array.toList_inj.1 (by rw [this]; rfl)
  cases h : bCat a b; cases h3 : a ++ b; rw [h, h3] at h2; simp_all
end Go.AM

set_option linter.unusedSimpArgs false
set_option linter.unusedVariables false
namespace Go.AM
def okFs (P : Program) (f : TypeId → Bool) : List Field → Nat → Nat → Bool
  | [], off, tot => off == tot
  | fd :: r, off, tot => fd.offset == off && f fd.type && okFs P f r (off + P.cellsOf fd.type) tot
def okT (P : Program) : Nat → TypeId → Bool
  | 0, _ => false
  | d + 1, t => match P.underlying t with
    | some .bool => P.cellsOf t == 1
    | some (.int _) => P.cellsOf t == 1
    | some .string => P.cellsOf t == 1
    | some (.slice e) => P.cellsOf t == 1 && decide (0 < P.cellsOf e) && okT P d e
    | some (.struct fs) => okFs P (okT P d) fs.toList 0 (P.cellsOf t)
    | some (.array n e) => n * P.cellsOf e == P.cellsOf t && okT P d e
    | _ => false
inductive AR (P : Program) (G : Gf) : TypeId → List Value → Prop
  | bool {t : TypeId} {b : Bool} (h : P.underlying t = some .bool) : AR P G t [.bool b]
  | int {t : TypeId} {k : IntKind} {n : Int} (h : P.underlying t = some (.int k)) (hw : (Lit.int k n).wf = true) : AR P G t [.int k n]
  | str {t : TypeId} {s : ByteArray} (h : P.underlying t = some .string) (hs : s.size ≤ maxLen ∧ s.size ≤ reachBytes) : AR P G t [.string s]
  | nil {t e : TypeId} (h : P.underlying t = some (.slice e)) : AR P G t [.slice none 0 0]
  | zero {t e : TypeId} {x : Addr} (h : P.underlying t = some (.slice e)) (hx : x.spot.isSome = true) : AR P G t [.slice (some x) 0 0]
  | sl {t e : TypeId} {b n k : Nat} {c : List Value} {u : TypeId} (h : P.underlying t = some (.slice e)) (hk : 0 < k) (hn : n ≤ k) (hm : k ≤ maxLen ∧ k * P.bytesOf e ≤ reachBytes) (hb : G b = some (.cells false false (P.cellsOf e) c u)) (hc : c.length = k * P.cellsOf e)
      (hi : ∀ i, i < k → AR P G e ((c.drop (i * P.cellsOf e)).take (P.cellsOf e))) : AR P G t [slc b 0 n k]
  | struct {t : TypeId} {fs : Array Field} {cs : List Value} (h : P.underlying t = some (.struct fs)) (hl : cs.length = P.cellsOf t)
      (hf : ∀ (i : Nat) (f : Field), fs[i]? = some f → AR P G f.type ((cs.drop f.offset).take (P.cellsOf f.type))) : AR P G t cs
  | array {t e : TypeId} {n : Nat} {cs : List Value} (h : P.underlying t = some (.array n e)) (hl : cs.length = P.cellsOf t)
      (hi : ∀ i, i < n → AR P G e ((cs.drop (i * P.cellsOf e)).take (P.cellsOf e))) : AR P G t cs
theorem AR.mono {P : Program} {G G' : Gf} (hg : ∀ b o, G b = some o → G' b = some o) {t : TypeId} {cs : List Value} (h : AR P G t cs) : AR P G' t cs := by
  induction h with
  | bool h => exact .bool h
  | int h hw => exact .int h hw
  | str h hs => exact .str h hs
  | nil h => exact .nil h
  | zero h hx => exact .zero h hx
  | sl h hk hn hm hb hc _ ih => exact .sl h hk hn hm (hg _ _ hb) hc ih
  | struct h hl _ ih => exact .struct h hl ih
  | array h hl _ ih => exact .array h hl ih
def NoOwn (H : AHeap) : Prop := ∀ b o, H.get b = some o → o.own = false
section
variable {H0 : Type} {enc : TypeId × Value → H0} {P : Program} {w : World} {ng : Nat}
structure Opened (P : Program) (ng : Nat) (w : World) (σ : Sg) (H : AHeap) (σ' : Sg) (H' : AHeap) : Prop where
  le : σ.le σ'
  keep : Keeps H H'
  hr : HR ng σ' H'.get w
  no : NoOwn H'
theorem Opened.refl {σ : Sg} {H : AHeap} (hr : HR ng σ H.get w) (no : NoOwn H) : Opened P ng w σ H σ H := ⟨Sg.le.refl σ, Keeps.refl H, hr, no⟩
theorem Opened.trans {σ σ1 σ2 : Sg} {H H1 H2 : AHeap} (h : Opened P ng w σ H σ1 H1) (k : Opened P ng w σ1 H1 σ2 H2) : Opened P ng w σ H σ2 H2 := ⟨h.le.trans k.le, h.keep.trans k.keep, k.hr, k.no⟩
theorem Keeps.ar {H H' : AHeap} (k : Keeps H H') {t : TypeId} {cs : List Value} (h : AR P H.get t cs) : AR P H'.get t cs := h.mono (fun b o hb => k.at_ hb)
def OpenP (P : Program) (ng : Nat) (w : World) (t : TypeId) (cs : List Value) : Prop := ∀ σ H, HR ng σ H.get w → NoOwn H → ∃ σ' H' cs', Opened P ng w σ H σ' H' ∧ VL σ' cs' cs ∧ AR P H'.get t cs' ∧ ∀ v ∈ cs', v.oneCell' = true
theorem open_row {e : TypeId} {z : Nat} : ∀ (k : Nat) (css : Nat → List Value), (∀ i, i < k → (css i).length = z ∧ OpenP P ng w e (css i)) → ∀ σ H, HR ng σ H.get w → NoOwn H →
    ∃ σ' H' c, Opened P ng w σ H σ' H' ∧ VL σ' c ((List.range k).flatMap css) ∧ c.length = k * z ∧ (∀ v ∈ c, v.oneCell' = true) ∧ ∀ i, i < k → AR P H'.get e ((c.drop (i * z)).take z)
  | 0, css, _, σ, H, hr, no => ⟨σ, H, [], Opened.refl hr no, .nil, by simp, by simp, fun i hi => by omega⟩
  | k + 1, css, h, σ, H, hr, no => by
    obtain ⟨σ1, H1, c, h1, h2, h3, h4, h5⟩ := open_row k css (fun i hi => h i (by omega)) σ H hr no
    obtain ⟨hz, hop⟩ := h k (by omega)
    obtain ⟨σ2, H2, cs', g1, g2, g3, g4⟩ := hop σ1 H1 h1.hr h1.no
    have hl : cs'.length = z := by rw [g2.length, hz]
    refine ⟨σ2, H2, c ++ cs', h1.trans g1, ?_, by rw [List.length_append, h3, hl, Nat.add_mul]; omega, ?_, ?_⟩
    · rw [List.range_succ, List.flatMap_append]
      simpa using (h2.mono g1.le).append g2
    · intro v hv
      rcases List.mem_append.1 hv with hv | hv
      · exact h4 v hv
      · exact g4 v hv
    · intro i hi
      by_cases hik : i < k
      · have hle : i * z + z ≤ c.length := by
          rw [h3]
          have : (i + 1) * z ≤ k * z := Nat.mul_le_mul_right _ hik
          rw [Nat.add_mul] at this
          omega
        rw [List.drop_append_of_le_length (by omega), List.take_append_of_le_length (by rw [List.length_drop]; omega)]
        exact g1.keep.ar (h5 i hik)
      · have : i = k := by omega
        subst this
        rw [← h3, List.drop_left, ← hl, List.take_length]
        exact g3
theorem open_fields {cs : List Value} {tot : Nat} {f : TypeId → Bool} : ∀ (fs : List Field) (off : Nat), okFs P f fs off tot = true → off ≤ cs.length → cs.length = tot →
    (∀ fd ∈ fs, f fd.type = true → OpenP P ng w fd.type ((cs.drop fd.offset).take (P.cellsOf fd.type))) → (∀ fd ∈ fs, f fd.type = true → ((cs.drop fd.offset).take (P.cellsOf fd.type)).length = P.cellsOf fd.type) → ∀ σ H, HR ng σ H.get w → NoOwn H →
    ∃ σ' H' c, Opened P ng w σ H σ' H' ∧ VL σ' c (cs.drop off) ∧ (∀ v ∈ c, v.oneCell' = true) ∧ ∀ fd ∈ fs, off ≤ fd.offset ∧ AR P H'.get fd.type ((c.drop (fd.offset - off)).take (P.cellsOf fd.type))
  | [], off, hk, hle, ht, _, _, σ, H, hr, no => by
    simp only [okFs, beq_iff_eq] at hk
    refine ⟨σ, H, [], Opened.refl hr no, ?_, by simp, by simp⟩
    rw [List.drop_eq_nil_of_le (by omega)]; exact .nil
  | fd :: fs, off, hk, hle, ht, hop, hfit, σ, H, hr, no => by
    simp only [okFs, Bool.and_eq_true, beq_iff_eq] at hk
    obtain ⟨⟨h1, h2⟩, h3⟩ := hk
    have hft0 := hfit fd (by simp) h2
    have hft : fd.offset + P.cellsOf fd.type ≤ cs.length := by rw [List.length_take, List.length_drop] at hft0; omega
    obtain ⟨σ1, H1, c1, g1, g2, g3, g4⟩ := hop fd (by simp) h2 σ H hr no
    obtain ⟨σ2, H2, c2, k1, k2, k3, k4⟩ := open_fields fs (off + P.cellsOf fd.type) h3 (by omega) ht (fun x hx => hop x (by simp [hx])) (fun x hx => hfit x (by simp [hx])) σ1 H1 g1.hr g1.no
    have hl : c1.length = P.cellsOf fd.type := by rw [g2.length, List.length_take, List.length_drop]; omega
    refine ⟨σ2, H2, c1 ++ c2, g1.trans k1, ?_, ?_, ?_⟩
    · have e : cs.drop off = (cs.drop fd.offset).take (P.cellsOf fd.type) ++ cs.drop (off + P.cellsOf fd.type) := by
        rw [h1, ← List.drop_drop, List.take_append_drop]
      rw [e]
      exact (g2.mono k1.le).append k2
    · intro v hv
      rcases List.mem_append.1 hv with hv | hv
      · exact g4 v hv
      · exact k3 v hv
    · intro x hx
      rcases List.mem_cons.1 hx with rfl | hx
      · refine ⟨by omega, ?_⟩
        rw [h1, Nat.sub_self, List.drop_zero, ← hl, List.take_left]
        exact k1.keep.ar g3
      · obtain ⟨a1, a2⟩ := k4 x hx
        refine ⟨by omega, ?_⟩
        rw [show x.offset - off = c1.length + (x.offset - (off + P.cellsOf fd.type)) by omega, List.drop_length_add_append]
        exact a2
theorem row_flat (l : List Value) (o z : Nat) : ∀ k, (List.range k).flatMap (fun i => (l.drop (o + i * z)).take z) = (l.drop o).take (k * z)
  | 0 => by simp
  | k + 1 => by
    rw [List.range_succ, List.flatMap_append, row_flat l o z k, Nat.add_mul, Nat.one_mul, List.take_add, List.drop_drop]
    simp
theorem cells_of {b : Nat} {a : Addr} {n : Nat} {l : List Value} (h : w.cells? b a n = some l) : l.length = n ∧ ∀ i, i < n → w.cell? (a.add i) = l[i]? := by
  unfold World.cells? at h
  split at h
  · exact ⟨by simpa using mapM_some_length h, fun i hi => mapM_some_get h i i (by simp [hi])⟩
  · cases h
def Rch (P : Program) (t : TypeId) (d : DataW H0) : Prop := ∀ m ∈ d.weights P t, m ≤ reachBytes
theorem rch_all {e : TypeId} : ∀ {l : List (DataW H0)}, (∀ m ∈ DataW.weightsAll P e l, m ≤ reachBytes) → ∀ d ∈ l, Rch P e d
  | [], _, d, hd => by simp at hd
  | y :: l, h, d, hd => by
    simp only [DataW.weightsAll, List.mem_append] at h
    rcases List.mem_cons.1 hd with rfl | hd
    · exact fun m hm => h m (.inl hm)
    · exact rch_all (fun m hm => h m (.inr hm)) d hd
theorem mem_weightsAll {e : TypeId} {m : Nat} : ∀ {l : List (DataW H0 × List MemPlace)} {y : DataW H0 × List MemPlace}, y ∈ l → m ∈ y.1.weights P e → m ∈ DataW.weightsAll P e (l.map (·.1))
  | [], _, hy, _ => by simp at hy
  | z :: zs, y, hy, hm => by
    simp only [List.map_cons, DataW.weightsAll, List.mem_append]
    rcases List.mem_cons.1 hy with rfl | hy
    · exact .inl hm
    · exact .inr (mem_weightsAll hy hm)
theorem rch_each : ∀ {ts : List TypeId} {l : List (DataW H0)}, (∀ m ∈ DataW.weightsEach P ts l, m ≤ reachBytes) → ∀ (i : Nat) t d, ts[i]? = some t → l[i]? = some d → Rch P t d
  | [], _, _, i, t, d, h1, _ => by simp at h1
  | _ :: _, [], _, i, t, d, _, h2 => by simp at h2
  | t0 :: ts, y :: l, h, i, t, d, h1, h2 => by
    simp only [DataW.weightsEach, List.mem_append] at h
    cases i with
    | zero => simp only [List.getElem?_cons_zero, Option.some.injEq] at h1 h2; subst h1 h2; exact fun m hm => h m (.inl hm)
    | succ i => exact rch_each (fun m hm => h m (.inr hm)) i t d (by simpa using h1) (by simpa using h2)
theorem open_cells : ∀ (fuel : Nat) (d : Nat) (t : TypeId) (cs : List Value) (x : DataW H0 × List MemPlace), okT P d t = true → Rch P t x.1 → DataW.trod enc P w 0 (fun _ => true) true fuel t cs = some x → cs.length = P.cellsOf t ∧ OpenP P ng w t cs := by
  intro fuel
  induction fuel with
  | zero => intro d t cs x _ _ h; simp [DataW.trod] at h
  | succ fuel ih =>
    intro d t cs x hok hx h
    cases d with
    | zero => simp [okT] at hok
    | succ d =>
      simp only [okT] at hok
      split at hok
      · rename_i hu
        obtain ⟨b, rfl, _⟩ := DataW.trod_bool hu h
        exact ⟨by simpa using (beq_iff_eq.1 hok).symm, fun σ H hr no => ⟨σ, H, [.bool b], Opened.refl hr no, .cons (.bool b) .nil, .bool hu, by simp [Value.oneCell']⟩⟩
      · rename_i k hu
        obtain ⟨n, rfl, _, hw⟩ := DataW.trod_int hu h
        exact ⟨by simpa using (beq_iff_eq.1 hok).symm, fun σ H hr no => ⟨σ, H, [.int k n], Opened.refl hr no, .cons (.int k n) .nil, .int hu hw, by simp [Value.oneCell']⟩⟩
      · rename_i hu
        obtain ⟨s, rfl, rfl, hs⟩ := DataW.trod_string hu h
        have hs2 : s.size ≤ reachBytes := hx _ (by simp only [DataW.weights, List.mem_singleton, Array.length_toList]; rfl)
        exact ⟨by simpa using (beq_iff_eq.1 hok).symm, fun σ H hr no => ⟨σ, H, [.string s], Opened.refl hr no, .cons (.string s) .nil, .str hu ⟨hs, hs2⟩, by simp [Value.oneCell']⟩⟩
      · rename_i e hu
        simp only [Bool.and_eq_true, beq_iff_eq, decide_eq_true_eq] at hok
        obtain ⟨⟨hc1, hz⟩, hoke⟩ := hok
        rcases DataW.trod_slice hu h with ⟨rfl, _⟩ | ⟨a, len, cap, elems, rest, m, hfu, rfl, rfl, _, hlc, hcm, hel, helems, hrest, _⟩
        · exact ⟨by simpa using hc1.symm, fun σ H hr no => ⟨σ, H, [.slice none 0 0], Opened.refl hr no, .cons .nilSl .nil, .nil hu, by simp [Value.oneCell']⟩⟩
        · cases hfu
          refine ⟨by simpa using hc1.symm, fun σ H hr no => ?_⟩
          by_cases hcap : cap = 0
          · subst hcap
            have : len = 0 := by omega
            subst this
            exact ⟨σ, H, [.slice (some ⟨0, 0, some 0⟩) 0 0], Opened.refl hr no, .cons (.slz rfl) .nil, .zero hu rfl, by simp [Value.oneCell']⟩
          · obtain ⟨hr1, hr2⟩ := hrest rfl
            have hx2 : cap * P.bytesOf e ≤ reachBytes := by
              refine hx _ ?_
              unfold DataW.weights
              rw [hu]
              simp only [List.length_map, hel, hr1, show len + (cap - len) = cap by omega]
              exact List.mem_cons_self
            have hx3 : ∀ y ∈ elems, Rch P e y.1 := fun y hy m hm => hx m (by
              unfold DataW.weights
              rw [hu]
              exact List.mem_cons_of_mem _ (List.mem_append.2 (.inl (mem_weightsAll hy hm))))
            have hx4 : ∀ y ∈ rest, Rch P e y.1 := fun y hy m hm => hx m (by
              unfold DataW.weights
              rw [hu]
              exact List.mem_cons_of_mem _ (List.mem_append.2 (.inr (mem_weightsAll hy hm))))
            have elem : ∀ i, i < cap → ∃ l, w.cells? 0 (a.add (i * P.cellsOf e)) (P.cellsOf e) = some l ∧ ∃ y, Rch P e y.1 ∧ DataW.trod enc P w 0 (fun _ => true) true fuel e l = some y := by
              intro i hi
              by_cases hil : i < len
              · have := helems i hil
                rw [List.getElem?_eq_getElem (by omega)] at this
                simp only [Option.bind_eq_some_iff] at this
                obtain ⟨l, h1, h2⟩ := this
                exact ⟨l, h1, _, hx3 _ (List.getElem_mem _), h2⟩
              · have := hr2 (i - len) (by omega)
                rw [List.getElem?_eq_getElem (by omega), show len + (i - len) = i by omega] at this
                simp only [Option.bind_eq_some_iff] at this
                obtain ⟨l, h1, h2⟩ := this
                exact ⟨l, h1, _, hx4 _ (List.getElem_mem _), h2⟩
            -- the block
            obtain ⟨l0, hl0, _⟩ := elem 0 (by omega)
            obtain ⟨hl0n, hl0c⟩ := cells_of hl0
            have hc0 := hl0c 0 hz
            rw [Nat.zero_mul, show a.add 0 = a by simp [Addr.add], show a.add 0 = a by simp [Addr.add], List.getElem?_eq_getElem (by omega)] at hc0
            obtain ⟨cc, ty, fr, hblk, hspot, hc0'⟩ : ∃ cc ty fr, w.heap[a.block]? = some (.cells cc ty fr) ∧ a.spot = none ∧ cc[a.off]? = some (l0[0]'(by omega)) := by
              unfold World.cell? at hc0
              split at hc0
              · rename_i cc ty fr hb
                split at hc0
                · cases hc0
                · rename_i hs
                  exact ⟨cc, ty, fr, hb, by simpa using hs, hc0⟩
              · cases hc0
            obtain ⟨ab, ao, asp⟩ := a
            simp only at hspot hblk hc0'
            subst hspot
            have cell : ∀ j, w.cell? ⟨ab, j, none⟩ = cc[j]? := fun j => by simp [World.cell?, hblk]
            have elem2 : ∀ i, i < cap → ((cc.toList.drop (ao + i * P.cellsOf e)).take (P.cellsOf e)).length = P.cellsOf e ∧ OpenP P ng w e ((cc.toList.drop (ao + i * P.cellsOf e)).take (P.cellsOf e)) := by
              intro i hi
              obtain ⟨l, h1, y, hyr, h2⟩ := elem i hi
              obtain ⟨hln, hlc⟩ := cells_of h1
              have hl : l = (cc.toList.drop (ao + i * P.cellsOf e)).take (P.cellsOf e) := by
                apply List.ext_getElem?
                intro j
                by_cases hj : j < P.cellsOf e
                · rw [← hlc j hj, List.getElem?_take_of_lt hj, List.getElem?_drop, add_plain, add_plain, cell]
                  simp
                · rw [List.getElem?_eq_none (by omega), List.getElem?_eq_none (by rw [List.length_take]; omega)]
              rw [← hl]
              have := ih d e l y hoke hyr h2
              exact ⟨hln, this.2⟩
            obtain ⟨σ1, H1, c, g1, g2, g3, g4, g5⟩ := open_row cap (fun i => (cc.toList.drop (ao + i * P.cellsOf e)).take (P.cellsOf e)) elem2 σ H hr no
            rw [row_flat] at g2
            have hsz : ao + cap * P.cellsOf e ≤ cc.size ∧ 0 < cap * P.cellsOf e := by
              have h1 := g2.length
              have h2 : 0 < cap * P.cellsOf e := Nat.mul_pos (by omega) hz
              rw [g3, List.length_take, List.length_drop, Array.length_toList] at h1
              omega
            have hnone := g1.hr.none_of_ge (Nat.le_refl H1.n)
            have hlt : ab < w.heap.size := by
              by_cases hh : ab < w.heap.size
              · exact hh
              · rw [Array.getElem?_eq_none (by omega)] at hblk; cases hblk
            let bi : BI := ⟨ab, ao, cap * P.cellsOf e, cc.size - ao, P.cellsOf e, false⟩
            let o2 : AO := .cells false false (P.cellsOf e) c ty
            have hor : OR σ1 w bi o2 := ⟨g3.symm, rfl, rfl, by show c.length ≤ cc.size - ao; omega, g4, cc, fr, hblk, by show cc.size = ao + (cc.size - ao); omega, by rw [g3]; exact g2, by simp⟩
            have hadd := HR.add (o2 := o2) (G' := (H1.alloc o2).get) g1.hr hnone (fun x hx => AHeap.get_alloc_ne H1 o2 hx) (AHeap.get_alloc_new H1 o2) hlt hor (fun x j ox _ hox hh => by
              have := g1.no x ox hox
              rcases hh with ⟨_, h2⟩ | ⟨h2, _⟩
              · cases h2
              · rw [this] at h2; cases h2)
            have hk : Keeps H1 (H1.alloc o2) := (Keeps.refl H1).alloc o2
            refine ⟨σ1.up H1.n bi, H1.alloc o2, [slc H1.n 0 len cap], g1.trans ⟨Sg.le_up _ hnone, hk, hadd, fun b o hb => ?_⟩, .cons ?_ .nil, ?_, by simp [slc, Value.oneCell']⟩
            · rw [alloc_get] at hb
              split at hb
              · cases hb; rfl
              · exact g1.no b o hb
            · exact VR.sl (i := bi) (o := 0) (Sg.up_same _ _ _) hlc (.inl rfl)
            · exact .sl hu (by omega) hlc ⟨hcm, hx2⟩ (AHeap.get_alloc_new H1 o2) g3 (fun i hi => hk.ar (g5 i hi))
      · rename_i fs hu
        obtain ⟨xs, m, hfu, rfl, hl, hxl, hxs⟩ := DataW.trod_struct hu h
        cases hfu
        have hx2 := rch_each (P := P) (ts := fs.toList.map (·.type)) (l := xs.map (·.1)) (fun m hm => hx m (by unfold DataW.weights; rw [hu]; exact hm))
        refine ⟨hl, fun σ H hr no => ?_⟩
        have each : ∀ fd ∈ fs.toList, okT P d fd.type = true → ((cs.drop fd.offset).take (P.cellsOf fd.type)).length = P.cellsOf fd.type ∧ OpenP P ng w fd.type ((cs.drop fd.offset).take (P.cellsOf fd.type)) := by
          intro fd hfd hokf
          obtain ⟨i, hi, hfi⟩ := List.mem_iff_getElem.1 hfd
          have hi' : i < fs.size := by simpa using hi
          have h1 : fs[i]? = some fd := by
            rw [Array.getElem?_eq_getElem hi']
            rw [← hfi]; simp
          have h2 := hxs i fd h1
          rw [List.getElem?_eq_getElem (by omega)] at h2
          exact ih d fd.type _ _ hokf (hx2 i fd.type _ (by simpa using ⟨fd, h1, rfl⟩) (by simp [List.getElem?_eq_getElem (show i < xs.length by omega)])) h2
        obtain ⟨σ', H', c, g1, g2, g3, g4⟩ := open_fields fs.toList 0 hok (Nat.zero_le _) hl (fun fd hfd hf => (each fd hfd hf).2) (fun fd hfd hf => (each fd hfd hf).1) σ H hr no
        rw [List.drop_zero] at g2
        refine ⟨σ', H', c, g1, g2, .struct hu (by rw [g2.length, hl]) (fun i f hf => ?_), g3⟩
        have := (g4 f (by
          have : fs.toList[i]? = some f := by simpa using hf
          exact List.mem_of_getElem? this)).2
        simpa using this
      · rename_i n e hu
        simp only [Bool.and_eq_true, beq_iff_eq] at hok
        obtain ⟨hn, hoke⟩ := hok
        obtain ⟨xs, m, hfu, rfl, hl, hxl, hxs⟩ := DataW.trod_array hu h
        cases hfu
        have hx2 := rch_all (P := P) (e := e) (l := xs.map (·.1)) (fun m hm => hx m (by unfold DataW.weights; rw [hu]; exact hm))
        refine ⟨hl, fun σ H hr no => ?_⟩
        obtain ⟨σ', H', c, g1, g2, g3, g4, g5⟩ := open_row (P := P) (ng := ng) (w := w) (e := e) (z := P.cellsOf e) n (fun i => (cs.drop (0 + i * P.cellsOf e)).take (P.cellsOf e)) (fun i hi => by
          have h2 := hxs i hi
          rw [List.getElem?_eq_getElem (by omega)] at h2
          rw [Nat.zero_add]
          exact ih d e _ _ hoke (hx2 _ (List.mem_map_of_mem (List.getElem_mem _))) h2) σ H hr no
        rw [row_flat, List.drop_zero, hn, ← hl, List.take_length] at g2
        exact ⟨σ', H', c, g1, g2, .array hu (by rw [g3, hn]) g5, g4⟩
      · cases hok
end
end Go.AM

set_option linter.unusedSimpArgs false
set_option linter.unusedVariables false
namespace Go.AM
open Go.RowKit Go.WideShapes Go.ChangeShapes
section
variable {H0 : Type} {enc : TypeId × Value → H0} {P : Program} {w : World} {ng : Nat}
def AV (P : Program) (G : Gf) (t : TypeId) (v : Value) : Prop := AR P G t v.cells.toList ∧ (isAggT P t = some true → ∃ cs, v = .agg cs) ∧ (isAggT P t = some false → v.oneCell' = true)
def AVs (P : Program) (G : Gf) : List TypeId → List Value → Prop
  | [], [] => True
  | t :: ts, v :: vs => AV P G t v ∧ AVs P G ts vs
  | _, _ => False
theorem AV.mono {G G' : Gf} (hg : ∀ b o, G b = some o → G' b = some o) {t : TypeId} {v : Value} (h : AV P G t v) : AV P G' t v := ⟨h.1.mono hg, h.2⟩
theorem okWide_shape {t : TypeId} {v : Value} {d : Nat} (hok : okT P d t = true) (hv : Value.okWide P w .any 0 t v) : (∃ cs, v = .agg cs ∧ isAggT P t = some true) ∨ (v.cells = #[v] ∧ isAggT P t = some false ∧ v.oneCell' = true) := by
  cases d with
  | zero => simp [okT] at hok
  | succ d =>
    simp only [okT] at hok
    split at hok
    · rename_i hu
      obtain ⟨b, rfl⟩ := okWide_bool hu hv
      exact .inr ⟨rfl, by unfold isAggT; rw [hu]; rfl, rfl⟩
    · rename_i hu
      obtain ⟨b, rfl⟩ := okWide_int hu hv
      exact .inr ⟨rfl, by unfold isAggT; rw [hu]; rfl, rfl⟩
    · rename_i hu
      obtain ⟨b, rfl⟩ := okWide_string hu hv
      exact .inr ⟨rfl, by unfold isAggT; rw [hu]; rfl, rfl⟩
    · rename_i hu
      obtain ⟨a, n, k, rfl⟩ := okWide_slice hu hv
      exact .inr ⟨rfl, by unfold isAggT; rw [hu]; rfl, rfl⟩
    · rename_i hu
      obtain ⟨cs, rfl, _⟩ := okWide_struct hu hv
      exact .inl ⟨cs, rfl, by unfold isAggT; rw [hu]; rfl⟩
    · rename_i n e hu
      unfold Value.okWide at hv
      rw [hu] at hv
      obtain ⟨cs, rfl, _⟩ := hv
      exact .inl ⟨cs, rfl, by unfold isAggT; rw [hu]; rfl⟩
    · cases hok
theorem open_arg {t : TypeId} {v : Value} {d : DataW H0} {ps : List MemPlace} (hok : okT P 20 t = true) (hv : Value.okWide P w .any 0 t v) (hx : Rch P t d) (h : DataW.Trod enc P w 0 (fun _ => true) true t v d ps) {σ : Sg} {H : AHeap} (hr : HR ng σ H.get w) (no : NoOwn H) :
    ∃ σ' H' v', Opened P ng w σ H σ' H' ∧ VR σ' v' v ∧ AV P H'.get t v' := by
  obtain ⟨fuel, hf⟩ := h
  obtain ⟨hl, hop⟩ := open_cells (ng := ng) fuel 20 t _ _ hok hx hf
  obtain ⟨σ', H', cs', g1, g2, g3, g4⟩ := hop σ H hr no
  rcases okWide_shape hok hv with ⟨cs, rfl, hag⟩ | ⟨hc, hag, hone⟩
  · refine ⟨σ', H', .agg cs'.toArray, g1, ?_, g3, fun _ => ⟨_, rfl⟩, (fun h => by rw [hag] at h; cases h)⟩
    have := VR.agg_of g2
    simpa [Value.cells] using this
  · rw [hc] at g2
    match cs', g2 with
    | [u], .cons hu .nil =>
      have h1 := g4 u (by simp)
      refine ⟨σ', H', u, g1, hu, ?_, (fun h => by rw [hag] at h; cases h), fun _ => h1⟩
      rw [cells_one h1]; exact g3
theorem open_args : ∀ {ts : List TypeId} {vs : List Value} {ds : List (DataW H0)} {ps : List MemPlace}, (∀ t ∈ ts, okT P 20 t = true) → (∀ (j : Nat) t v, ts[j]? = some t → vs[j]? = some v → Value.okWide P w .any 0 t v) → (∀ m ∈ DataW.weightsEach P ts ds, m ≤ reachBytes) → DataW.TrodAll enc P w 0 (fun _ => true) true ts vs ds ps →
    ∀ {σ : Sg} {H : AHeap}, HR ng σ H.get w → NoOwn H → ∃ σ' H' vs', Opened P ng w σ H σ' H' ∧ VL σ' vs' vs ∧ AVs P H'.get ts vs'
  | [], vs, ds, ps, _, _, _, h, σ, H, hr, no => by
    obtain ⟨rfl, _, _⟩ := trodAll_nil h
    exact ⟨σ, H, [], Opened.refl hr no, .nil, trivial⟩
  | t :: ts, vs, ds, ps, hok, hv, hx, h, σ, H, hr, no => by
    obtain ⟨v, vs', d, ds', p, q, rfl, rfl, rfl, h1, h2⟩ := trodAll_cons h
    obtain ⟨σ1, H1, u, g1, g2, g3⟩ := open_arg (ng := ng) (hok t (by simp)) (hv 0 t v rfl rfl) (fun m hm => hx m (List.mem_append.2 (.inl hm))) h1 hr no
    obtain ⟨σ2, H2, us, k1, k2, k3⟩ := open_args (fun t ht => hok t (by simp [ht])) (fun j t v a b => hv (j + 1) t v (by simpa using a) (by simpa using b)) (fun m hm => hx m (List.mem_append.2 (.inr hm))) h2 g1.hr g1.no
    exact ⟨σ2, H2, u :: us, g1.trans k1, .cons (g2.mono k1.le) k2, g3.mono (fun b o hb => k1.keep.at_ hb), k3⟩
def globsH (n : Nat) : AHeap := ⟨n, List.replicate n .dead⟩
theorem globsH_get {n b : Nat} (h : b < n) : (globsH n).get b = some .dead := by
  unfold globsH AHeap.get
  simp only [h, if_true]
  rw [List.getElem?_replicate, if_pos (by omega)]
theorem HR.globs (n : Nat) (w : World) (h : n ≤ w.heap.size) : HR n (fun b => if b < n then some ⟨b, 0, 0, 0, 0, false⟩ else none) (globsH n).get w := by
  refine ⟨fun b i hb => ?_, fun b1 b2 i1 i2 o1 o2 _ h1 _ g1 _ hw => ?_, fun b i hb => ?_, fun g hg => ⟨⟨g, 0, 0, 0, 0, false⟩, by simp [hg], rfl, rfl⟩⟩
  · by_cases hn : b < n
    · exact ⟨.dead, globsH_get hn, trivial⟩
    · simp [hn] at hb
  · by_cases hn : b1 < n
    · rw [globsH_get hn] at g1; cases g1; cases hw
    · simp [hn] at h1
  · by_cases hn : b < n
    · simp only [hn, if_true, Option.some.injEq] at hb; subst hb; exact Nat.lt_of_lt_of_le hn h
    · simp [hn] at hb
theorem globsH_no (n : Nat) : NoOwn (globsH n) := fun b o h => by
  have hb : b < n := AHeap.get_lt h
  rw [globsH_get hb] at h
  cases h; rfl
theorem law_calls {ng : Nat} {f : FuncId} {ts : List TypeId} (hts : ∀ t ∈ ts, okT P 20 t = true) (hlaw : ∀ H args, NoOwn H → AVs P H.get ts args → ∃ H', ARun P ng f args H (.bool true) H') {args : Array Value} {ds : List (DataW H0)} {ps : List MemPlace}
    (hA : DataW.TrodAll enc P w 0 (fun _ => true) true ts args.toList ds ps) (hws : (DataW.weightsEach P ts ds).all (· ≤ reachBytes) = true) (hval : ∀ (j : Nat) t v, ts[j]? = some t → args[j]? = some v → Value.okWide P w .any 0 t v)
    (hng : ng ≤ w.heap.size := by exact Nat.zero_le _) (hb : bodiedB P f = true := by kernel_rfl) :
    Calls P f args w fun e w' => e = .returned (.bool true) ∧ Below w.heap.size w w' := by
  obtain ⟨σ, H, args', g1, g2, g3⟩ := open_args (ng := ng) hts (fun j t v a b => hval j t v a (by simpa using b)) (fun m hm => by simpa using List.all_eq_true.1 hws m hm) hA (HR.globs ng w hng) (globsH_no ng)
  obtain ⟨H', _, _, hrun⟩ := hlaw H args' g1.no g3
  refine ((hrun σ w args.toList g1.hr g2).calls (bodied_of hb)).mono ?_
  rintro e w' ⟨v', σ', rfl, k1, k2, k3⟩
  rw [k3.bool_inv]
  refine ⟨rfl, k2.os, k2.tape, k2.output, k2.size, fun k hk => k2.keep k hk (fun b i o hb ho hown => ?_)⟩
  rw [g1.no b o ho] at hown; cases hown
theorem trodAll_stays (hl : laidOutB P = true) {W W' : World} (hb : Below W.heap.size W W') {sp : Nat → Bool} : ∀ {ts : List TypeId} {vs : List Value} {ds : List (DataW H0)} {ps : List MemPlace}, (∀ t ∈ ts, P.readableRec t = true ∧ t < P.types.size) →
    DataW.TrodAll enc P W 0 (fun _ => true) true ts vs ds ps → (∀ x ∈ ps, x.block < W.heap.size) → (∀ p ∈ ps, sp p.block = true) → DataW.TrodAll enc P W' 0 sp true ts vs ds ps
  | [], vs, ds, ps, _, h, _, _ => by obtain ⟨rfl, rfl, rfl⟩ := trodAll_nil h; rfl
  | t :: ts, vs, ds, ps, hr, h, hlt, hsp => by
    obtain ⟨v, vs', d, ds', p, q, rfl, rfl, rfl, h1, h2⟩ := trodAll_cons h
    obtain ⟨r1, r2⟩ := hr t (by simp)
    exact ⟨p, q, WideElems.Trod_stays hl r1 r2 h1 (fun x hx => hb.same (hlt x (by simp [hx]))) (fun x hx => hsp x (by simp [hx])),
      trodAll_stays hl hb (fun t ht => hr t (by simp [ht])) h2 (fun x hx => hlt x (by simp [hx])) (fun x hx => hsp x (by simp [hx])), rfl⟩
theorem post_of_below {H : Type} {enc : TypeId × Value → H} {f : Func} {s : ChangeSpec} {apart fresh handsOn again : Bool} {W W' : World} {args : Array Value} {v : Value} {ds gs : List (DataW H)} {before pa pv : List MemPlace}
    (hW : DataW.Whole enc P f.params.toList s.vars apart W args.toList ds gs before)
    (hres : ∀ (b : Nat) (sp : Nat → Bool) (hd : Bool), DataW.TrodAll enc P W' b sp hd f.resultTypes.toList (v.resultList f.resultTypes.size) (s.fn H (ds ++ gs)).results [])
    (hargs : ∀ sp : Nat → Bool, (∀ p ∈ before, sp p.block = true) → DataW.TrodAll enc P W' 0 sp true f.params.toList args.toList (s.fn H (ds ++ gs)).args pa)
    (hvars : ∀ sp : Nat → Bool, (∀ p ∈ before, sp p.block = true) → DataW.TrodVars enc P W' sp s.vars (s.fn H (ds ++ gs)).vars pv)
    (hps : before = pa ++ pv) (hb : Below W.heap.size W W')
    (hok : ∀ (j : Nat) (t : TypeId) (r : Value), f.resultTypes[j]? = some t → (v.resultList f.resultTypes.size)[j]? = some r → Value.okWide P W' .any 0 t r) :
    s.post enc P f apart fresh handsOn again W args v W' := by
  have hlt : ∀ p ∈ before, p.block < W.heap.size := fun p hp => hW.lt p hp
  have hold : ∀ p ∈ before, (fun b => decide (b < W.heap.size)) p.block = true := fun p hp => by simpa using hlt p hp
  refine ⟨ds, gs, before, [], pa, pv, hW, hres _ _ _, hargs _ hold, hvars _ hold, World.keptBut_mono (fun p hp => ⟨hp, ?_⟩) (hb.frame (· ∈ before)), fun _ => ?_⟩
  · rw [hps, List.mem_append] at hp
    exact Or.inr hp
  · obtain ⟨_, _, _, _, _, hz, hn⟩ := hW
    refine ⟨hok, _, _, ([] ++ pa) ++ pv, ⟨[] ++ pa, pv, trodAll_append (hargs _ (fun _ _ => rfl)) (hres _ _ _), hvars _ (fun _ _ => rfl), rfl, ?_, ?_⟩, ?_⟩
    · intro b off hp
      have hin : MemPlace.cell b off ∈ before := by rw [hps]; simpa using hp
      rw [hb.frozen (hlt _ hin)]
      exact hz b off hin
    · intro ha
      have := hn ha
      rw [hps] at this
      simpa using this
    · intro p hp _
      rw [hps]
      simpa using hp
end
end Go.AM

set_option linter.unusedSimpArgs false
set_option linter.unusedVariables false
namespace Go.AM
section
variable {P : Program} {G : Gf} {t e : TypeId} {v : Value} {cs : List Value}
theorem AR.int_inv {k : IntKind} (hu : P.underlying t = some (.int k)) (h : AR P G t cs) : ∃ n, cs = [.int k n] ∧ (Lit.int k n).wf = true := by
  cases h with
  | int h hw => rw [hu] at h; cases h; exact ⟨_, rfl, hw⟩
  | bool h => rw [hu] at h; cases h
  | str h _ => rw [hu] at h; cases h
  | nil h => rw [hu] at h; cases h
  | zero h _ => rw [hu] at h; cases h
  | sl h => rw [hu] at h; cases h
  | struct h _ => rw [hu] at h; cases h
  | array h _ => rw [hu] at h; cases h
theorem AR.slice_inv (hu : P.underlying t = some (.slice e)) (h : AR P G t cs) : cs = [.slice none 0 0] ∨ (∃ x : Addr, x.spot.isSome = true ∧ cs = [.slice (some x) 0 0]) ∨
    ∃ b n k c u, cs = [slc b 0 n k] ∧ 0 < k ∧ n ≤ k ∧ (k ≤ maxLen ∧ k * P.bytesOf e ≤ reachBytes) ∧ G b = some (.cells false false (P.cellsOf e) c u) ∧ c.length = k * P.cellsOf e ∧ ∀ i, i < k → AR P G e ((c.drop (i * P.cellsOf e)).take (P.cellsOf e)) := by
  cases h with
  | int h hw => rw [hu] at h; cases h
  | bool h => rw [hu] at h; cases h
  | str h hs => rw [hu] at h; cases h
  | nil h => exact .inl rfl
  | zero h hx => exact .inr (.inl ⟨_, hx, rfl⟩)
  | sl h a b c d e f => rw [hu] at h; cases h; exact .inr (.inr ⟨_, _, _, _, _, rfl, a, b, c, d, e, f⟩)
  | struct h _ => rw [hu] at h; cases h
  | array h _ => rw [hu] at h; cases h
theorem AV.one (ha : isAggT P t = some false) (h : AV P G t v) : v.cells.toList = [v] := by
  rw [cells_one (h.2.2 ha)]
theorem AV.int_inv {k : IntKind} (hu : P.underlying t = some (.int k)) (h : AV P G t v) : ∃ n, v = .int k n ∧ (Lit.int k n).wf = true := by
  have h1 := h.one (by unfold isAggT; rw [hu]; rfl)
  obtain ⟨n, h2, h3⟩ := h.1.int_inv hu
  rw [h1] at h2
  exact ⟨n, by simpa using h2, h3⟩
theorem AR.bytes (hu : P.underlying e = some (.int .u8)) (hz : P.cellsOf e = 1) : ∀ (k : Nat) (c : List Value), c.length = k * P.cellsOf e → (∀ i, i < k → AR P G e ((c.drop (i * P.cellsOf e)).take (P.cellsOf e))) → ∃ l : List UInt8, c = cellsOf l
  | 0, c, hc, _ => ⟨[], List.eq_nil_of_length_eq_zero (by simpa using hc)⟩
  | k + 1, c, hc, h => by
    rw [hz] at hc h
    match c, hc with
    | x :: c, hc =>
      obtain ⟨n, h1, h2⟩ := (h 0 (by omega)).int_inv hu
      simp at h1
      obtain ⟨l, hl⟩ := AR.bytes hu hz k c (by rw [hz]; simpa using hc) (fun i hi => by
        have := h (i + 1) (by omega)
        rw [hz]
        simpa using this)
      simp only [Lit.wf, Bool.and_eq_true, decide_eq_true_eq, IntKind.min, IntKind.max, IntKind.signed, IntKind.bits] at h2
      obtain ⟨m, rfl⟩ : ∃ m : Nat, n = m := ⟨n.toNat, by simp at h2; omega⟩
      refine ⟨UInt8.ofNat m :: l, ?_⟩
      have hm : m % 256 = m := by simp at h2; omega
      simp [cellsOf, h1, hl, hm]
theorem AR.bs (hu : P.underlying t = some (.slice e)) (he : P.underlying e = some (.int .u8)) (hz : P.cellsOf e = 1) {H : AHeap} {v : Value} (h : AR P H.get t [v]) : ∃ l : List UInt8, BS H v l := by
  rcases h.slice_inv hu with h2 | ⟨x, hx, h2⟩ | ⟨b, n, k, c, u, h2, h3, h4, h5, h6, h7, h8⟩
  · cases h2; exact ⟨[], BS.nil H⟩
  · cases h2
    refine ⟨[], ⟨⟨_, _, rfl⟩, ?_⟩⟩
    obtain ⟨b, o, s⟩ := x
    cases s with
    | none => simp at hx
    | some s => simp [elemsA, cellsOf]
  · cases h2
    obtain ⟨l, rfl⟩ := AR.bytes he hz k c h7 h8
    rw [cellsOf_length, hz] at h7
    refine ⟨l.take n, ⟨⟨some ⟨b, 0, none⟩, k, ?_⟩, ?_⟩⟩
    · rw [List.length_take, Nat.min_eq_left (by omega)]; rfl
    · simp only [elemsA, slc, h6]
      rw [if_pos (by rw [cellsOf_length]; omega), List.drop_zero, Nat.mul_one]
      simp [cellsOf, List.map_take]
end
end Go.AM

set_option linter.unusedSimpArgs false
set_option linter.unusedVariables false
namespace Go.AM
section
variable {P : Program} {ng : Nat} {H : AHeap} {Q : AQ} {fr tm : List Value}
theorem W_loop2 {c : ACode} (I : Nat → List Value → AHeap → Prop) (n : Nat) (h0 : I n fr H)
    (hs : ∀ (Q' : AQ) (k : Nat) (fr : List Value) (H : AHeap), I k fr H → (∀ k' fr H, I k' fr H → k' < k → Q' .normal fr H) → (∀ i fr H, Q (.exit i) fr H → Q' (.exit i) fr H) → (∀ fr H, Q .ret fr H → Q' .ret fr H) → W P ng c Q' fr H) : W P ng (.loop c) Q fr H :=
  ⟨I, n, h0, fun k fr H hI => hs _ k fr H hI (fun k' fr H h1 h2 => ⟨k', h2, h1⟩) (fun _ _ _ h => h) (fun _ _ h => h)⟩
theorem alloc_set (H : AHeap) (o o' : AO) : (H.alloc o).set H.n o' = H.alloc o' := by
  simp [AHeap.alloc, AHeap.set]
theorem a_b2sB {v : Value} {l : List UInt8} (h : BS H v l) : asem (.b2s v) H = some (.string ⟨l.toArray⟩, H) := by
  simp only [asem, h.el, bytesOf_cellsOf]
theorem bytes_append (p q : List UInt8) : (⟨p.toArray⟩ : ByteArray) ++ ⟨q.toArray⟩ = ⟨(p ++ q).toArray⟩ := by
  rw [← bCat_eq]; rfl
theorem bytes_eq (p q : List UInt8) : decide ((⟨p.toArray⟩ : ByteArray) = ⟨q.toArray⟩) = decide (p = q) := by
  rw [bstr_eq, bEq_eq]
theorem a_s2bl (e : Nat) (l : List UInt8) : asem (.s2b e (.string ⟨l.toArray⟩)) H = some (slc H.n 0 l.length l.length, H.alloc (.cells true true 1 (cellsOf l) e)) := by
  have hs : (⟨l.toArray⟩ : ByteArray).size = l.length := by simp [ByteArray.size]
  simp only [asem, hs]
  rfl
theorem bs_new (H : AHeap) (e : Nat) (room : Bool) (l : List UInt8) : BS (H.alloc (.cells true room 1 (cellsOf l) e)) (slc H.n 0 l.length l.length) l :=
  ⟨⟨_, _, rfl⟩, elems_own (AHeap.get_alloc_new H _) (by simp [cellsOf])⟩
theorem cells_set (l : List UInt8) (j n : Nat) : (cellsOf l).set j (.int .u8 ((UInt8.ofNat n).toNat)) = cellsOf (l.set j (UInt8.ofNat n)) := by
  simp [cellsOf, List.map_set]
theorem cells_get {l : List UInt8} {j : Nat} (h : j < l.length) : (cellsOf l)[j]? = some (.int .u8 l[j].toNat) := by simp [cellsOf, h]
theorem inc_byte (b : UInt8) : (IntKind.u8.wrap ((b.toNat : Int) + 1)) = ((UInt8.ofNat (b.toNat + 1)).toNat : Int) := by
  rw [wrap_u8]
  simp only [UInt8.toNat_ofNat']; omega
theorem wrap_succ {n : Nat} (h : n + 1 < 9223372036854775808) : IntKind.i64.wrap ((n : Int) + 1) = ((n + 1 : Nat) : Int) := by rw [wrap_i64 (by omega) (by omega)]; push_cast; rfl
end
set_option linter.defProp false in
def ANs := (And.intro (And.intro (And.intro (And.intro (And.intro (And.intro (And.intro @W_skip @W_reg) (And.intro @W_seq (And.intro @w_cond @cond_true))) (And.intro (And.intro @cond_false (And.intro @W_exit @W_ret)) (And.intro @W_dreg (And.intro @r_nil @r_cons)))) (And.intro (And.intro (And.intro @r_consg (And.intro @gd_true @gd_false)) (And.intro @go_some (And.intro @st_call @st_callv))) (And.intro (And.intro @d_nil (And.intro @d_cons @d_consg)) (And.intro @gdD_true (And.intro @gdD_false @goD_some))))) (And.intro (And.intro (And.intro (And.intro @goD_some' @stD_call) (And.intro @st_mov (And.intro @st_pick @st_new))) (And.intro (And.intro @st_box (And.intro @st_build @st_bslice)) (And.intro @st_load1 (And.intro @st_loadn @st_store1)))) (And.intro (And.intro (And.intro @st_storen (And.intro @st_nilck @st_bin)) (And.intro @st_eqv (And.intro @st_un @st_i2i))) (And.intro (And.intro @st_s2s (And.intro @st_s2b @st_b2s)) (And.intro @st_iface (And.intro @st_mkfn @st_mksl)))))) (And.intro (And.intro (And.intro (And.intro (And.intro @st_slstr @st_slsl) (And.intro @st_faddr (And.intro @st_fld1 @st_fldn))) (And.intro (And.intro @st_iaddr (And.intro @st_idxs @st_assert)) (And.intro @st_extract (And.intro @st_len @st_mark)))) (And.intro (And.intro (And.intro @sd_pick (And.intro @sd_new @sd_box)) (And.intro @sd_build (And.intro @sd_bslice @sd_load1))) (And.intro (And.intro @sd_loadn (And.intro @sd_store1 @sd_storen)) (And.intro @sd_nilck (And.intro @sd_bin @sd_eqv))))) (And.intro (And.intro (And.intro (And.intro @sd_un @sd_i2i) (And.intro @sd_s2s (And.intro @sd_s2b @sd_b2s))) (And.intro (And.intro @sd_iface (And.intro @sd_mkfn @sd_mksl)) (And.intro @sd_slstr (And.intro @sd_slsl @sd_faddr)))) (And.intro (And.intro (And.intro @sd_fld1 (And.intro @sd_fldn @sd_iaddr)) (And.intro @sd_idxs (And.intro @sd_assert @sd_extract))) (And.intro (And.intro @sd_len (And.intro @sd_mark @sd_mov)) (And.intro @a_mov (And.intro @a_pick @a_new))))))) (And.intro (And.intro (And.intro (And.intro (And.intro (And.intro @a_box @a_build) (And.intro @a_load1 (And.intro @a_loadn @a_nilck))) (And.intro (And.intro @a_bin (And.intro @a_eqv @a_not)) (And.intro @a_neg (And.intro @a_i2i @a_s2s)))) (And.intro (And.intro (And.intro @a_s2b (And.intro @a_iface @a_mkfn)) (And.intro @a_faddr (And.intro @a_fld1 @a_iaddr))) (And.intro (And.intro @a_assert (And.intro @a_extract @a_len)) (And.intro @a_lenc (And.intro @a_lens @AX_fr))))) (And.intro (And.intro (And.intro (And.intro @AX_tm @AX_c) (And.intro @AX_fn (And.intro @AX_g @D_no))) (And.intro (And.intro @D_no' (And.intro @D_tm @D_tm')) (And.intro @D_fr (And.intro @D_fr' @getD_nil')))) (And.intro (And.intro (And.intro @want_x (And.intro @bi_tt @bi_tf)) (And.intro @bi_ft (And.intro @bi_ff @pk_t))) (And.intro (And.intro @pk_f (And.intro @resO0 @resO1)) (And.intro @resO2 (And.intro @resO3 @e_sn)))))) (And.intro (And.intro (And.intro (And.intro (And.intro @e_ss @e_pn) (And.intro @e_ps (And.intro @e_bb @fill0))) (And.intro (And.intro @fill1 (And.intro @b_add @b_sub)) (And.intro @b_mul (And.intro @b_eql @b_neq)))) (And.intro (And.intro (And.intro @b_lss (And.intro @b_leq @b_gtr)) (And.intro @b_geq (And.intro @b_and @b_or))) (And.intro (And.intro @b_xor (And.intro @b_seql @b_sneq)) (And.intro @b_slss (And.intro @at_n @at_e))))) (And.intro (And.intro (And.intro (And.intro @at_r (And.intro @ib_n @ib_r)) (And.intro @ib_e (And.intro @ib_x @one_int))) (And.intro (And.intro @one_bool (And.intro @one_str @one_sl)) (And.intro @one_slc (And.intro @one_ptr @one_pn)))) (And.intro (And.intro (And.intro @one_if (And.intro @one_map @bnd_none)) (And.intro @o_int (And.intro @o_bool @o_str))) (And.intro (And.intro @o_sl (And.intro @o_slc @o_ptr)) (And.intro @o_pn (And.intro @o_if @o_map))))))))
set_option linter.defProp false in
def ANc := (And.intro (And.intro (And.intro (And.intro (And.intro @List.getD_cons_zero.{0} @List.getD_cons_succ.{0}) (And.intro @List.set_cons_zero.{0} @List.set_cons_succ.{0})) (And.intro (And.intro @List.map_cons.{0,0} @List.map_nil.{0,0}) (And.intro @Option.map_some.{0,0} (And.intro @Option.map_none.{0,0} @beq_self_eq_true.{0})))) (And.intro (And.intro (And.intro @if_true.{1} @if_true.{0}) (And.intro @Bool.false_eq_true @if_false.{1})) (And.intro (And.intro @if_false.{0} @Bool.not_true) (And.intro @Bool.not_false (And.intro @Nat.add_zero @Nat.zero_add))))) (And.intro (And.intro (And.intro (And.intro @Nat.mul_one @Int.toNat_natCast) (And.intro @List.getElem?_cons_zero.{0} @List.getElem?_cons_succ.{0})) (And.intro (And.intro @true_and @and_true) (And.intro @false_and (And.intro @Exit.exit.injEq @Bool.true_beq)))) (And.intro (And.intro (And.intro @Bool.false_beq @beq_true) (And.intro @beq_false (And.intro @List.length_cons.{0} @List.length_nil.{0}))) (And.intro (And.intro @List.all_cons.{0} @List.all_nil.{0}) (And.intro @Bool.and_true (And.intro @Bool.true_and @and_self))))))
end Go.AM
