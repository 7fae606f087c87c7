/- The abstract machine, part I: code. Frames, regions in their own order, calls, and the abstract code's weakest precondition. -/
import Derived.Test.YtlmikadohcdclaaAmH
import Derived.Tactics
import Derived.Deep.LoopGhost
set_option linter.unusedSimpArgs false
set_option linter.unusedVariables false
namespace Go.AM

inductive AX
  | fr (i : Nat)
  | tm (i : Nat)
  | c (v : Value)
  | g (n : Nat)
  | fn (f : FuncId)

def AX.ev (fr tm : List Value) : AX → Value
  | .fr i => fr.getD i undef
  | .tm i => tm.getD i undef
  | .c v => v
  | .g n => .pointer (some ⟨n, 0, none⟩)
  | .fn f => .func (.func f) #[] #[]

inductive D
  | no
  | fr (i : Nat)
  | tm

def D.frame (d : D) (v : Value) (fr : List Value) : List Value := match d with
  | .fr i => fr.set i v
  | _ => fr
def D.temps (d : D) (v : Value) (tm : List Value) : List Value := match d with
  | .tm => v :: tm
  | _ => tm

structure AOper where
  op : AOp AX
  dst : D
  g : Option (AX × Bool)

def wantA (g : Option (AX × Bool)) (fr tm : List Value) : Bool := match g with
  | none => true
  | some (x, b) => match x.ev fr tm with
    | .bool t => t == b
    | _ => false

def Callable (P : Program) (f : FuncId) : Prop := ∃ fn, P.funcs[f]? = some fn ∧ fn.body.isSome = true ∧ (fn.name == "runtime.NumGoroutine") = false

/-- A call, from abstract heap to abstract heap. -/
def ARun (P : Program) (ng : Nat) (f : FuncId) (args : List Value) (H : AHeap) (v : Value) (H' : AHeap) : Prop :=
  Callable P f ∧ H.n ≤ H'.n ∧ ∀ (σ : Sg) (w : World) (args' : List Value), HR ng σ H.get w → VL σ args args' →
    Calls P f args'.toArray w fun e w' => ∃ v' σ', e = .returned v' ∧ HR ng σ' H'.get w' ∧ Ext H.n σ H.get w H'.n σ' H'.get w' ∧ VR σ' v v'

def stepA (P : Program) (ng : Nat) (op : AOp Value) (H : AHeap) (K : Value → AHeap → Prop) : Prop := match op with
  | .callf f xs => ∃ v H', ARun P ng f xs H v H' ∧ K v H'
  | .callv f xs => match f with
    | .func (.func g) first cap => ∃ v H', ARun P ng g (first.toList ++ xs ++ cap.toList) H v H' ∧ K v H'
    | _ => False
  | op => ∃ v H', asem op H = some (v, H') ∧ K v H'

/-- The operations one behind the other. -/
def RW (P : Program) (ng : Nat) : List AOper → List Value → List Value → AHeap → (List Value → AHeap → Prop) → Prop
  | [], fr, _, H, K => K fr H
  | o :: r, fr, tm, H, K =>
    if wantA o.g fr tm then stepA P ng (o.op.map (AX.ev fr tm)) H fun v H' => RW P ng r (o.dst.frame v fr) (o.dst.temps v tm) H' K
    else RW P ng r (o.dst.frame undef fr) (o.dst.temps undef tm) H K

theorem appA_n {H : AHeap} {e esz bytes : Nat} {s : Value} {m : Nat} {news : List Value} {v : Value} {H' : AHeap} (h : appA H e esz bytes s m news = some (v, H')) : H.n ≤ H'.n := by
  unfold appA at h
  repeat' split at h
  all_goals first
    | (cases h; done)
    | (simp only [Option.some.injEq, Prod.mk.injEq] at h; obtain ⟨_, rfl⟩ := h; simp [AHeap.alloc, AHeap.set])

theorem asem_n {op : AOp Value} {H : AHeap} {v : Value} {H' : AHeap} (h : asem op H = some (v, H')) : H.n ≤ H'.n := by
  cases op
  case app e esz b s x =>
    simp only [asem] at h
    repeat' split at h
    all_goals first
      | (cases h; done)
      | exact appA_n h
  case apps e b s x =>
    simp only [asem] at h
    split at h
    · exact appA_n h
    · cases h
  all_goals simp only [asem, Option.map_eq_some_iff, Prod.mk.injEq] at h
  all_goals (repeat' split at h)
  all_goals first
    | (cases h; done)
    | (obtain ⟨_, _, _, rfl⟩ := h; exact Nat.le_refl _)
    | (simp only [Option.some.injEq, Prod.mk.injEq] at h; obtain ⟨_, rfl⟩ := h; simp [AHeap.alloc, AHeap.set]; done)
    | (simp only [Option.map_eq_some_iff, Prod.mk.injEq] at h; obtain ⟨_, _, _, rfl⟩ := h; exact Nat.le_refl _)

/-! ### Frames -/

def posOf : List Nat → Nat → Option Nat
  | [], _ => none
  | x :: l, t => if x = t then some 0 else (posOf l t).map (· + 1)

theorem posOf_get : ∀ {l : List Nat} {t i : Nat}, posOf l t = some i → l[i]? = some t
  | x :: l, t, i, h => by
    simp only [posOf] at h
    split at h
    · rename_i e; cases h; subst e; rfl
    · simp only [Option.map_eq_some_iff] at h
      obtain ⟨j, hj, rfl⟩ := h
      simpa using posOf_get hj
theorem posOf_none : ∀ {l : List Nat} {t : Nat}, posOf l t = none → t ∉ l
  | [], t, _ => by simp
  | x :: l, t, h => by
    simp only [posOf] at h
    split at h
    · cases h
    · rename_i e
      simp only [Option.map_eq_none_iff] at h
      simp only [List.mem_cons, not_or]
      exact ⟨Ne.symm e, posOf_none h⟩

/-- The frame of the abstract machine lies in the model's. -/
structure ER (σ : Sg) (N : Nat) (sl tl : List Nat) (fr tm : List Value) (a : Act) : Prop where
  size : a.tmps.size = N
  frl : fr.length = sl.length
  tml : tm.length = tl.length
  frv : ∀ (i s : Nat) (v : Value), sl[i]? = some s → fr[i]? = some v → ∃ v', a.tmps[s]? = some v' ∧ VR σ v v'
  tmv : ∀ (i s : Nat) (v : Value), tl[i]? = some s → tm[i]? = some v → ∃ v', a.tmps[s]? = some v' ∧ VR σ v v'
  dfr : a.defers = []

theorem ER.mono {σ σ' : Sg} (h : σ.le σ') {N : Nat} {sl tl : List Nat} {fr tm : List Value} {a : Act} (e : ER σ N sl tl fr tm a) : ER σ' N sl tl fr tm a :=
  ⟨e.size, e.frl, e.tml, fun i s v h1 h2 => by obtain ⟨v', a, b⟩ := e.frv i s v h1 h2; exact ⟨v', a, b.mono h⟩, fun i s v h1 h2 => by obtain ⟨v', a, b⟩ := e.tmv i s v h1 h2; exact ⟨v', a, b.mono h⟩, e.dfr⟩

theorem ER.forget {σ : Sg} {N : Nat} {sl tl : List Nat} {fr tm : List Value} {a : Act} (e : ER σ N sl tl fr tm a) : ER σ N sl [] fr [] a :=
  ⟨e.size, e.frl, rfl, e.frv, fun i s v h => by simp at h, e.dfr⟩

def compX (ng : Nat) (sl tl : List Nat) : Operand → Option AX
  | .tmp t => match posOf sl t with
    | some i => some (.fr i)
    | none => (posOf tl t).map .tm
  | .const v => if plainV v then some (.c v) else none
  | .global g => if g < ng then some (.g g) else none
  | .func f => some (.fn f)

theorem func_VR (σ : Sg) (f : FuncId) : VR σ (.func (.func f) #[] #[]) (.func (.func f) #[] #[]) := .func _ _ _ _ _ rfl (fun i a => by simp at a) rfl (fun i a => by simp at a)

theorem compX_sound {σ : Sg} {ng N : Nat} {sl tl : List Nat} {fr tm : List Value} {a : Act} (e : ER σ N sl tl fr tm a) {G : Gf} {w : World} (hr : HR ng σ G w) {x : Operand} {ax : AX} (h : compX ng sl tl x = some ax) : VR σ (ax.ev fr tm) (a.eval x) := by
  cases x with
  | tmp t =>
    simp only [compX] at h
    split at h
    · rename_i i hi
      cases h
      have hs := posOf_get hi
      have hlt : i < fr.length := by rw [e.frl]; exact (List.getElem?_eq_some_iff.1 hs).1
      obtain ⟨v', h1, h2⟩ := e.frv i t fr[i] hs (List.getElem?_eq_getElem hlt)
      simp only [AX.ev, Act.eval, List.getD, List.getElem?_eq_getElem hlt, Option.getD_some, Array.getD_eq_getD_getElem?, h1]
      exact h2
    · simp only [Option.map_eq_some_iff] at h
      obtain ⟨i, hi, rfl⟩ := h
      have hs := posOf_get hi
      have hlt : i < tm.length := by rw [e.tml]; exact (List.getElem?_eq_some_iff.1 hs).1
      obtain ⟨v', h1, h2⟩ := e.tmv i t tm[i] hs (List.getElem?_eq_getElem hlt)
      simp only [AX.ev, Act.eval, List.getD, List.getElem?_eq_getElem hlt, Option.getD_some, Array.getD_eq_getD_getElem?, h1]
      exact h2
  | const v =>
    simp only [compX] at h
    split at h
    · rename_i hp; cases h; exact plainV_VR hp
    · cases h
  | global g =>
    simp only [compX] at h
    split at h
    · rename_i hg
      cases h
      obtain ⟨i, h1, h2, h3⟩ := hr.glob g hg
      have := VR.ptr (σ := σ) (b := g) (o := 0) h1
      rw [h2, h3] at this
      exact this
    · cases h
  | func f =>
    simp only [compX] at h
    cases h
    exact func_VR σ f

/-- A value laid into its slot. -/
def compD (N : Nat) (sl tl : List Nat) : Option Tmp → Option (D × List Nat)
  | none => some (.no, tl)
  | some t => match posOf sl t with
    | some i => if t < N then some (.fr i, tl) else none
    | none => match posOf tl t with
      | some _ => none
      | none => if t < N then some (.tm, t :: tl) else none

theorem ER.put {σ : Sg} {N : Nat} {sl tl tl' : List Nat} {fr tm : List Value} {a : Act} (e : ER σ N sl tl fr tm a) (hnd : sl.Nodup) (hdis : ∀ t ∈ tl, t ∉ sl) {dst : Option Tmp} {d : D} (hd : compD N sl tl dst = some (d, tl')) {v v' : Value} (hv : VR σ v v') :
    ER σ N sl tl' (d.frame v fr) (d.temps v tm) (a.put dst v') ∧ ∀ t ∈ tl', t ∉ sl := by
  cases dst with
  | none => simp only [compD, Option.some.injEq, Prod.mk.injEq] at hd; obtain ⟨rfl, rfl⟩ := hd; exact ⟨e, hdis⟩
  | some t =>
    simp only [compD] at hd
    split at hd
    · rename_i i hi
      split at hd
      · rename_i hN
        simp only [Option.some.injEq, Prod.mk.injEq] at hd
        obtain ⟨rfl, rfl⟩ := hd
        have hti := posOf_get hi
        refine ⟨⟨by simp [Act.put, e.size], by simp [D.frame, e.frl], e.tml, ?_, ?_, e.dfr⟩, hdis⟩
        · intro j s u hj hu
          simp only [D.frame, List.getElem?_set] at hu
          by_cases hij : i = j
          · subst hij
            rw [hti] at hj; cases hj
            split at hu
            · rename_i h1
              split at hu
              · cases hu; exact ⟨v', by simp [Act.put, e.size, hN], hv⟩
              · cases hu
            · rename_i h1; exact absurd rfl h1
          · rw [if_neg hij] at hu
            obtain ⟨u', h1, h2⟩ := e.frv j s u hj hu
            refine ⟨u', ?_, h2⟩
            have hne : t ≠ s := fun he => by
              subst he
              obtain ⟨l1, e1⟩ := List.getElem?_eq_some_iff.1 hti
              obtain ⟨l2, e2⟩ := List.getElem?_eq_some_iff.1 hj
              exact hij ((List.getElem_inj hnd).1 (e1.trans e2.symm))
            simp only [Act.put]
            rw [Array.getElem?_setIfInBounds_ne hne]; exact h1
        · intro j s u hj hu
          obtain ⟨u', h1, h2⟩ := e.tmv j s u hj hu
          refine ⟨u', ?_, h2⟩
          have hne : t ≠ s := fun he => by
            subst he
            exact hdis t (List.mem_of_getElem? hj) (List.mem_of_getElem? hti)
          simp only [Act.put]
          rw [Array.getElem?_setIfInBounds_ne hne]; exact h1
      · cases hd
    · rename_i hi
      split at hd
      · cases hd
      · rename_i hj0
        split at hd
        · rename_i hN
          simp only [Option.some.injEq, Prod.mk.injEq] at hd
          obtain ⟨rfl, rfl⟩ := hd
          have h1 := posOf_none hi
          have h2 := posOf_none hj0
          refine ⟨⟨by simp [Act.put, e.size], e.frl, by simp [D.temps, e.tml], ?_, ?_, e.dfr⟩, ?_⟩
          · intro j s u hj hu
            obtain ⟨u', k1, k2⟩ := e.frv j s u hj hu
            refine ⟨u', ?_, k2⟩
            have hne : t ≠ s := fun he => by subst he; exact h1 (List.mem_of_getElem? hj)
            simp only [Act.put]
            rw [Array.getElem?_setIfInBounds_ne hne]; exact k1
          · intro j s u hj hu
            cases j with
            | zero =>
              simp [D.temps] at hj hu
              subst hj; subst hu
              exact ⟨v', by simp [Act.put, e.size, hN], hv⟩
            | succ j =>
              simp [D.temps] at hj hu
              obtain ⟨u', k1, k2⟩ := e.tmv j s u hj hu
              refine ⟨u', ?_, k2⟩
              have hne : t ≠ s := fun he => by subst he; exact h2 (List.mem_of_getElem? hj)
              simp only [Act.put]
              rw [Array.getElem?_setIfInBounds_ne hne]; exact k1
          · intro s hs
            simp only [List.mem_cons] at hs
            rcases hs with rfl | hs
            · exact h1
            · exact hdis s hs
        · cases hd

/-- An operation and its guard, compiled. -/
def compG (ng : Nat) (sl tl : List Nat) (ops : Array Oper) : Option (Nat × Bool) → Option (Option (AX × Bool))
  | none => some none
  | some (j, b) => match (ops[j]?).bind (·.dst) with
    | some t => (compX ng sl tl (.tmp t)).map fun x => some (x, b)
    | none => none

theorem compG_sound {σ : Sg} {ng N : Nat} {sl tl : List Nat} {fr tm : List Value} {a : Act} (e : ER σ N sl tl fr tm a) {G : Gf} {w : World} (hr : HR ng σ G w) {ops : Array Oper} {o : Oper} {g : Option (AX × Bool)} (h : compG ng sl tl ops o.guard = some g) :
    Region.wanted o (yielded ops a.tmps) = wantA g fr tm := by
  unfold Region.wanted
  cases hg : o.guard with
  | none => rw [hg] at h; simp only [compG] at h; cases h; rfl
  | some jb =>
    obtain ⟨j, b⟩ := jb
    rw [hg] at h
    simp only [compG] at h
    split at h
    · rename_i t ht
      simp only [Option.map_eq_some_iff] at h
      obtain ⟨x, hx, rfl⟩ := h
      have hv := compX_sound e hr hx
      -- the slot is there
      have hsome : ∃ v', a.tmps[t]? = some v' ∧ VR σ (x.ev fr tm) v' := by
        simp only [compX] at hx
        split at hx
        · rename_i i hi
          cases hx
          have hs := posOf_get hi
          have hlt : i < fr.length := by rw [e.frl]; exact (List.getElem?_eq_some_iff.1 hs).1
          obtain ⟨v', h1, h2⟩ := e.frv i t fr[i] hs (List.getElem?_eq_getElem hlt)
          exact ⟨v', h1, by simpa [AX.ev, List.getD, List.getElem?_eq_getElem hlt] using h2⟩
        · simp only [Option.map_eq_some_iff] at hx
          obtain ⟨i, hi, rfl⟩ := hx
          have hs := posOf_get hi
          have hlt : i < tm.length := by rw [e.tml]; exact (List.getElem?_eq_some_iff.1 hs).1
          obtain ⟨v', h1, h2⟩ := e.tmv i t tm[i] hs (List.getElem?_eq_getElem hlt)
          exact ⟨v', h1, by simpa [AX.ev, List.getD, List.getElem?_eq_getElem hlt] using h2⟩
      obtain ⟨v', h1, h2⟩ := hsome
      simp only [yielded, ht, Option.bind_some, h1, wantA]
      revert h2
      generalize x.ev fr tm = u
      intro h2
      cases h2 <;> simp [Option.some.injEq]
    · cases h

def compR (P : Program) (ng N : Nat) (sl : List Nat) (ops : Array Oper) : List Oper → List Nat → Option (List AOper)
  | [], _ => some []
  | o :: r, tl =>
    if o.op.operands.toList.all (fun x => (compX ng sl tl x).isSome) then
      match compG ng sl tl ops o.guard, compD N sl tl o.dst with
      | some g, some (d, tl') => (compR P ng N sl ops r tl').map fun l => { op := (compOp P o).map fun x => (compX ng sl tl x).getD (.c undef), dst := d, g := g } :: l
      | _, _ => none
    else none

theorem map_map_op {X Y Z : Type} (f : X → Y) (g : Y → Z) (op : AOp X) : (op.map f).map g = op.map (g ∘ f) := by
  cases op <;> simp [AOp.map, List.map_map, Function.comp]

/-- What an operation leads to: the model's 'Oper.wp' out of the abstract step. -/
theorem oper_wp {P : Program} {ng : Nat} {σ : Sg} {H : AHeap} {w : World} (hr : HR ng σ H.get w) {o : Oper} {a : Act} {ev : Operand → Value} (hev : ∀ x ∈ o.op.operands, VR σ (ev x) (a.eval x)) {K : Value → AHeap → Prop}
    (hs : stepA P ng ((compOp P o).map ev) H K) {next : Act → World → Prop} {Q : Exit → Act → World → Prop}
    (hn : ∀ v H' v' σ' w', K v H' → HR ng σ' H'.get w' → Ext H.n σ H.get w H'.n σ' H'.get w' → VR σ' v v' → next (a.put o.dst v') w') : o.wp P a w next Q := by
  have plain : ∀ v H', asem ((compOp P o).map ev) H = some (v, H') → K v H' → o.wp P a w next Q := by
    intro v H' h1 h2
    obtain ⟨nx, v', w', σ', e1, e2, e3, e4, e5⟩ := asem_sound hr o hev h1
    unfold Oper.wp
    rw [e1]
    rcases e2 with rfl | ⟨rfl, rfl⟩
    · exact hn v H' v' σ' w' h2 e3 e4 e5
    · exact hn v H' undef σ' w' h2 e3 e4 e5
  have call : ∀ (f : FuncId) (xs : List Value) (args : Array Value) (v : Value) (H' : AHeap), ARun P ng f xs H v H' → K v H' → VL σ xs args.toList →
      (execOp a.eval o).run P w = (callFunc f args).run P w → o.wp P a w next Q := by
    intro f xs args v H' h1 h2 h3 h4
    obtain ⟨⟨fn, f1, f2, f3⟩, _, h1⟩ := h1
    have hb : fn.body.isNone = false := by cases hb : fn.body <;> simp_all
    have hc : (callFunc f args).run P w = .ok (.enter f args) w := by
      simp only [callFunc, Sem.run_bind, run_program, Result.andThen_ok, f1, f3, hb, Bool.false_eq_true, if_false, Sem.run_pure]
    unfold Oper.wp
    rw [h4, hc]
    have := h1 σ w args.toList hr h3
    rw [Array.toArray_toList] at this
    refine Calls.mono this ?_
    rintro e w' ⟨v', σ', rfl, e3, e4, e5⟩
    exact hn v H' v' σ' w' h2 e3 e4 e5
  obtain ⟨dst, op, type, pos, after, guard⟩ := o
  by_cases hcf : ∃ f xs, (compOp P ⟨dst, op, type, pos, after, guard⟩).map ev = .callf f xs
  · obtain ⟨f, xs, hc⟩ := hcf
    rw [hc] at hs
    simp only [stepA] at hs
    obtain ⟨v, H', h1, h2⟩ := hs
    -- the operation is a call of that function
    cases op
    case call c =>
      obtain ⟨callee, args, tys⟩ := c
      simp only [compOp] at hc
      split at hc
      · simp only [AOp.map, AOp.callf.injEq] at hc
        obtain ⟨rfl, rfl⟩ := hc
        refine call _ _ (args.map a.eval) v H' h1 h2 ?_ ?_
        · have := VL.map2 (σ := σ) ev a.eval args.toList (fun x hx => hev x (by simp [Op.operands, Call.operands]; right; simpa using hx))
          simpa using this
        · simp [execOp, resolve, Deferred.ofValue, Act.eval, invoke]
      all_goals (repeat' split at hc) <;> simp [AOp.map] at hc
    all_goals (simp only [compOp] at hc; (repeat' split at hc) <;> simp [AOp.map] at hc)
  · by_cases hcv : ∃ f xs, (compOp P ⟨dst, op, type, pos, after, guard⟩).map ev = .callv f xs
    · obtain ⟨f, xs, hc⟩ := hcv
      rw [hc] at hs
      simp only [stepA] at hs
      split at hs
      · rename_i g first cap
        obtain ⟨v, H', h1, h2⟩ := hs
        cases op
        case call c =>
          obtain ⟨callee, args, tys⟩ := c
          simp only [compOp] at hc
          split at hc
          · simp [AOp.map] at hc
          · rename_i x hx
            simp only [AOp.map, AOp.callv.injEq] at hc
            obtain ⟨hf, rfl⟩ := hc
            have hfv := hev x (by simp [Op.operands, Call.operands])
            rw [hf] at hfv
            have hargs := VL.map2 (σ := σ) ev a.eval args.toList (fun x hx => hev x (by simp [Op.operands, Call.operands]; right; simpa using hx))
            cases hfe : a.eval x with
            | func fn xs' ys' =>
              rw [hfe] at hfv
              cases hfv with
              | func _ _ _ _ _ p1 p2 p3 p4 =>
                refine call g _ (xs' ++ args.map a.eval ++ ys') v H' h1 h2 ?_ ?_
                · simp only [Array.toList_append, Array.toList_map]
                  exact ((VL.of_arr p1 p2).append hargs).append (VL.of_arr p3 p4)
                · simp [execOp, resolve, Deferred.ofValue, hfe, invoke]
            | _ => rw [hfe] at hfv; cases hfv
          all_goals (repeat' split at hc) <;> simp [AOp.map] at hc
        all_goals (simp only [compOp] at hc; (repeat' split at hc) <;> simp [AOp.map] at hc)
      · exact hs.elim
    · have : ∃ v H', asem ((compOp P ⟨dst, op, type, pos, after, guard⟩).map ev) H = some (v, H') ∧ K v H' := by
        revert hs hcf hcv
        generalize (compOp P ⟨dst, op, type, pos, after, guard⟩).map ev = q
        intro h1 h2 h3
        cases q <;> first
          | exact absurd ⟨_, _, rfl⟩ h2
          | exact absurd ⟨_, _, rfl⟩ h3
          | exact h1
      obtain ⟨v, H', h1, h2⟩ := this
      exact plain v H' h1 h2

end Go.AM
