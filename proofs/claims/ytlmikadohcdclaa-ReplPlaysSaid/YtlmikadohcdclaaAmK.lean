/- The abstract machine, part K: the trace of a region that draws its order, in the order of its text. -/
import Derived.Test.YtlmikadohcdclaaAmI
set_option linter.unusedSimpArgs false
set_option linter.unusedVariables false
namespace Go.AM

theorem stepA_grow {P : Program} {ng : Nat} {op : AOp Value} {H : AHeap} {K : Value → AHeap → Prop} (h : stepA P ng op H K) : stepA P ng op H fun v H' => K v H' ∧ H.n ≤ H'.n := by
  cases op <;> simp only [stepA] at h ⊢
  case callf f xs => obtain ⟨v, H', h1, h2⟩ := h; exact ⟨v, H', h1, h2, h1.2.1⟩
  case callv f xs =>
    split at h
    · obtain ⟨v, H', h1, h2⟩ := h; exact ⟨v, H', h1, h2, h1.2.1⟩
    · exact h.elim
  all_goals (obtain ⟨v, H', h1, h2⟩ := h; exact ⟨v, H', h1, h2, asem_n h1⟩)

theorem stepA_mono {P : Program} {ng : Nat} {op : AOp Value} {H : AHeap} {K K' : Value → AHeap → Prop} (hk : ∀ v H', K v H' → K' v H') (h : stepA P ng op H K) : stepA P ng op H K' := by
  cases op <;> simp only [stepA] at h ⊢
  case callv f xs =>
    split at h
    · obtain ⟨v, H', h1, h2⟩ := h; exact ⟨v, H', h1, hk _ _ h2⟩
    · exact h.elim
  all_goals (obtain ⟨v, H', h1, h2⟩ := h; exact ⟨v, H', h1, hk _ _ h2⟩)

theorem stepA_out' {P : Program} {ng : Nat} {op : AOp Value} {H : AHeap} {K : Value → AHeap → Prop} (h : stepA P ng op H K) : ∃ v H', K v H' ∧ stepA P ng op H fun v2 H2 => v2 = v ∧ H2 = H' := by
  cases op <;> simp only [stepA] at h ⊢
  case callv f xs =>
    split at h
    · obtain ⟨v, H', h1, h2⟩ := h; exact ⟨v, H', h2, v, H', h1, rfl, rfl⟩
    · exact h.elim
  all_goals (obtain ⟨v, H', h1, h2⟩ := h; exact ⟨v, H', h2, v, H', h1, rfl, rfl⟩)

/-- 0: touches no memory; 1: reads; 2: makes a block; 3: all else. -/
def clsA {X : Type} : AOp X → Nat
  | .load1 _ | .loadn _ _ | .b2s _ | .slsl .. => 1
  | .new .. | .box .. | .bslice .. | .s2b .. | .mksl .. | .rng _ => 2
  | .next _ | .copy .. | .clr .. | .apps .. | .store1 .. | .storen .. | .app .. | .callf .. | .callv .. | .mark _ | .bad => 3
  | _ => 0

theorem cls_map {X Y : Type} (f : X → Y) (op : AOp X) : clsA (op.map f) = clsA op := by cases op <;> rfl

def readsA : AOp Value → List Nat
  | .load1 (.pointer (some a)) => [a.block]
  | .loadn _ (.pointer (some a)) => [a.block]
  | .b2s (.slice (some ⟨b, _, none⟩) _ _) => [b]
  | .slsl _ (.slice (some ⟨b, _, none⟩) _ _) _ _ _ => [b]
  | _ => []

/-- What is kept of an operation that has been met: its kind, the blocks that it touches, the heap before and after. -/
structure TE where
  k : Nat
  bs : List Nat
  H : AHeap
  H' : AHeap

def keepsB : List Nat → AHeap → AHeap → Prop
  | [], _, _ => True
  | b :: l, H, H' => H'.get b = H.get b ∧ keepsB l H H'
def olderB : List Nat → AHeap → Prop
  | [], _ => True
  | b :: l, H => b < H.n ∧ olderB l H

/-- What an operation owes to those ahead of it with which it has no order: a reader to effects, an effect to readers and to new blocks. -/
def oblA (k : Nat) (bs : List Nat) (H H' : AHeap) (tr : List TE) : List Nat → Prop
  | [] => True
  | i :: un => (match tr[i]? with
    | some t =>
      if k = 1 ∧ t.k = 3 then olderB bs t.H ∧ keepsB bs t.H t.H'
      else if k = 3 ∧ (t.k = 1 ∨ t.k = 2) then keepsB t.bs H H'
      else True
    | none => True) ∧ oblA k bs H H' tr un

def touchA (op : AOp Value) (H : AHeap) : List Nat := if clsA op = 1 then readsA op else if clsA op = 2 then [H.n] else []

def RD (P : Program) (ng : Nat) : List (AOper × List Nat) → List Value → List Value → AHeap → List TE → (List Value → AHeap → Prop) → Prop
  | [], fr, _, H, _, K => K fr H
  | (o, un) :: r, fr, tm, H, tr, K =>
    if wantA o.g fr tm then stepA P ng (o.op.map (AX.ev fr tm)) H fun v H' =>
      oblA (clsA o.op) (touchA (o.op.map (AX.ev fr tm)) H) H H' tr un ∧
      RD P ng r (o.dst.frame v fr) (o.dst.temps v tm) H' (tr ++ [⟨clsA o.op, touchA (o.op.map (AX.ev fr tm)) H, H, H'⟩]) K
    else RD P ng r (o.dst.frame undef fr) (o.dst.temps undef tm) H (tr ++ [⟨9, [], H, H⟩]) K

/-- One outcome of a step. -/
def StepC (P : Program) (ng : Nat) (op : AOp Value) (H : AHeap) (v : Value) (H' : AHeap) : Prop := stepA P ng op H fun v2 H2 => v2 = v ∧ H2 = H'

theorem stepA_out {P : Program} {ng : Nat} {op : AOp Value} {H : AHeap} {K : Value → AHeap → Prop} (h : stepA P ng op H K) : ∃ v H', StepC P ng op H v H' ∧ K v H' := by
  unfold StepC
  cases op <;> simp only [stepA] at h ⊢
  case callf f xs => obtain ⟨v, H', h1, h2⟩ := h; exact ⟨v, H', ⟨v, H', h1, rfl, rfl⟩, h2⟩
  case callv f xs =>
    split at h
    · obtain ⟨v, H', h1, h2⟩ := h; exact ⟨v, H', ⟨v, H', h1, rfl, rfl⟩, h2⟩
    · exact h.elim
  all_goals (obtain ⟨v, H', h1, h2⟩ := h; exact ⟨v, H', ⟨v, H', h1, rfl, rfl⟩, h2⟩)

/-- The trace, as functions of the place. -/
structure Trace (P : Program) (ng : Nat) (l : List (AOper × List Nat)) (fr0 tm0 : List Value) (H0 : AHeap) (tr : List TE) (K : List Value → AHeap → Prop) where
  F : Nat → List Value
  M : Nat → List Value
  H : Nat → AHeap
  v : Nat → Value
  ent : Nat → TE
  hF : F 0 = fr0
  hM : M 0 = tm0
  hH : H 0 = H0
  stepF : ∀ j o un, l[j]? = some (o, un) → F (j + 1) = o.dst.frame (v j) (F j)
  stepM : ∀ j o un, l[j]? = some (o, un) → M (j + 1) = o.dst.temps (v j) (M j)
  yes : ∀ j o un, l[j]? = some (o, un) → wantA o.g (F j) (M j) = true → StepC P ng (o.op.map (AX.ev (F j) (M j))) (H j) (v j) (H (j + 1)) ∧
    ent j = ⟨clsA o.op, touchA (o.op.map (AX.ev (F j) (M j))) (H j), H j, H (j + 1)⟩ ∧ oblA (clsA o.op) (touchA (o.op.map (AX.ev (F j) (M j))) (H j)) (H j) (H (j + 1)) (tr ++ (List.range j).map ent) un
  no : ∀ j o un, l[j]? = some (o, un) → wantA o.g (F j) (M j) = false → v j = undef ∧ H (j + 1) = H j ∧ (ent j).k = 9
  fin : K (F l.length) (H l.length)

theorem RD_trace {P : Program} {ng : Nat} {K : List Value → AHeap → Prop} : ∀ (l : List (AOper × List Nat)) (fr tm : List Value) (H : AHeap) (tr : List TE), RD P ng l fr tm H tr K → Nonempty (Trace P ng l fr tm H tr K)
  | [], fr, tm, H, tr, h => ⟨⟨fun _ => fr, fun _ => tm, fun _ => H, fun _ => undef, fun _ => ⟨9, [], H, H⟩, rfl, rfl, rfl, by simp, by simp, by simp, by simp, h⟩⟩
  | (o, un) :: l, fr, tm, H, tr, h => by
    have build : ∀ (v0 : Value) (H1 : AHeap) (e0 : TE) (T : Trace P ng l (o.dst.frame v0 fr) (o.dst.temps v0 tm) H1 (tr ++ [e0]) K),
        (wantA o.g fr tm = true → StepC P ng (o.op.map (AX.ev fr tm)) H v0 H1 ∧ e0 = ⟨clsA o.op, touchA (o.op.map (AX.ev fr tm)) H, H, H1⟩ ∧ oblA (clsA o.op) (touchA (o.op.map (AX.ev fr tm)) H) H H1 tr un) →
        (wantA o.g fr tm = false → v0 = undef ∧ H1 = H ∧ e0.k = 9) → Nonempty (Trace P ng ((o, un) :: l) fr tm H tr K) := by
      intro v0 H1 e0 T hy hn
      refine ⟨⟨fun j => match j with | 0 => fr | j + 1 => T.F j, fun j => match j with | 0 => tm | j + 1 => T.M j, fun j => match j with | 0 => H | j + 1 => T.H j, fun j => match j with | 0 => v0 | j + 1 => T.v j,
        fun j => match j with | 0 => e0 | j + 1 => T.ent j, rfl, rfl, rfl, ?_, ?_, ?_, ?_, T.fin⟩⟩
      · intro j o' un' hj
        cases j with
        | zero => simp at hj; obtain ⟨rfl, rfl⟩ := hj; exact T.hF
        | succ j => exact T.stepF j o' un' (by simpa using hj)
      · intro j o' un' hj
        cases j with
        | zero => simp at hj; obtain ⟨rfl, rfl⟩ := hj; exact T.hM
        | succ j => exact T.stepM j o' un' (by simpa using hj)
      · intro j o' un' hj hw
        cases j with
        | zero =>
          simp at hj; obtain ⟨rfl, rfl⟩ := hj
          obtain ⟨a, b, c⟩ := hy hw
          refine ⟨by show StepC P ng _ H v0 (T.H 0); rw [T.hH]; exact a, by show e0 = ⟨_, _, H, T.H 0⟩; rw [T.hH]; exact b, ?_⟩
          show oblA _ _ H (T.H 0) _ un
          rw [T.hH]; simpa using c
        | succ j =>
          obtain ⟨a, b, c⟩ := T.yes j o' un' (by simpa using hj) hw
          refine ⟨a, b, ?_⟩
          have e : tr ++ (List.range (j + 1)).map (fun j => match j with | 0 => e0 | j + 1 => T.ent j) = tr ++ [e0] ++ (List.range j).map T.ent := by
            rw [List.range_succ_eq_map, List.map_cons, List.map_map, List.append_assoc]
            rfl
          rw [e]; exact c
      · intro j o' un' hj hw
        cases j with
        | zero =>
          simp at hj; obtain ⟨rfl, rfl⟩ := hj
          obtain ⟨a, b, c⟩ := hn hw
          exact ⟨a, by show T.H 0 = H; rw [T.hH]; exact b, c⟩
        | succ j => exact T.no j o' un' (by simpa using hj) hw
    simp only [RD] at h
    split at h
    · rename_i hw
      obtain ⟨v, H', h1, h2, h3⟩ := stepA_out h
      obtain ⟨T⟩ := RD_trace l _ _ H' _ h3
      exact build v H' _ T (fun _ => ⟨h1, rfl, h2⟩) (fun e => by rw [hw] at e; cases e)
    · rename_i hw
      obtain ⟨T⟩ := RD_trace l _ _ H _ h
      exact build undef H _ T (fun e => absurd e hw) (fun _ => ⟨rfl, rfl, rfl⟩)

end Go.AM
