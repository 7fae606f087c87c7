/- The abstract machine, part A: abstract heaps, the relation between an abstract state and the model's world, and its frame laws. -/
import Derived.Orders
import Derived.Laws.Cells
import Derived.Laws.Rows
import Derived.Below
set_option linter.unusedSimpArgs false
set_option linter.unusedVariables false
namespace Go.AM

/-- Where an abstract block lies: the model's block, the offset there of the abstract offset 0, the abstract length in cells, the cells that are there from the offset on, the cells of one element, and whether there may be room behind the abstract end. -/
structure BI where
  c : Nat
  off : Nat
  len : Nat
  top : Nat
  esz : Nat
  room : Bool

abbrev Sg := Nat → Option BI

/-- An abstract value and the model's value. -/
inductive VR (σ : Sg) : Value → Value → Prop
  | bool (b : Bool) : VR σ (.bool b) (.bool b)
  | int (k : IntKind) (n : Int) : VR σ (.int k n) (.int k n)
  | string (s : ByteArray) : VR σ (.string s) (.string s)
  | nilPtr : VR σ (.pointer none) (.pointer none)
  | ptr {b o : Nat} {i : BI} (h : σ b = some i) : VR σ (.pointer (some ⟨b, o, none⟩)) (.pointer (some ⟨i.c, i.off + o, none⟩))
  | nilSl : VR σ (.slice none 0 0) (.slice none 0 0)
  | sl {b o n k k' : Nat} {i : BI} (h : σ b = some i) (hn : n ≤ k)
      (hk : k' = k ∨ (i.room = true ∧ k ≤ k' ∧ o + k * i.esz = i.len ∧ o + k' * i.esz ≤ i.top)) :
      VR σ (.slice (some ⟨b, o, none⟩) n k) (.slice (some ⟨i.c, i.off + o, none⟩) n k')
  | sl0 {b o o' : Nat} {i : BI} (h : σ b = some i) : VR σ (.slice (some ⟨b, o, none⟩) 0 0) (.slice (some ⟨i.c, o', none⟩) 0 0)
  | slz {x a : Addr} (hx : x.spot.isSome = true) : VR σ (.slice (some x) 0 0) (.slice (some a) 0 0)
  | nilMap : VR σ (.map none) (.map none)
  | map {b : Nat} {i : BI} (h : σ b = some i) : VR σ (.map (some b)) (.map (some i.c))
  | func (fn : Fn) (xs xs' ys ys' : Array Value) (h1 : xs.size = xs'.size) (h2 : ∀ i (a : i < xs.size) (b : i < xs'.size), VR σ xs[i] xs'[i])
      (h3 : ys.size = ys'.size) (h4 : ∀ i (a : i < ys.size) (b : i < ys'.size), VR σ ys[i] ys'[i]) : VR σ (.func fn xs ys) (.func fn xs' ys')
  | nilFunc : VR σ .nilFunc .nilFunc
  | iface (t : TypeId) {v v' : Value} (h : VR σ v v') : VR σ (.iface t v) (.iface t v')
  | nilIface : VR σ .nilIface .nilIface
  | agg (xs xs' : Array Value) (h1 : xs.size = xs'.size) (h2 : ∀ i (a : i < xs.size) (b : i < xs'.size), VR σ xs[i] xs'[i]) : VR σ (.agg xs) (.agg xs')
  | tuple (xs xs' : Array Value) (h1 : xs.size = xs'.size) (h2 : ∀ i (a : i < xs.size) (b : i < xs'.size), VR σ xs[i] xs'[i]) : VR σ (.tuple xs) (.tuple xs')

/-- Rows of values. -/
inductive VL (σ : Sg) : List Value → List Value → Prop
  | nil : VL σ [] []
  | cons {v v' : Value} {l l' : List Value} (h : VR σ v v') (t : VL σ l l') : VL σ (v :: l) (v' :: l')

def Sg.le (σ σ' : Sg) : Prop := ∀ b i, σ b = some i → σ' b = some i

theorem Sg.le.refl (σ : Sg) : σ.le σ := fun _ _ h => h
theorem Sg.le.trans {a b c : Sg} (h : a.le b) (k : b.le c) : a.le c := fun x i e => k x i (h x i e)

theorem VR.mono {σ σ' : Sg} (h : σ.le σ') {v v' : Value} (r : VR σ v v') : VR σ' v v' := by
  induction r with
  | bool b => exact .bool b
  | int k n => exact .int k n
  | string s => exact .string s
  | nilPtr => exact .nilPtr
  | ptr e => exact .ptr (h _ _ e)
  | nilSl => exact .nilSl
  | sl e a c => exact .sl (h _ _ e) a c
  | sl0 e => exact .sl0 (h _ _ e)
  | slz hx => exact .slz hx
  | nilMap => exact .nilMap
  | map e => exact .map (h _ _ e)
  | func fn xs xs' ys ys' h1 _ h3 _ i2 i4 => exact .func fn xs xs' ys ys' h1 i2 h3 i4
  | nilFunc => exact .nilFunc
  | iface t _ ih => exact .iface t ih
  | nilIface => exact .nilIface
  | agg xs xs' h1 _ ih => exact .agg xs xs' h1 ih
  | tuple xs xs' h1 _ ih => exact .tuple xs xs' h1 ih

theorem VL.mono {σ σ' : Sg} (h : σ.le σ') {l l' : List Value} (r : VL σ l l') : VL σ' l l' := by
  induction r with
  | nil => exact .nil
  | cons a _ ih => exact .cons (a.mono h) ih

theorem VL.length {σ : Sg} {l l' : List Value} (r : VL σ l l') : l.length = l'.length := by
  induction r with
  | nil => rfl
  | cons _ _ ih => simp [ih]

theorem VL.get {σ : Sg} {l l' : List Value} (r : VL σ l l') : ∀ {i : Nat} {v : Value}, l[i]? = some v → ∃ v', l'[i]? = some v' ∧ VR σ v v' := by
  induction r with
  | nil => intro i v h; simp at h
  | cons a _ ih =>
    intro i v h
    cases i with
    | zero => simp at h; subst h; exact ⟨_, rfl, a⟩
    | succ i => simp at h; simpa using ih h

theorem VL.append {σ : Sg} {l l' m m' : List Value} (r : VL σ l l') (s : VL σ m m') : VL σ (l ++ m) (l' ++ m') := by
  induction r with
  | nil => exact s
  | cons a _ ih => exact .cons a ih

theorem VL.of_get {σ : Sg} : ∀ {l l' : List Value}, l.length = l'.length → (∀ i (a : i < l.length) (b : i < l'.length), VR σ l[i] l'[i]) → VL σ l l'
  | [], [], _, _ => .nil
  | v :: l, v' :: l', h, g => .cons (g 0 (by simp) (by simp)) (VL.of_get (by simpa using h) (fun i a b => g (i + 1) (by simpa using a) (by simpa using b)))
  | [], _ :: _, h, _ => by simp at h
  | _ :: _, [], h, _ => by simp at h

theorem VL.drop {σ : Sg} {l l' : List Value} (r : VL σ l l') (n : Nat) : VL σ (l.drop n) (l'.drop n) := by
  induction r generalizing n with
  | nil => simp; exact .nil
  | cons a t ih =>
    cases n with
    | zero => exact .cons a t
    | succ n => simpa using ih n

theorem VL.take {σ : Sg} {l l' : List Value} (r : VL σ l l') (n : Nat) : VL σ (l.take n) (l'.take n) := by
  induction r generalizing n with
  | nil => simp; exact .nil
  | cons a t ih =>
    cases n with
    | zero => exact .nil
    | succ n => simpa using VL.cons a (ih n)

theorem VL.reverse {σ : Sg} {l l' : List Value} (r : VL σ l l') : VL σ l.reverse l'.reverse := by
  induction r with
  | nil => exact .nil
  | cons a _ ih => simpa using ih.append (.cons a .nil)

theorem VL.set {σ : Sg} {l l' : List Value} (r : VL σ l l') (n : Nat) {v v' : Value} (h : VR σ v v') : VL σ (l.set n v) (l'.set n v') := by
  induction r generalizing n with
  | nil => simp; exact .nil
  | cons a t ih =>
    cases n with
    | zero => exact .cons h t
    | succ n => simpa using VL.cons a (ih n)

theorem VL.replicate {σ : Sg} {v v' : Value} (h : VR σ v v') : ∀ n : Nat, VL σ (List.replicate n v) (List.replicate n v')
  | 0 => .nil
  | n + 1 => by simpa [List.replicate_succ] using VL.cons h (VL.replicate h n)

/-- Aggregates. -/
theorem VR.agg_of {σ : Sg} {l l' : List Value} (h : VL σ l l') : VR σ (.agg l.toArray) (.agg l'.toArray) := by
  refine .agg _ _ (by simpa using h.length) (fun i a b => ?_)
  obtain ⟨v', h1, h2⟩ := h.get (i := i) (v := l.toArray[i]) (by simp at a ⊢)
  have : l'.toArray[i] = v' := by
    simp at b
    rw [List.getElem?_eq_getElem b] at h1
    simpa using h1
  rw [this]; exact h2

theorem VR.tuple_of {σ : Sg} {l l' : List Value} (h : VL σ l l') : VR σ (.tuple l.toArray) (.tuple l'.toArray) := by
  refine .tuple _ _ (by simpa using h.length) (fun i a b => ?_)
  obtain ⟨v', h1, h2⟩ := h.get (i := i) (v := l.toArray[i]) (by simp at a ⊢)
  have : l'.toArray[i] = v' := by
    simp at b
    rw [List.getElem?_eq_getElem b] at h1
    simpa using h1
  rw [this]; exact h2

theorem VL.of_arr {σ : Sg} {xs xs' : Array Value} (h1 : xs.size = xs'.size) (h2 : ∀ i (a : i < xs.size) (b : i < xs'.size), VR σ xs[i] xs'[i]) : VL σ xs.toList xs'.toList :=
  VL.of_get (by simpa using h1) (fun i a b => by simpa using h2 i (by simpa using a) (by simpa using b))

theorem VL.iff_arr {σ : Sg} {l l' : List Value} (h : VL σ l l') : l.toArray.size = l'.toArray.size ∧ ∀ i (a : i < l.toArray.size) (b : i < l'.toArray.size), VR σ l.toArray[i] l'.toArray[i] := by
  refine ⟨by simpa using h.length, fun i a b => ?_⟩
  obtain ⟨v', e1, e2⟩ := h.get (i := i) (v := l.toArray[i]) (by simp at a ⊢)
  have : l'.toArray[i] = v' := by
    simp at b
    rw [List.getElem?_eq_getElem b] at e1
    simpa using e1
  rw [this]; exact e2

/-- The cells of a value. -/
theorem VR.cells {σ : Sg} {v v' : Value} (h : VR σ v v') : VL σ v.cells.toList v'.cells.toList := by
  cases h
  case bool b => exact .cons (.bool b) .nil
  case int k n => exact .cons (.int k n) .nil
  case string s => exact .cons (.string s) .nil
  case nilPtr => exact .cons .nilPtr .nil
  case nilSl => exact .cons .nilSl .nil
  case nilMap => exact .cons .nilMap .nil
  case nilFunc => exact .cons .nilFunc .nil
  case nilIface => exact .cons .nilIface .nil
  case ptr e => exact .cons (.ptr e) .nil
  case sl e a c => exact .cons (.sl e a c) .nil
  case sl0 e => exact .cons (.sl0 e) .nil
  case slz hx => exact .cons (.slz hx) .nil
  case map e => exact .cons (.map e) .nil
  case func fn xs xs' ys ys' h1 h2 h3 h4 => exact .cons (.func fn xs xs' ys ys' h1 h2 h3 h4) .nil
  case iface t v v' h => exact .cons (.iface t h) .nil
  case agg xs xs' h1 h2 => exact VL.of_arr h1 h2
  case tuple xs xs' h1 h2 => exact .cons (.tuple xs xs' h1 h2) .nil

/-- An abstract object: gone (handed on to a block that took its place); cells, with what is behind them; any other object, as it is. -/
inductive AO
  | dead
  | cells (own room : Bool) (esz : Nat) (c : List Value) (e : TypeId)
  | obj (own : Bool) (o : Obj)

def AO.own : AO → Bool
  | .dead => false
  | .cells own .. => own
  | .obj own _ => own

def AO.live : AO → Bool
  | .dead => false
  | _ => true

theorem unfr {fr : Nat × Nat} {n : Nat} (h : fr.1 = fr.2 ∨ n ≤ fr.1) (k : Nat) (hk : k < n) : ¬ (fr.1 ≤ k ∧ k < fr.2) := by omega

abbrev Gf := Nat → Option AO

/-- How an abstract object lies in the world. -/
def OR (σ : Sg) (w : World) (i : BI) : AO → Prop
  | .dead => True
  | .cells own room esz c e => i.len = c.length ∧ i.room = room ∧ i.esz = esz ∧ c.length ≤ i.top ∧ (∀ v ∈ c, v.oneCell' = true) ∧
      ∃ (c' : Array Value) (fr : Nat × Nat), w.heap[i.c]? = some (.cells c' e fr) ∧ c'.size = i.off + i.top ∧
        VL σ c ((c'.toList.drop i.off).take c.length) ∧ (own = true → fr.1 = fr.2 ∨ c'.size ≤ fr.1)
  | .obj _ o => w.heap[i.c]? = some o ∧ i.off = 0 ∧ ∀ c e f, o ≠ .cells c e f

structure HR (ng : Nat) (σ : Sg) (G : Gf) (w : World) : Prop where
  obj : ∀ b i, σ b = some i → ∃ o, G b = some o ∧ OR σ w i o
  inj : ∀ b1 b2 i1 i2 o1 o2, b1 ≠ b2 → σ b1 = some i1 → σ b2 = some i2 → G b1 = some o1 → G b2 = some o2 → o1.own = true → o2.live = true → i1.c ≠ i2.c
  lt : ∀ b i, σ b = some i → i.c < w.heap.size
  glob : ∀ g, g < ng → ∃ i, σ g = some i ∧ i.c = g ∧ i.off = 0

/-- From a state to a later one: what was mapped is mapped as it was; what is new is new, or was the abstract heap's own; nothing else was touched. -/
structure Ext (n : Nat) (σ : Sg) (G : Gf) (w : World) (n' : Nat) (σ' : Sg) (G' : Gf) (w' : World) : Prop where
  sub : σ.le σ'
  new : ∀ b i, σ b = none → σ' b = some i → (n ≤ b ∧ b < n') ∧ (w.heap.size ≤ i.c ∨ ∃ b0 i0 o0, σ b0 = some i0 ∧ G b0 = some o0 ∧ o0.own = true ∧ i0.c = i.c)
  own : ∀ b i o', σ b = some i → G' b = some o' → o'.own = true → ∃ o, G b = some o ∧ o.own = true
  live : ∀ b i o', σ b = some i → G' b = some o' → o'.live = true → ∃ o, G b = some o ∧ o.live = true
  keep : ∀ k, k < w.heap.size → (∀ b i o, σ b = some i → G b = some o → o.own = true → i.c ≠ k) → w'.heap[k]? = w.heap[k]?
  size : w.heap.size ≤ w'.heap.size
  num : n ≤ n'
  os : w'.os = w.os
  tape : w'.tape = w.tape
  output : w'.output = w.output

theorem Ext.refl (n : Nat) (σ : Sg) (G : Gf) (w : World) : Ext n σ G w n σ G w :=
  ⟨Sg.le.refl σ, (fun b i h h' => by rw [h] at h'; cases h'), fun _ _ o' _ h h' => ⟨o', h, h'⟩, fun _ _ o' _ h h' => ⟨o', h, h'⟩, fun _ _ _ => rfl, Nat.le_refl _, Nat.le_refl _, rfl, rfl, rfl⟩

theorem Ext.trans {n n1 n2 : Nat} {σ σ1 σ2 : Sg} {G G1 G2 : Gf} {w w1 w2 : World} (h : Ext n σ G w n1 σ1 G1 w1) (k : Ext n1 σ1 G1 w1 n2 σ2 G2 w2) : Ext n σ G w n2 σ2 G2 w2 := by
  refine ⟨h.sub.trans k.sub, ?_, ?_, ?_, ?_, Nat.le_trans h.size k.size, Nat.le_trans h.num k.num, k.os.trans h.os, k.tape.trans h.tape, k.output.trans h.output⟩
  · intro b i hb hb2
    cases h1 : σ1 b with
    | some j =>
      have := k.sub b j h1
      rw [hb2] at this
      cases this
      obtain ⟨⟨a1, a2⟩, a3⟩ := h.new b i hb h1
      exact ⟨⟨a1, Nat.lt_of_lt_of_le a2 k.num⟩, a3⟩
    | none =>
      obtain ⟨⟨a1, a2⟩, a3⟩ := k.new b i h1 hb2
      refine ⟨⟨Nat.le_trans h.num a1, a2⟩, ?_⟩
      rcases a3 with a3 | ⟨b0, i0, o0, e1, e2, e3, e4⟩
      · exact .inl (Nat.le_trans h.size a3)
      · cases h0 : σ b0 with
        | some j =>
          have := h.sub b0 j h0
          rw [e1] at this
          cases this
          obtain ⟨o, f1, f2⟩ := h.own b0 _ o0 h0 e2 e3
          exact .inr ⟨b0, i0, o, h0, f1, f2, e4⟩
        | none =>
          obtain ⟨_, a4⟩ := h.new b0 i0 h0 e1
          rw [← e4]
          exact a4
  · intro b i o' hb h2 ho
    obtain ⟨o, f1, f2⟩ := k.own b i o' (h.sub b i hb) h2 ho
    exact h.own b i o hb f1 f2
  · intro b i o' hb h2 ho
    obtain ⟨o, f1, f2⟩ := k.live b i o' (h.sub b i hb) h2 ho
    exact h.live b i o hb f1 f2
  · intro x hx hn
    rw [k.keep x (Nat.lt_of_lt_of_le hx h.size) ?_, h.keep x hx hn]
    intro b i o hb ho hown
    cases h0 : σ b with
    | some j =>
      have := h.sub b j h0
      rw [hb] at this
      cases this
      obtain ⟨o1, f1, f2⟩ := h.own b _ o h0 ho hown
      exact hn b i o1 h0 f1 f2
    | none =>
      obtain ⟨_, a4⟩ := h.new b i h0 hb
      rcases a4 with a4 | ⟨b0, i0, o0, e1, e2, e3, e4⟩
      · omega
      · rw [← e4]; exact hn b0 i0 o0 e1 e2 e3

/-- An abstract heap: the newest first. -/
structure AHeap where
  n : Nat
  l : List AO

def AHeap.get (h : AHeap) : Gf := fun b => if b < h.n then h.l[h.n - 1 - b]? else none
def AHeap.alloc (h : AHeap) (o : AO) : AHeap := ⟨h.n + 1, o :: h.l⟩
def AHeap.set (h : AHeap) (b : Nat) (o : AO) : AHeap := ⟨h.n, h.l.set (h.n - 1 - b) o⟩

theorem AHeap.get_lt {h : AHeap} {b : Nat} {o : AO} (e : h.get b = some o) : b < h.n := by
  unfold AHeap.get at e
  split at e
  · assumption
  · cases e
theorem AHeap.get_alloc_new (h : AHeap) (o : AO) : (h.alloc o).get h.n = some o := by simp [AHeap.get, AHeap.alloc]
theorem AHeap.get_alloc_old (h : AHeap) (o : AO) {b : Nat} (hb : b < h.n) : (h.alloc o).get b = h.get b := by
  have e : h.n - b = (h.n - 1 - b) + 1 := by omega
  simp only [AHeap.get, AHeap.alloc, Nat.add_sub_cancel, e, hb, show b < h.n + 1 by omega, if_true, List.getElem?_cons_succ]
theorem AHeap.get_alloc_ne (h : AHeap) (o : AO) {b : Nat} (hb : b ≠ h.n) : (h.alloc o).get b = h.get b := by
  rcases Nat.lt_or_ge b h.n with hlt | hge
  · exact AHeap.get_alloc_old h o hlt
  · simp [AHeap.get, AHeap.alloc, show ¬ b < h.n + 1 by omega, show ¬ b < h.n by omega]
theorem AHeap.get_set_same {h : AHeap} {b : Nat} {o : AO} (e : h.get b = some o) (o' : AO) : (h.set b o').get b = some o' := by
  have hb := AHeap.get_lt e
  simp only [AHeap.get, hb, if_true] at e
  have hl : h.n - 1 - b < h.l.length := by
    rcases Nat.lt_or_ge (h.n - 1 - b) h.l.length with hh | hh
    · exact hh
    · rw [List.getElem?_eq_none hh] at e; cases e
  simp [AHeap.get, AHeap.set, hb, hl]
theorem AHeap.get_set_other (h : AHeap) {b b' : Nat} (hne : b' ≠ b) (hb : b < h.n) (o' : AO) : (h.set b o').get b' = h.get b' := by
  simp only [AHeap.get, AHeap.set]
  by_cases h1 : b' < h.n
  · simp only [h1, if_true]
    rw [List.getElem?_set_ne (by omega)]
  · simp [h1]


theorem AO.live_of_own {o : AO} (h : o.own = true) : o.live = true := by cases o <;> simp_all [AO.own, AO.live]

theorem OR.congr {σ : Sg} {w w' : World} {i : BI} {o : AO} (h : o.live = true → w'.heap[i.c]? = w.heap[i.c]?) (r : OR σ w i o) : OR σ w' i o := by
  cases o with
  | dead => trivial
  | cells own room esz c e => simp only [OR] at r ⊢; rw [h rfl]; exact r
  | obj own o => simp only [OR] at r ⊢; rw [h rfl]; exact r

theorem OR.mono {σ σ' : Sg} (hs : σ.le σ') {w : World} {i : BI} {o : AO} (r : OR σ w i o) : OR σ' w i o := by
  cases o with
  | dead => trivial
  | obj own o => exact r
  | cells own room esz c e =>
    obtain ⟨h1, h2, h3, h4, h9, c', fr, h5, h6, h7, h8⟩ := r
    exact ⟨h1, h2, h3, h4, h9, c', fr, h5, h6, h7.mono hs, h8⟩

theorem HR.world {ng : Nat} {σ : Sg} {G : Gf} {w w' : World} (h : HR ng σ G w) (e : w'.heap = w.heap) : HR ng σ G w' :=
  ⟨fun b i hb => by obtain ⟨o, h1, h2⟩ := h.obj b i hb; exact ⟨o, h1, h2.congr (fun _ => by rw [e])⟩, h.inj, fun b i hb => by rw [e]; exact h.lt b i hb, h.glob⟩

theorem Ext.world {n n' : Nat} {σ σ' : Sg} {G G' : Gf} {w w' w2 : World} (h : Ext n σ G w n' σ' G' w') (e1 : w2.heap = w'.heap) (e2 : w2.os = w'.os) (e3 : w2.tape = w'.tape) (e4 : w2.output = w'.output) : Ext n σ G w n' σ' G' w2 :=
  ⟨h.sub, h.new, h.own, h.live, fun k a b => by rw [e1]; exact h.keep k a b, by rw [e1]; exact h.size, h.num, e2.trans h.os, e3.trans h.tape, e4.trans h.output⟩

/-- One of the heap's own blocks is written, and nothing else. -/
theorem HR.upd {ng : Nat} {σ : Sg} {G G' : Gf} {w w' : World} (hr : HR ng σ G w) {b : Nat} {i : BI} {o o2 : AO} (hb : σ b = some i) (hG : G b = some o) (ho : o.own = true)
    (hw : ∀ k, k ≠ i.c → w'.heap[k]? = w.heap[k]?) (hs : w'.heap.size = w.heap.size) (hG' : ∀ x, x ≠ b → G' x = G x) (h2 : G' b = some o2) (hor : OR σ w' i o2) : HR ng σ G' w' := by
  refine ⟨?_, ?_, fun x j hx => by rw [hs]; exact hr.lt x j hx, hr.glob⟩
  · intro x j hx
    by_cases hxb : x = b
    · subst hxb; rw [hb] at hx; cases hx; exact ⟨o2, h2, hor⟩
    · obtain ⟨ox, e1, e2⟩ := hr.obj x j hx
      refine ⟨ox, by rw [hG' x hxb]; exact e1, e2.congr (fun hl => hw _ ?_)⟩
      exact fun he => hr.inj b x i j o ox (Ne.symm hxb) hb hx hG e1 ho hl he.symm
  · intro b1 b2 i1 i2 o1 o2' hne e1 e2 g1 g2 ow lv
    by_cases h1 : b1 = b
    · subst h1
      rw [hb] at e1; cases e1
      rw [hG' b2 (Ne.symm hne)] at g2
      exact hr.inj b1 b2 i i2 o o2' hne hb e2 hG g2 ho lv
    · by_cases h2' : b2 = b
      · subst h2'
        rw [hb] at e2; cases e2
        rw [hG' b1 h1] at g1
        exact hr.inj b1 b2 i1 i o1 o hne e1 hb g1 hG ow (AO.live_of_own ho)
      · rw [hG' b1 h1] at g1
        rw [hG' b2 h2'] at g2
        exact hr.inj b1 b2 i1 i2 o1 o2' hne e1 e2 g1 g2 ow lv

def Sg.up (σ : Sg) (b : Nat) (i : BI) : Sg := fun x => if x = b then some i else σ x
theorem Sg.up_same (σ : Sg) (b : Nat) (i : BI) : σ.up b i b = some i := by simp [Sg.up]
theorem Sg.up_other (σ : Sg) {b x : Nat} (i : BI) (h : x ≠ b) : σ.up b i x = σ x := by simp [Sg.up, h]
theorem Sg.le_up {σ : Sg} {b : Nat} (i : BI) (h : σ b = none) : σ.le (σ.up b i) := fun x j hx => by
  by_cases e : x = b
  · subst e; rw [h] at hx; cases hx
  · rw [Sg.up_other σ i e]; exact hx

/-- A further abstract block. -/
theorem HR.add {ng : Nat} {σ : Sg} {G G' : Gf} {w : World} (hr : HR ng σ G w) {b : Nat} {i : BI} {o2 : AO} (hb : σ b = none) (hG' : ∀ x, x ≠ b → G' x = G x) (h2 : G' b = some o2)
    (hlt : i.c < w.heap.size) (hor : OR σ w i o2)
    (hin : ∀ x j ox, σ x = some j → G x = some ox → (ox.live = true ∧ o2.own = true ∨ ox.own = true ∧ o2.live = true) → j.c ≠ i.c) : HR ng (σ.up b i) G' w := by
  have hle := Sg.le_up i hb
  refine ⟨?_, ?_, ?_, ?_⟩
  · intro x j hx
    by_cases e : x = b
    · subst e; rw [Sg.up_same] at hx; cases hx; exact ⟨o2, h2, hor.mono hle⟩
    · rw [Sg.up_other σ i e] at hx
      obtain ⟨ox, e1, e2⟩ := hr.obj x j hx
      exact ⟨ox, by rw [hG' x e]; exact e1, e2.mono hle⟩
  · intro b1 b2 i1 i2 o1 o2' hne e1 e2 g1 g2 ow lv
    by_cases h1 : b1 = b
    · subst h1
      rw [Sg.up_same] at e1; cases e1
      rw [Sg.up_other σ _ (Ne.symm hne)] at e2
      rw [hG' b2 (Ne.symm hne)] at g2
      rw [h2] at g1; cases g1
      exact fun he => hin b2 i2 o2' e2 g2 (.inl ⟨lv, ow⟩) he.symm
    · by_cases h2' : b2 = b
      · subst h2'
        rw [Sg.up_same] at e2; cases e2
        rw [Sg.up_other σ _ h1] at e1
        rw [hG' b1 h1] at g1
        rw [h2] at g2; cases g2
        exact hin b1 i1 o1 e1 g1 (.inr ⟨ow, lv⟩)
      · rw [Sg.up_other σ i h1] at e1
        rw [Sg.up_other σ i h2'] at e2
        rw [hG' b1 h1] at g1
        rw [hG' b2 h2'] at g2
        exact hr.inj b1 b2 i1 i2 o1 o2' hne e1 e2 g1 g2 ow lv
  · intro x j hx
    by_cases e : x = b
    · subst e; rw [Sg.up_same] at hx; cases hx; exact hlt
    · rw [Sg.up_other σ i e] at hx; exact hr.lt x j hx
  · intro g hg
    obtain ⟨j, h1, h3, h4⟩ := hr.glob g hg
    exact ⟨j, hle g j h1, h3, h4⟩

theorem HR.none_of_ge {ng : Nat} {σ : Sg} {H : AHeap} {w : World} (hr : HR ng σ H.get w) {b : Nat} (h : H.n ≤ b) : σ b = none := by
  cases e : σ b with
  | none => rfl
  | some i =>
    obtain ⟨o, h1, _⟩ := hr.obj b i e
    have := AHeap.get_lt h1
    omega

/-- A new block of cells on both sides. -/
theorem HR.alloc {ng : Nat} {σ : Sg} {H : AHeap} {w w' : World} (hr : HR ng σ H.get w) {o : AO} {i : BI} {o' : Obj} (hi : i.c = w.heap.size) (hor : OR σ (w.alloc o') i o)
    (e1 : w'.heap = (w.alloc o').heap) (e2 : w'.os = w.os) (e3 : w'.tape = w.tape) (e4 : w'.output = w.output) :
    HR ng (σ.up H.n i) (H.alloc o).get w' ∧ Ext H.n σ H.get w (H.alloc o).n (σ.up H.n i) (H.alloc o).get w' := by
  have hn := hr.none_of_ge (Nat.le_refl H.n)
  have hold : HR ng σ H.get (w.alloc o') := by
    refine ⟨fun b j hb => ?_, hr.inj, fun b j hb => ?_, hr.glob⟩
    · obtain ⟨ob, h1, h2⟩ := hr.obj b j hb
      exact ⟨ob, h1, h2.congr (fun _ => heap_alloc_old w o' j.c (hr.lt b j hb))⟩
    · have := hr.lt b j hb
      simp; omega
  have hold2 : HR ng σ (H.alloc o).get (w.alloc o') := by
    refine ⟨fun b j hb => ?_, fun b1 b2 i1 i2 o1 o2 hne a1 a2 g1 g2 => ?_, hold.lt, hold.glob⟩
    · obtain ⟨ob, h1, h2⟩ := hold.obj b j hb
      exact ⟨ob, by rw [AHeap.get_alloc_old H o (AHeap.get_lt h1)]; exact h1, h2⟩
    · obtain ⟨x1, k1, _⟩ := hold.obj b1 i1 a1
      obtain ⟨x2, k2, _⟩ := hold.obj b2 i2 a2
      rw [AHeap.get_alloc_old H o (AHeap.get_lt k1)] at g1
      rw [AHeap.get_alloc_old H o (AHeap.get_lt k2)] at g2
      exact hold.inj b1 b2 i1 i2 o1 o2 hne a1 a2 g1 g2
  refine ⟨?_, ⟨Sg.le_up i hn, ?_, ?_, ?_, ?_, ?_, by simp [AHeap.alloc], e2, e3, e4⟩⟩
  · refine HR.world (HR.add hold2 hn (fun _ _ => rfl) (AHeap.get_alloc_new H o) (by rw [hi]; simp) hor ?_) e1
    intro x j ox hx _ _ he
    have := hr.lt x j hx
    omega
  · intro b j hb hb'
    by_cases e : b = H.n
    · subst e
      rw [Sg.up_same] at hb'; cases hb'
      exact ⟨⟨Nat.le_refl _, by simp [AHeap.alloc]⟩, .inl (by omega)⟩
    · rw [Sg.up_other σ i e, hb] at hb'; cases hb'
  · intro b j ob hb g1 ow
    obtain ⟨x1, k1, _⟩ := hr.obj b j hb
    rw [AHeap.get_alloc_old H o (AHeap.get_lt k1)] at g1
    exact ⟨ob, g1, ow⟩
  · intro b j ob hb g1 ow
    obtain ⟨x1, k1, _⟩ := hr.obj b j hb
    rw [AHeap.get_alloc_old H o (AHeap.get_lt k1)] at g1
    exact ⟨ob, g1, ow⟩
  · intro k hk _
    rw [e1]; exact heap_alloc_old w o' k hk
  · rw [e1]; simp

theorem OR.cells_new {σ : Sg} {w : World} {c : List Value} {c' : Array Value} {e : TypeId} {fr : Nat × Nat} (own room : Bool) (esz : Nat) (hl : c.length ≤ c'.size) (hone : ∀ v ∈ c, v.oneCell' = true) (hv : VL σ c (c'.toList.take c.length))
    (hf : own = true → fr.1 = fr.2 ∨ c'.size ≤ fr.1) : OR σ (w.alloc (.cells c' e fr)) ⟨w.heap.size, 0, c.length, c'.size, esz, room⟩ (.cells own room esz c e) :=
  ⟨rfl, rfl, rfl, hl, hone, c', fr, heap_alloc_new w _, by simp, by simpa using hv, hf⟩

end Go.AM
