/- The abstract machine, part M: a region that draws its order, in whatever order. -/
import Derived.Test.YtlmikadohcdclaaAmL
set_option linter.unusedSimpArgs false
set_option linter.unusedVariables false
namespace Go.AM

def cut (σ : Sg) (m : Nat) : Sg := fun b => if b < m then σ b else none

theorem cut_le (σ : Sg) (m : Nat) : (cut σ m).le σ := fun b i h => by unfold cut at h; split at h; exact h; cases h
theorem cut_mono (σ : Sg) {m m' : Nat} (h : m ≤ m') : (cut σ m).le (cut σ m') := fun b i hb => by
  unfold cut at hb ⊢
  split at hb
  · rw [if_pos (by omega)]; exact hb
  · cases hb
theorem cut_cut_le {σ σ' : Sg} (h : σ.le σ') (m : Nat) : (cut σ m).le (cut σ' m) := fun b i hb => by
  unfold cut at hb ⊢
  split at hb
  · rename_i hl; rw [if_pos hl]; exact h b i hb
  · cases hb
theorem cut_of {σ : Sg} {m b : Nat} {i : BI} (h : σ b = some i) (hb : b < m) : cut σ m b = some i := by unfold cut; rw [if_pos hb]; exact h
theorem cut_inv {σ : Sg} {m b : Nat} {i : BI} (h : cut σ m b = some i) : b < m ∧ σ b = some i := by
  unfold cut at h
  split at h
  · rename_i hb; exact ⟨hb, h⟩
  · cases h

/-- As Ext, without the abstract numbers. -/
structure Ext0 (σ : Sg) (G : Gf) (w : World) (σ' : Sg) (G' : Gf) (w' : World) : Prop where
  sub : σ.le σ'
  new : ∀ b i, σ b = none → σ' b = some i → (w.heap.size ≤ i.c ∨ ∃ b0 i0 o0, σ b0 = some i0 ∧ G b0 = some o0 ∧ o0.own = true ∧ i0.c = i.c)
  own : ∀ b i o', σ b = some i → G' b = some o' → o'.own = true → ∃ o, G b = some o ∧ o.own = true
  live : ∀ b i o', σ b = some i → G' b = some o' → o'.live = true → ∃ o, G b = some o ∧ o.live = true
  keep : ∀ k, k < w.heap.size → (∀ b i o, σ b = some i → G b = some o → o.own = true → i.c ≠ k) → w'.heap[k]? = w.heap[k]?
  size : w.heap.size ≤ w'.heap.size
  os : w'.os = w.os
  tape : w'.tape = w.tape
  output : w'.output = w.output

theorem Ext0.refl (σ : Sg) (G : Gf) (w : World) : Ext0 σ G w σ G w :=
  ⟨Sg.le.refl σ, (fun b i h h' => by rw [h] at h'; cases h'), fun _ _ o' _ h h' => ⟨o', h, h'⟩, fun _ _ o' _ h h' => ⟨o', h, h'⟩, fun _ _ _ => rfl, Nat.le_refl _, rfl, rfl, rfl⟩

theorem Ext0.trans {σ σ1 σ2 : Sg} {G G1 G2 : Gf} {w w1 w2 : World} (h : Ext0 σ G w σ1 G1 w1) (k : Ext0 σ1 G1 w1 σ2 G2 w2) : Ext0 σ G w σ2 G2 w2 := by
  refine ⟨h.sub.trans k.sub, ?_, ?_, ?_, ?_, Nat.le_trans h.size k.size, k.os.trans h.os, k.tape.trans h.tape, k.output.trans h.output⟩
  · intro b i hb hb2
    cases h1 : σ1 b with
    | some j =>
      have := k.sub b j h1
      rw [hb2] at this
      cases this
      exact h.new b i hb h1
    | none =>
      rcases k.new b i h1 hb2 with a3 | ⟨b0, i0, o0, e1, e2, e3, e4⟩
      · exact .inl (Nat.le_trans h.size a3)
      · cases h0 : σ b0 with
        | some j =>
          have := h.sub b0 j h0
          rw [e1] at this
          cases this
          obtain ⟨o, f1, f2⟩ := h.own b0 _ o0 h0 e2 e3
          exact .inr ⟨b0, i0, o, h0, f1, f2, e4⟩
        | none =>
          have a4 := h.new b0 i0 h0 e1
          rw [← e4]
          exact a4
  · intro b i o' hb h2 ho
    obtain ⟨o, f1, f2⟩ := k.own b i o' (h.sub b i hb) h2 ho
    exact h.own b i o hb f1 f2
  · intro b i o' hb h2 ho
    obtain ⟨o, f1, f2⟩ := k.live b i o' (h.sub b i hb) h2 ho
    exact h.live b i o hb f1 f2
  · intro x hx hn
    rw [k.keep x (Nat.lt_of_lt_of_le hx h.size) ?_, h.keep x hx hn]
    intro b i o hb ho hown
    cases h0 : σ b with
    | some j =>
      have := h.sub b j h0
      rw [hb] at this
      cases this
      obtain ⟨o1, f1, f2⟩ := h.own b _ o h0 ho hown
      exact hn b i o1 h0 f1 f2
    | none =>
      rcases h.new b i h0 hb with a4 | ⟨b0, i0, o0, e1, e2, e3, e4⟩
      · omega
      · rw [← e4]; exact hn b0 i0 o0 e1 e2 e3

/-- A function as an abstract heap. -/
def ofFn (n : Nat) (G : Gf) : AHeap := ⟨n, (List.range n).reverse.map fun b => (G b).getD .dead⟩

theorem ofFn_get (n : Nat) (G : Gf) {b : Nat} (h : b < n) : (ofFn n G).get b = some ((G b).getD .dead) := by
  unfold ofFn AHeap.get
  simp only [h, if_true, List.getElem?_map]
  rw [List.getElem?_reverse (by simp; omega)]
  simp only [List.length_range]
  rw [show n - 1 - (n - 1 - b) = b by omega, List.getElem?_range h]
  rfl

/-- A block that is only read. -/
def roO : AO → AO
  | .dead => .dead
  | .cells _ room esz c e => .cells false room esz c e
  | .obj _ o => .obj false o
theorem roO_own (o : AO) : (roO o).own = false := by cases o <;> rfl
theorem OR.ro {σ : Sg} {w : World} {i : BI} {o : AO} (h : OR σ w i o) : OR σ w i (roO o) := by
  cases o with
  | dead => trivial
  | obj own o => exact h
  | cells own room esz c e =>
    obtain ⟨a1, a2, a3, a4, a9, c', fr, a5, a6, a7, a8⟩ := h
    exact ⟨a1, a2, a3, a4, a9, c', fr, a5, a6, a7, fun h => by cases h⟩

def roH (n : Nat) (G : Gf) : AHeap := ofFn n fun b => (G b).map roO

theorem roH_get (n : Nat) (G : Gf) {b : Nat} (h : b < n) : (roH n G).get b = some (((G b).map roO).getD .dead) := ofFn_get n _ h

theorem roH_own {n : Nat} {G : Gf} {b : Nat} {o : AO} (h : (roH n G).get b = some o) : o.own = false := by
  have hb := AHeap.get_lt h
  have : b < n := hb
  rw [roH_get n G this] at h
  cases h
  cases hG : G b with
  | none => rfl
  | some o => exact roO_own o

/-- Operations that read at the most yield the same where they read the same. -/
theorem asem_ro {op : AOp Value} (hk : clsA op = 0 ∨ clsA op = 1) {H : AHeap} {v : Value} {H' : AHeap} (h : asem op H = some (v, H')) :
    H' = H ∧ (∀ b ∈ readsA op, ∃ o, H.get b = some o) ∧ ∀ H2 : AHeap, (∀ b ∈ readsA op, H2.get b = (H.get b).map roO) → asem op H2 = some (v, H2) := by
  cases op
  case load1 x =>
    simp only [asem] at h
    split at h
    · rename_i b o
      simp only [Option.map_eq_some_iff, Prod.mk.injEq] at h
      obtain ⟨u, hu, rfl, rfl⟩ := h
      simp only [cellA] at hu
      split at hu
      · rename_i own room esz c e hG
        refine ⟨rfl, by simp [readsA, hG], fun H2 h2 => ?_⟩
        have := h2 b (by simp [readsA])
        simp [asem, cellA, this, hG, roO, hu]
      · cases hu
    · cases h
  case loadn n x =>
    simp only [asem] at h
    split at h
    · rename_i b o
      simp only [Option.map_eq_some_iff, Prod.mk.injEq] at h
      obtain ⟨u, hu, rfl, rfl⟩ := h
      simp only [rangeA] at hu
      split at hu
      · rename_i own room esz c e hG
        refine ⟨rfl, by simp [readsA, hG], fun H2 h2 => ?_⟩
        have := h2 b (by simp [readsA])
        simp only [asem, rangeA, this, hG, roO, Option.map_some, hu]
      · cases hu
    · cases h
  case b2s x =>
    simp only [asem] at h
    split at h
    · rename_i c hel
      split at h
      · rename_i l hb
        simp only [Option.some.injEq, Prod.mk.injEq] at h
        obtain ⟨rfl, rfl⟩ := h
        refine ⟨rfl, ?_, ?_⟩
        · unfold elemsA at hel
          split at hel
          · simp [readsA]
          · split at hel
            · rename_i hG; simp [readsA, hG]
            · cases hel
          · simp [readsA]
          · cases hel
        · intro H2 h2
          have : elemsA H2 1 x = some c := by
            unfold elemsA at hel ⊢
            split at hel
            · exact hel
            · rename_i b o n k
              have := h2 b (by simp [readsA])
              split at hel
              · rename_i hG; simp only [this, hG, Option.map_some, roO]; exact hel
              · cases hel
            · exact hel
            · cases hel
          simp only [asem, this, hb]
      · cases h
    · cases h
  case slsl esz x lo hi mx =>
    simp only [asem] at h
    split at h
    case h_2 => cases h
    rename_i base n k
    split at h
    case h_2 => cases h
    rename_i m hm
    split at h
    case h_2 => cases h
    rename_i hh h1
    split at h
    case h_2 => cases h
    rename_i l h2
    split at h
    · simp only [Option.some.injEq, Prod.mk.injEq] at h
      obtain ⟨rfl, rfl⟩ := h
      exact ⟨rfl, by simp [readsA], fun H2 _ => by simp only [asem, hm, h1, h2]⟩
    · rename_i b o
      split at h
      · rename_i own room esz' c e hG
        split at h
        · rename_i hes
          simp only [Option.some.injEq, Prod.mk.injEq] at h
          obtain ⟨rfl, rfl⟩ := h
          refine ⟨rfl, by simp [readsA, hG], fun H2 h3 => ?_⟩
          have := h3 b (by simp [readsA])
          simp only [asem, hm, h1, h2, this, hG, Option.map_some, roO, hes, if_true]
        · cases h
      · cases h
    · split at h
      · rename_i hc
        simp only [Option.some.injEq, Prod.mk.injEq] at h
        obtain ⟨rfl, rfl⟩ := h
        refine ⟨rfl, by simp [readsA], fun H2 h3 => ?_⟩
        simp only [asem, hm, h1, h2]
        rw [if_pos hc]
      · cases h
  case eqv k neg x y =>
    simp only [asem, Option.map_eq_some_iff, Prod.mk.injEq] at h
    obtain ⟨u, hu, rfl, rfl⟩ := h
    exact ⟨rfl, by simp [readsA], fun H2 _ => by simp only [asem, hu, Option.map_some]⟩
  case eqs cs neg x y =>
    simp only [asem] at h
    split at h
    · simp only [Option.map_eq_some_iff, Prod.mk.injEq] at h
      obtain ⟨u, hu, rfl, rfl⟩ := h
      exact ⟨rfl, by simp [readsA], fun H2 _ => by simp only [asem, hu, Option.map_some]⟩
    · cases h
  case mm mx x y =>
    simp only [asem] at h
    split at h
    · split at h
      · rename_i hk
        cases h
        exact ⟨rfl, by simp [readsA], fun H2 _ => by simp only [asem]; rw [if_pos hk]⟩
      · cases h
    · cases h
  case idxa agg esz n x i =>
    simp only [asem] at h
    split at h
    · rename_i cs k i
      split at h
      · rename_i hc
        cases agg
        · simp only [Bool.false_eq_true, if_false, Option.map_eq_some_iff, Prod.mk.injEq] at h
          obtain ⟨u, hu, rfl, rfl⟩ := h
          refine ⟨rfl, by simp [readsA], fun H2 _ => ?_⟩
          simp only [asem]
          rw [if_pos hc]
          simp only [Bool.false_eq_true, if_false, hu, Option.map_some]
        · simp only [if_true] at h
          split at h
          · rename_i hle
            cases h
            refine ⟨rfl, by simp [readsA], fun H2 _ => ?_⟩
            simp only [asem]
            rw [if_pos hc]
            simp only [if_true]
            rw [if_pos hle]
          · cases h
      · cases h
    · cases h
  all_goals first
    | (exfalso; simp [clsA] at hk; done)
    | skip
  all_goals (refine ⟨?_, by simp [readsA], fun H2 _ => ?_⟩)
  all_goals simp only [asem, Option.map_eq_some_iff, Prod.mk.injEq] at h ⊢
  all_goals (repeat' split at h)
  all_goals first
    | (cases h; done)
    | (obtain ⟨_, _, _, rfl⟩ := h; rfl)
    | (simp only [Option.some.injEq, Prod.mk.injEq] at h; obtain ⟨_, rfl⟩ := h; rfl)
    | (simp only [Option.map_eq_some_iff, Prod.mk.injEq] at h; obtain ⟨_, _, _, rfl⟩ := h; rfl)
    | (obtain ⟨u, hu, rfl, rfl⟩ := h; exact ⟨u, hu, rfl, rfl⟩)
    | (obtain ⟨u, hu, hv, _⟩ := h; exact ⟨u, hu, hv, trivial⟩)
    | (simp only [Option.map_eq_some_iff, Prod.mk.injEq] at h ⊢; obtain ⟨u, hu, hv, _⟩ := h; first | exact ⟨u, hu, hv, trivial⟩ | exact ⟨u, hu, hv, rfl⟩)
    | (simp_all; done)


/-- A new block: which number it has makes no difference. -/
theorem asem_new {op : AOp Value} (hk : clsA op = 2) {H : AHeap} {v : Value} {H' : AHeap} (h : asem op H = some (v, H')) :
    ∃ (o : AO) (mk : Nat → Value), H' = H.alloc o ∧ v = mk H.n ∧ (∀ H2 : AHeap, asem op H2 = some (mk H2.n, H2.alloc o)) ∧ ((mk = fun b => ptr b 0) ∨ ∃ n k, mk = fun b => slc b 0 n k) ∧ o.live = true := by
  cases op
  case new e esz z =>
    simp only [asem] at h
    split at h
    · rename_i hc; cases h; exact ⟨_, fun b => ptr b 0, rfl, rfl, fun H2 => by simp only [asem]; rw [if_pos hc], .inl rfl, rfl⟩
    · cases h
  case box e esz x =>
    simp only [asem] at h
    split at h
    · rename_i hc; cases h; exact ⟨_, fun b => ptr b 0, rfl, rfl, fun H2 => by simp only [asem]; rw [if_pos hc], .inl rfl, rfl⟩
    · cases h
  case bslice e esz n z ps =>
    simp only [asem] at h
    split at h
    · rename_i c hf
      split at h
      · rename_i hc; cases h; exact ⟨_, fun b => slc b 0 n n, rfl, rfl, fun H2 => by simp only [asem, hf]; rw [if_pos hc], .inr ⟨n, n, rfl⟩, rfl⟩
      · cases h
    · cases h
  case s2b e x =>
    simp only [asem] at h
    split at h
    · rename_i s; cases h; exact ⟨_, fun b => slc b 0 s.size s.size, rfl, rfl, fun H2 => by simp only [asem], .inr ⟨_, _, rfl⟩, rfl⟩
    · cases h
  case mksl e esz bytes z l c =>
    simp only [asem] at h
    split at h
    · rename_i l c
      split at h
      · rename_i hc; cases h; exact ⟨_, fun b => slc b 0 l.toNat c.toNat, rfl, rfl, fun H2 => by simp only [asem]; rw [if_pos hc], .inr ⟨_, _, rfl⟩, rfl⟩
      · cases h
    · cases h
  case rng x =>
    simp only [asem] at h
    split at h
    · rename_i s; cases h; exact ⟨_, fun b => ptr b 0, rfl, rfl, fun H2 => by simp only [asem], .inl rfl, rfl⟩
    · cases h
  all_goals (simp [clsA] at hk)

def meet (σ σ2 : Sg) : Sg := fun b => if (σ2 b).isSome then σ b else none

theorem VR.meet {σ σ2 : Sg} {v v1 : Value} (h : VR σ v v1) : ∀ {v2 : Value}, VR σ2 v v2 → VR (meet σ σ2) v v1 := by
  have key : ∀ {b : Nat} {i i2 : BI}, σ b = some i → σ2 b = some i2 → AM.meet σ σ2 b = some i := by
    intro b i i2 h1 h2
    simp [AM.meet, h1, h2]
  induction h with
  | bool b => intro v2 k; exact .bool b
  | int k n => intro v2 k; exact .int _ n
  | string s => intro v2 k; exact .string s
  | nilPtr => intro v2 k; exact .nilPtr
  | ptr e => intro v2 k; cases k with | ptr e2 => exact .ptr (key e e2)
  | nilSl => intro v2 k; exact .nilSl
  | sl e a c =>
    intro v2 k
    cases k with
    | sl e2 => exact .sl (key e e2) a c
    | sl0 e2 => exact .sl (key e e2) a c
    | slz hx => simp at hx
  | sl0 e =>
    intro v2 k
    cases k with
    | sl e2 => exact .sl0 (key e e2)
    | sl0 e2 => exact .sl0 (key e e2)
    | slz hx => simp at hx
  | slz hx => intro v2 k; exact .slz hx
  | nilMap => intro v2 k; exact .nilMap
  | map e => intro v2 k; cases k with | map e2 => exact .map (key e e2)
  | func fn xs xs' ys ys' h1 _ h3 _ i2 i4 =>
    intro v2 k
    cases k with
    | func _ _ zs _ us g1 g2 g3 g4 => exact .func fn xs xs' ys ys' h1 (fun i a b => i2 i a b (g2 i a (by omega))) h3 (fun i a b => i4 i a b (g4 i a (by omega)))
  | nilFunc => intro v2 k; exact .nilFunc
  | iface t _ ih => intro v2 k; cases k with | iface _ k => exact .iface t (ih k)
  | nilIface => intro v2 k; exact .nilIface
  | agg xs xs' h1 _ ih =>
    intro v2 k
    cases k with
    | agg _ zs g1 g2 => exact .agg xs xs' h1 (fun i a b => ih i a b (g2 i a (by omega)))
  | tuple xs xs' h1 _ ih =>
    intro v2 k
    cases k with
    | tuple _ zs g1 g2 => exact .tuple xs xs' h1 (fun i a b => ih i a b (g2 i a (by omega)))

theorem VL.meet {σ σ2 : Sg} {l l1 : List Value} (h : VL σ l l1) : ∀ {l2 : List Value}, VL σ2 l l2 → VL (AM.meet σ σ2) l l1 := by
  induction h with
  | nil => intro l2 _; exact .nil
  | cons a _ ih => intro l2 k; cases k with | cons b t => exact .cons (a.meet b) (ih t)

theorem OR.meet {σ σ2 : Sg} {w w2 : World} {i i2 : BI} {o : AO} (h : OR σ w i o) (h2 : OR σ2 w2 i2 o) : OR (AM.meet σ σ2) w i o := by
  cases o with
  | dead => trivial
  | obj own o => exact h
  | cells own room esz c e =>
    obtain ⟨a1, a2, a3, a4, a9, c', fr, a5, a6, a7, a8⟩ := h
    obtain ⟨_, _, _, _, _, c2, fr2, _, _, b7, _⟩ := h2
    exact ⟨a1, a2, a3, a4, a9, c', fr, a5, a6, a7.meet b7, a8⟩

end Go.AM
