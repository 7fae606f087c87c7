/- Part of the proof. -/
import Derived.Test.YtijnnihkbebkkaaDoorGAgain02
import Derived.Laws.Externs
set_option linter.unusedSimpArgs false
set_option linter.unusedVariables false
set_option linter.unusedSimpArgs false
set_option linter.unusedVariables false
namespace Go.AM
def via (ρ : Nat → Option Nat) (σ : Sg) : Sg := fun b => (ρ b).bind σ
theorem via_of {ρ : Nat → Option Nat} {σ : Sg} {b c : Nat} {i : BI} (h : ρ b = some c) (k : σ c = some i) : via ρ σ b = some i := by
  unfold via; rw [h]; exact k
theorem via_inv {ρ : Nat → Option Nat} {σ : Sg} {b : Nat} {i : BI} (h : via ρ σ b = some i) : ∃ c, ρ b = some c ∧ σ c = some i := by
  unfold via at h
  cases hb : ρ b with
  | none => rw [hb] at h; cases h
  | some c => rw [hb] at h; exact ⟨c, rfl, h⟩
inductive NV (ρ : Nat → Option Nat) : Value → Value → Prop
  | bool (b : Bool) : NV ρ (.bool b) (.bool b)
  | int (k : IntKind) (n : Int) : NV ρ (.int k n) (.int k n)
  | string (s : ByteArray) : NV ρ (.string s) (.string s)
  | nilPtr : NV ρ (.pointer none) (.pointer none)
  | ptr {b c o : Nat} (h : ρ b = some c) : NV ρ (.pointer (some ⟨b, o, none⟩)) (.pointer (some ⟨c, o, none⟩))
  | nilSl : NV ρ (.slice none 0 0) (.slice none 0 0)
  | sl {b c o n k : Nat} (h : ρ b = some c) : NV ρ (.slice (some ⟨b, o, none⟩) n k) (.slice (some ⟨c, o, none⟩) n k)
  | slz {x : Addr} (hx : x.spot.isSome = true) : NV ρ (.slice (some x) 0 0) (.slice (some x) 0 0)
  | nilMap : NV ρ (.map none) (.map none)
  | map {b c : Nat} (h : ρ b = some c) : NV ρ (.map (some b)) (.map (some c))
  | func (fn : Fn) (xs xs' ys ys' : Array Value) (h1 : xs.size = xs'.size) (h2 : ∀ i (a : i < xs.size) (b : i < xs'.size), NV ρ xs[i] xs'[i])
      (h3 : ys.size = ys'.size) (h4 : ∀ i (a : i < ys.size) (b : i < ys'.size), NV ρ ys[i] ys'[i]) : NV ρ (.func fn xs ys) (.func fn xs' ys')
  | nilFunc : NV ρ .nilFunc .nilFunc
  | iface (t : TypeId) {v v' : Value} (h : NV ρ v v') : NV ρ (.iface t v) (.iface t v')
  | nilIface : NV ρ .nilIface .nilIface
  | agg (xs xs' : Array Value) (h1 : xs.size = xs'.size) (h2 : ∀ i (a : i < xs.size) (b : i < xs'.size), NV ρ xs[i] xs'[i]) : NV ρ (.agg xs) (.agg xs')
  | tuple (xs xs' : Array Value) (h1 : xs.size = xs'.size) (h2 : ∀ i (a : i < xs.size) (b : i < xs'.size), NV ρ xs[i] xs'[i]) : NV ρ (.tuple xs) (.tuple xs')
inductive NL (ρ : Nat → Option Nat) : List Value → List Value → Prop
  | nil : NL ρ [] []
  | cons {v v' : Value} {l l' : List Value} (h : NV ρ v v') (t : NL ρ l l') : NL ρ (v :: l) (v' :: l')
theorem NV.via {ρ : Nat → Option Nat} {σ : Sg} {a b : Value} (h : NV ρ a b) : ∀ {c : Value}, VR σ b c → VR (AM.via ρ σ) a c := by
  induction h with
  | bool b => intro c k; cases k; exact .bool _
  | int k n => intro c k; cases k; exact .int _ _
  | string s => intro c k; cases k; exact .string _
  | nilPtr => intro c k; cases k; exact .nilPtr
  | ptr e => intro c k; cases k with | ptr e2 => exact .ptr (via_of e e2)
  | nilSl => intro c k; cases k; exact .nilSl
  | sl e =>
    intro c k
    cases k with
    | sl e2 hn2 hk2 => exact .sl (via_of e e2) hn2 hk2
    | sl0 e2 => exact .sl0 (via_of e e2)
    | slz hx => simp at hx
  | slz hx =>
    intro c k
    cases k with
    | sl e2 hn2 hk2 => simp at hx
    | sl0 e2 => exact .slz hx
    | slz _ => exact .slz hx
  | nilMap => intro c k; cases k; exact .nilMap
  | map e => intro c k; cases k with | map e2 => exact .map (via_of e e2)
  | func fn xs xs' ys ys' h1 _ h3 _ i2 i4 =>
    intro c k
    cases k with
    | func _ _ zs _ us g1 g2 g3 g4 => exact .func fn xs zs ys us (by omega) (fun i a b => i2 i a (by omega) (g2 i (by omega) b)) (by omega) (fun i a b => i4 i a (by omega) (g4 i (by omega) b))
  | nilFunc => intro c k; cases k; exact .nilFunc
  | iface t _ ih => intro c k; cases k with | iface _ k => exact .iface t (ih k)
  | nilIface => intro c k; cases k; exact .nilIface
  | agg xs xs' h1 _ ih =>
    intro c k
    cases k with
    | agg _ zs g1 g2 => exact .agg xs zs (by omega) (fun i a b => ih i a (by omega) (g2 i (by omega) b))
  | tuple xs xs' h1 _ ih =>
    intro c k
    cases k with
    | tuple _ zs g1 g2 => exact .tuple xs zs (by omega) (fun i a b => ih i a (by omega) (g2 i (by omega) b))
theorem NL.via {ρ : Nat → Option Nat} {σ : Sg} {a b : List Value} (h : NL ρ a b) : ∀ {c : List Value}, VL σ b c → VL (AM.via ρ σ) a c := by
  induction h with
  | nil => intro c k; cases k; exact .nil
  | cons h _ ih => intro c k; cases k with | cons k1 k2 => exact .cons (h.via k1) (ih k2)
theorem NL.length {ρ : Nat → Option Nat} {a b : List Value} (h : NL ρ a b) : a.length = b.length := by
  induction h with
  | nil => rfl
  | cons _ _ ih => simp [ih]
theorem NL.one {ρ : Nat → Option Nat} {a b : List Value} (h : NL ρ a b) (hb : ∀ v ∈ b, v.oneCell' = true) : ∀ v ∈ a, v.oneCell' = true := by
  induction h with
  | nil => simp
  | cons h _ ih =>
    intro v hv
    rcases List.mem_cons.1 hv with rfl | hv
    · have := hb _ (List.mem_cons_self ..)
      cases h <;> first | exact this | rfl
    · exact ih (fun v hv => hb v (List.mem_cons_of_mem _ hv)) v hv
def AOr (ρ : Nat → Option Nat) (a b : AO) : Prop := match a with
  | .dead => True
  | .cells own room esz c e => ∃ own' c', b = .cells own' room esz c' e ∧ (own = true → own' = true) ∧ NL ρ c c'
  | .obj own o => ∃ own', b = .obj own' o ∧ (own = true → own' = true)
  | .loop .. => False
theorem AOr.own {ρ : Nat → Option Nat} {a b : AO} (h : AOr ρ a b) (ha : a.own = true) : b.own = true := by
  cases a with
  | dead => cases ha
  | cells own room esz c e => obtain ⟨own', c', rfl, h1, _⟩ := h; exact h1 ha
  | obj own o => obtain ⟨own', rfl, h1⟩ := h; exact h1 ha
  | loop own st pe L => exact h.elim
theorem AOr.live {ρ : Nat → Option Nat} {a b : AO} (h : AOr ρ a b) (ha : a.live = true) : b.live = true := by
  cases a with
  | dead => cases ha
  | cells own room esz c e => obtain ⟨own', c', rfl, h1, _⟩ := h; rfl
  | obj own o => obtain ⟨own', rfl, h1⟩ := h; rfl
  | loop own st pe L => exact h.elim
theorem AOr.or {ρ : Nat → Option Nat} {a b : AO} (h : AOr ρ a b) {σ : Sg} {w : World} {i : BI} (k : OR σ w i b) : OR (AM.via ρ σ) w i a := by
  cases a with
  | dead => trivial
  | cells own room esz c e =>
    obtain ⟨own', c', rfl, h1, h2⟩ := h
    obtain ⟨a1, a2, a3, a4, a9, d, fr, a5, a6, a7, a8⟩ := k
    have hl := h2.length
    exact ⟨by rw [hl]; exact a1, a2, a3, by rw [hl]; exact a4, h2.one a9, d, fr, a5, a6, by rw [hl]; exact h2.via a7, fun ho => a8 (h1 ho)⟩
  | obj own o => obtain ⟨own', rfl, h1⟩ := h; exact k
  | loop own st pe L => exact h.elim
variable {P : Program} {ng : Nat} {f : FuncId} {args : List Value} {H H' H'' : AHeap} {v v'' : Value}
def Stood (ng : Nat) (args : List Value) (H : AHeap) (v : Value) : Prop := ∀ (σ : Sg) (w : World) (args' : List Value), HR ng σ H.get w → VL σ args args' → ∃ x, VR σ v x
theorem ARun.gc (h : ARun P ng f args H v H') (ρ : Nat → Option Nat) (hn : H.n ≤ H''.n)
    (r0 : ∀ b, b < H.n → ρ b = some b) (r1 : ∀ b c, ρ b = some c → b < H''.n ∧ (H.n ≤ b → H.n ≤ c)) (ri : ∀ b1 b2 c, ρ b1 = some c → ρ b2 = some c → b1 = b2)
    (ro : ∀ b c o', ρ b = some c → H'.get c = some o' → (b = c ∧ b < H.n ∧ H.get b = some o' ∧ H''.get b = some o') ∨ ∃ o'', H''.get b = some o'' ∧ AOr ρ o'' o')
    (rv : (v'' = v ∧ Stood ng args H v) ∨ NV ρ v'' v) : ARun P ng f args H v'' H'' := by
  obtain ⟨h0, h1, h2⟩ := h
  refine ⟨h0, hn, fun σ w args' hr ha => ?_⟩
  refine (h2 σ w args' hr ha).mono ?_
  rintro e w' ⟨v', σ', rfl, k1, k2, k3⟩
  have old : ∀ b i, σ b = some i → b < H.n := fun b i hb => by
    obtain ⟨o, g, _⟩ := hr.obj b i hb
    exact AHeap.get_lt g
  have sub : σ.le (AM.via ρ σ') := fun b i hb => via_of (r0 b (old b i hb)) (k2.sub b i hb)
  have back : ∀ b i, b < H.n → σ' b = some i → σ b = some i := fun b i hb hs => by
    cases hsb : σ b with
    | none => have := (k2.new b i hsb hs).1.1; omega
    | some j => have := k2.sub b j hsb; rw [hs] at this; exact this.symm
  have meet_le : (meet σ' σ).le (AM.via ρ σ') := fun b i hb => by
    unfold meet at hb
    split at hb
    · rename_i hs
      obtain ⟨j, hj⟩ := Option.isSome_iff_exists.1 hs
      exact via_of (r0 b (old b j hj)) hb
    · cases hb
  have obj : ∀ b i, AM.via ρ σ' b = some i → ∃ c o'' o', ρ b = some c ∧ σ' c = some i ∧ H''.get b = some o'' ∧ H'.get c = some o' ∧ OR (AM.via ρ σ') w' i o'' ∧ (o''.own = true → o'.own = true) ∧ (o''.live = true → o'.live = true) := by
    intro b i hb
    obtain ⟨c, hc, hs⟩ := via_inv hb
    obtain ⟨o', g1, g2⟩ := k1.obj c i hs
    rcases ro b c o' hc g1 with ⟨rfl, hlt, e1, e2⟩ | ⟨o'', e1, e2⟩
    · refine ⟨b, o', o', hc, hs, e2, g1, ?_, fun x => x, fun x => x⟩
      have hsb := back b i hlt hs
      obtain ⟨o2, f1, f2⟩ := hr.obj b i hsb
      rw [e1] at f1; cases f1
      exact (g2.meet f2).mono meet_le
    · exact ⟨c, o'', o', hc, hs, e1, g1, e2.or g2, e2.own, e2.live⟩
  refine ⟨v', AM.via ρ σ', rfl, ⟨?_, ?_, ?_, ?_⟩, ⟨sub, ?_, ?_, ?_, k2.keep, k2.size, hn, k2.os, k2.tape, k2.output⟩, ?_⟩
  · intro b i hb
    obtain ⟨c, o'', o', _, _, e1, _, e2, _⟩ := obj b i hb
    exact ⟨o'', e1, e2⟩
  · intro b1 b2 i1 i2 o1 o2 hne hb1 hb2 ho1 ho2 hw hl
    obtain ⟨c1, p1, q1, a1, a2, a3, a4, _, a5, _⟩ := obj b1 i1 hb1
    obtain ⟨c2, p2, q2, d1, d2, d3, d4, _, _, d6⟩ := obj b2 i2 hb2
    rw [ho1] at a3; cases a3
    rw [ho2] at d3; cases d3
    exact k1.inj c1 c2 i1 i2 q1 q2 (fun hc => by subst hc; exact hne (ri b1 b2 c1 a1 d1)) a2 d2 a4 d4 (a5 hw) (d6 hl)
  · intro b i hb
    obtain ⟨c, _, hs⟩ := via_inv hb
    exact k1.lt c i hs
  · intro g hg
    obtain ⟨i, g1, g2, g3⟩ := hr.glob g hg
    exact ⟨i, sub g i g1, g2, g3⟩
  · intro b i hb hs
    obtain ⟨c, hc, hs'⟩ := via_inv hs
    by_cases hlt : b < H.n
    · have := r0 b hlt
      rw [hc] at this; cases this
      rw [back b i hlt hs'] at hb; cases hb
    · have hcn := (r1 b c hc).2 (by omega)
      have hsc : σ c = none := by
        cases hsc : σ c with
        | none => rfl
        | some j => have := old c j hsc; omega
      exact ⟨⟨by omega, (r1 b c hc).1⟩, (k2.new c i hsc hs').2⟩
  · intro b i o'' hb ho hw
    obtain ⟨c, p1, q1, a1, a2, a3, a4, _, a5, _⟩ := obj b i (sub b i hb)
    rw [r0 b (old b i hb)] at a1; cases a1
    rw [ho] at a3; cases a3
    exact k2.own b i q1 hb a4 (a5 hw)
  · intro b i o'' hb ho hw
    obtain ⟨c, p1, q1, a1, a2, a3, a4, _, _, a6⟩ := obj b i (sub b i hb)
    rw [r0 b (old b i hb)] at a1; cases a1
    rw [ho] at a3; cases a3
    exact k2.live b i q1 hb a4 (a6 hw)
  · rcases rv with ⟨rfl, hst⟩ | hrv
    · obtain ⟨x, hx⟩ := hst σ w args' hr ha
      exact (k3.meet hx).mono meet_le
    · exact hrv.via k3
theorem NV.plain {ρ : Nat → Option Nat} {v : Value} (h : plain1 v = true) : NV ρ v v := by
  unfold plain1 at h
  split at h <;> first | constructor | cases h
theorem NL.plain {ρ : Nat → Option Nat} : ∀ {l : List Value}, l.all plain1 = true → NL ρ l l
  | [], _ => .nil
  | v :: l, h => by
    simp only [List.all_cons, Bool.and_eq_true] at h
    exact .cons (NV.plain h.1) (NL.plain h.2)
theorem NL.get {ρ : Nat → Option Nat} {l l' : List Value} (h : NL ρ l l') : ∀ (i : Nat) (a : i < l.length) (b : i < l'.length), NV ρ l[i] l'[i] := by
  induction h with
  | nil => intro i a; simp at a
  | cons h _ ih =>
    intro i a b
    cases i with
    | zero => exact h
    | succ i => exact ih i (by simpa using a) (by simpa using b)
theorem NV.agg_of {ρ : Nat → Option Nat} {l l' : List Value} (h : NL ρ l l') : NV ρ (.agg l.toArray) (.agg l'.toArray) :=
  .agg _ _ (by simpa using h.length) (fun i a b => by simpa using h.get i (by simpa using a) (by simpa using b))
theorem NV.tuple_of {ρ : Nat → Option Nat} {l l' : List Value} (h : NL ρ l l') : NV ρ (.tuple l.toArray) (.tuple l'.toArray) :=
  .tuple _ _ (by simpa using h.length) (fun i a b => by simpa using h.get i (by simpa using a) (by simpa using b))
def rho (n : Nat) (bs : List Nat) : Nat → Option Nat := fun b => if b < n then some b else bs[b - n]?
theorem rho_old {n : Nat} {bs : List Nat} {b : Nat} (h : b < n) : rho n bs b = some b := by unfold rho; rw [if_pos h]
theorem ARun.gc0 (h : ARun P ng f args H v H') (k : Keeps H H') (hv : Stood ng args H v ∨ NV (rho H.n []) v v) : ARun P ng f args H v H := by
  refine h.gc (rho H.n []) (Nat.le_refl _) (fun b hb => rho_old hb) ?_ ?_ ?_ ?_
  · intro b c hb
    unfold rho at hb
    split at hb
    · cases hb; exact ⟨by assumption, by omega⟩
    · simp at hb
  · intro b1 b2 c h1 h2
    unfold rho at h1 h2
    split at h1 <;> split at h2 <;> simp_all
  · intro b c o' hb ho
    unfold rho at hb
    split at hb
    · rename_i hlt
      cases hb
      have := k.get b hlt
      rw [ho] at this
      exact .inl ⟨rfl, hlt, this.symm, this.symm⟩
    · simp at hb
  · rcases hv with hv | hv
    · exact .inl ⟨rfl, hv⟩
    · exact .inr hv
structure OB (e : Nat) (H K : AHeap) (v : Value) (l : List UInt8) : Prop where
  ap : AP K e 1 v l.length (cellsOf l)
  k : Keeps H K
  f : Fresh H.n v
theorem OB.bs {e : Nat} {H K : AHeap} {v : Value} {l : List UInt8} (h : OB e H K v l) : BS K v l := h.ap.bs
theorem OB.keeps {e : Nat} {H K K' : AHeap} {v : Value} {l : List UInt8} (h : OB e H K v l) (k : Keeps K K') : OB e H K' v l := ⟨h.ap.keeps k, h.k.trans k, h.f⟩
theorem OB.base {e : Nat} {H0 H K : AHeap} {v : Value} {l : List UInt8} (h : OB e H K v l) (k : Keeps H0 H) : OB e H0 K v l := ⟨h.ap, k.trans h.k, fun b hb => Nat.le_trans k.n (h.f b hb)⟩
theorem OB.nil (e : Nat) (H : AHeap) : OB e H H (.slice none 0 0) [] := ⟨.inl ⟨rfl, rfl, rfl⟩, Keeps.refl _, fun b hb => by cases hb⟩
theorem OB.one {e : Nat} {H K : AHeap} {v : Value} {l : List UInt8} (h : OB e H K v l) : v.oneCell' = true := by obtain ⟨a, rfl⟩ := h.ap.shape; rfl
theorem OB.is {e : Nat} {H K : AHeap} {v : Value} {l : List UInt8} (h : OB e H K v l) : isS v = true := by obtain ⟨a, rfl⟩ := h.ap.shape; rfl
theorem OB.len {e : Nat} {H K : AHeap} {v : Value} {l : List UInt8} (h : OB e H K v l) : lenS v = l.length := by obtain ⟨a, rfl⟩ := h.ap.shape; rfl
theorem OB.grow {e : Nat} {H K K' : AHeap} {v v' : Value} {l m : List UInt8} (h : OB e H K v l) (a : AP K' e 1 v' (l.length + m.length) (cellsOf l ++ cellsOf m)) (c : Chg (blkL v) K K') (hb : blk v' = blk v ∨ blk v' = some K.n) : OB e H K' v' (l ++ m) := by
  refine ⟨by rw [List.length_append, cellsOf_append]; exact a, h.k.chg_trans c (fun x hx => h.f x (mem_blkL.1 hx)), fun b hb' => ?_⟩
  rcases hb with e1 | e1
  · exact h.f b (by rw [← e1]; exact hb')
  · rw [e1] at hb'; cases hb'; exact h.k.n
section
variable {KF : List Value → AHeap → Prop} {fr tm : List Value} {tr : List TE} {K : AHeap}
theorem OB.appR {d : D} {r : List AOper} {e : Nat} {s x : Value} {l m : List UInt8} (h : OB e H K s l) (hx : BS K x m) (hs : l.length + m.length ≤ 1000000000)
    (hk : ∀ v' K', OB e H K' v' (l ++ m) → RW P ng r (d.frame v' fr) (d.temps v' tm) K' KF) : goR P ng (asem (.app e 1 1 s x) K) d r fr tm KF :=
  appG h.ap hx.sh hx.el (by rw [cellsOf_length, Nat.mul_one]) (by omega) (fun v' K' a c hb => hk v' K' (h.grow a c hb))
end
end Go.AM

set_option linter.unusedSimpArgs false
set_option linter.unusedVariables false
namespace Go.AM
def WR (H : AHeap) (e esz : Nat) (v : Value) (n : Nat) (c : List Value) : Prop :=
  (v = .slice none 0 0 ∧ n = 0 ∧ c = []) ∨ ∃ b k room d, v = slc b 0 n k ∧ n ≤ k ∧ d.length = k * esz ∧ d.take (n * esz) = c ∧ H.get b = some (.cells true room esz d e)
section
variable {H H' : AHeap} {e esz : Nat} {v : Value} {n : Nat} {c : List Value}
theorem AP.wr (h : AP H e esz v n c) : WR H e esz v n c := by
  rcases h with h | ⟨b, room, rfl, h1, h2⟩
  · exact .inl h
  · exact .inr ⟨b, n, room, c, rfl, Nat.le_refl _, h1, by rw [← h1, List.take_length], h2⟩
theorem WR.len (h : WR H e esz v n c) : c.length = n * esz := by
  rcases h with ⟨rfl, rfl, rfl⟩ | ⟨b, k, room, d, rfl, h1, h2, rfl, h4⟩
  · simp
  · have := Nat.mul_le_mul_right esz h1
    rw [List.length_take, h2]; omega
theorem WR.elems (h : WR H e esz v n c) : elemsA H esz v = some c := by
  rcases h with ⟨rfl, rfl, rfl⟩ | ⟨b, k, room, d, rfl, h1, h2, rfl, h4⟩
  · rfl
  · have := Nat.mul_le_mul_right esz h1
    simp only [elemsA, slc, h4]
    rw [if_pos (by omega), List.drop_zero]
theorem WR.shape (h : WR H e esz v n c) : ∃ a k, v = .slice a n k := by
  rcases h with ⟨rfl, rfl, rfl⟩ | ⟨b, k, room, d, rfl, h1, h2, h3, h4⟩
  · exact ⟨_, _, rfl⟩
  · exact ⟨_, _, rfl⟩
theorem WR.is (h : WR H e esz v n c) : isS v = true := by obtain ⟨a, k, rfl⟩ := h.shape; rfl
theorem WR.lenS (h : WR H e esz v n c) : Go.AM.lenS v = n := by obtain ⟨a, k, rfl⟩ := h.shape; rfl
theorem WR.one (h : WR H e esz v n c) : v.oneCell' = true := by obtain ⟨a, k, rfl⟩ := h.shape; rfl
theorem WR.lt (h : WR H e esz v n c) {b : Nat} (hb : blk v = some b) : b < H.n := by
  rcases h with ⟨rfl, rfl, rfl⟩ | ⟨b', k, room, d, rfl, h1, h2, h3, h4⟩
  · cases hb
  · cases hb; exact AHeap.get_lt h4
theorem WR.chg {S : List Nat} (h : WR H e esz v n c) (k : Chg S H H') (hS : ∀ x ∈ blkL v, x ∉ S) : WR H' e esz v n c := by
  rcases h with h | ⟨b, m, room, d, rfl, h1, h2, h3, h4⟩
  · exact .inl h
  · exact .inr ⟨b, m, room, d, rfl, h1, h2, h3, k.at_ h4 (hS b (mem_blkL.2 rfl))⟩
theorem WR.keeps (h : WR H e esz v n c) (k : Keeps H H') : WR H' e esz v n c := h.chg (k.chg []) (by simp)
theorem WR.sl {rows : List (List Value)} (h : WR H e esz v n rows.flatten) (hr : ∀ r ∈ rows, r.length = esz) (hn : n = rows.length) : Sl H esz v rows := by
  obtain ⟨a, k, rfl⟩ := h.shape
  exact ⟨⟨a, k, by rw [hn]⟩, hr, h.elems⟩
theorem WR.app {bytes m : Nat} {news : List Value} (h : WR H e esz v n c) (hm : news.length = m * esz) (hs : (n + m) * bytes ≤ 140737488355328 ∧ n + m ≤ 140737488355328) :
    ∃ v' H', appA H e esz bytes v m news = some (v', H') ∧ WR H' e esz v' (n + m) (c ++ news) ∧ Chg (blkL v) H H' ∧ (blk v' = blk v ∨ blk v' = some H.n) := by
  rcases h with ⟨rfl, rfl, rfl⟩ | ⟨b, k, room, d, rfl, h1, h2, h3, h4⟩
  · obtain ⟨v', H', a, b, d⟩ := AP.app (H := H) (e := e) (esz := esz) (v := .slice none 0 0) (n := 0) (c := []) (.inl ⟨rfl, rfl, rfl⟩) hm hs
    exact ⟨v', H', a, b.wr, d⟩
  · simp only [appA, slc]
    by_cases hm0 : m = 0
    · subst hm0
      have : news = [] := by rw [← List.length_eq_zero_iff]; omega
      subst this
      rw [if_pos rfl]
      exact ⟨_, _, rfl, .inr ⟨b, k, room, d, rfl, h1, h2, by simpa using h3, h4⟩, Chg.refl _ _, .inl rfl⟩
    · have hle := Nat.mul_le_mul_right esz h1
      have hc : c.length = n * esz := by rw [← h3, List.length_take, h2]; omega
      have hnm : (n + m) * esz = n * esz + m * esz := Nat.add_mul _ _ _
      rw [if_neg hm0, if_pos hs]
      simp only [h4, true_and]
      rw [if_pos (show 0 + k * esz ≤ d.length by omega)]
      by_cases hk : n + m ≤ k
      · have hle2 := Nat.mul_le_mul_right esz hk
        rw [if_pos hk]
        simp only [if_true]
        refine ⟨_, _, rfl, .inr ⟨b, k, room, _, rfl, hk, ?_, ?_, AHeap.get_set_same h4 _⟩, Chg.set H (AHeap.get_lt h4) _, .inl rfl⟩
        · rw [List.length_append, List.length_append, List.length_take, List.length_drop, hm]; omega
        · rw [Nat.zero_add, h3, List.take_append_of_le_length (by rw [List.length_append, hc, hm]; omega), List.take_of_length_le (by rw [List.length_append, hc, hm]; omega)]
      · rw [if_neg hk, List.drop_zero, h3]
        have hlen : (c ++ news).length = (n + m) * esz := by rw [List.length_append, hc, hm, Nat.add_mul]
        split
        · exact ⟨_, _, rfl, .inr ⟨H.n, n + m, true, _, rfl, Nat.le_refl _, hlen, by rw [← hlen, List.take_length], AHeap.get_alloc_new H _⟩, (Chg.refl _ _).alloc _, .inr rfl⟩
        · exact ⟨_, _, rfl, .inr ⟨H.n, n + m, true, _, rfl, Nat.le_refl _, hlen, by rw [← hlen, List.take_length], AHeap.get_alloc_new (H.set b .dead) _⟩, (Chg.set H (AHeap.get_lt h4) _).alloc _, .inr rfl⟩
end
section
variable {P : Program} {ng : Nat} {H : AHeap} {KF : List Value → AHeap → Prop} {fr tm : List Value} {tr : List TE} {e esz : Nat} {v : Value} {n : Nat} {c : List Value}
theorem WR.appR {d : D} {r : List AOper} {bytes : Nat} {x : Value} {m : Nat} {news : List Value} (h : WR H e esz v n c) (hx : ∃ a k, x = .slice a m k) (h1 : elemsA H esz x = some news) (hm : news.length = m * esz)
    (hs : (n + m) * bytes ≤ 140737488355328 ∧ n + m ≤ 140737488355328)
    (hk : ∀ v' H', WR H' e esz v' (n + m) (c ++ news) → Chg (blkL v) H H' → (blk v' = blk v ∨ blk v' = some H.n) → RW P ng r (d.frame v' fr) (d.temps v' tm) H' KF) : goR P ng (asem (.app e esz bytes v x) H) d r fr tm KF := by
  obtain ⟨v', H', e1, e2, e3, e4⟩ := h.app (bytes := bytes) hm hs
  obtain ⟨a, k, rfl⟩ := hx
  refine ⟨v', H', ?_, hk v' H' e2 e3 e4⟩
  simp only [asem, h1]; exact e1
end
end Go.AM

set_option linter.unusedSimpArgs false
set_option linter.unusedVariables false
namespace Go.AM
structure SepH (H K : AHeap) (ts : List Th) : Prop where
  sep : Sep K ts
  k : Keeps H K
  ge : ∀ t ∈ ts, ∀ y ∈ t.F, H.n ≤ y
section
variable {H K K' : AHeap} {t t' a b c d : Th} {r ts : List Th}
theorem SepH.keeps (h : SepH H K ts) (k : Keeps K K') : SepH H K' ts := ⟨h.sep.keeps k, h.k.trans k, h.ge⟩
theorem SepH.upd {l : List Th} (h : SepH H K (l ++ t :: r)) (c : Chg t.F K K') (hp : t'.P K') (hf : ∀ y ∈ t'.F, y ∈ t.F ∨ K.n ≤ y) : SepH H K' (l ++ t' :: r) := by
  refine ⟨h.sep.upd c hp hf, h.k.chg_trans c (fun y hy => h.ge t (by simp) y hy), fun x hx y hy => ?_⟩
  rcases List.mem_append.1 hx with hx | hx
  · exact h.ge x (by simp [hx]) y hy
  · rcases List.mem_cons.1 hx with rfl | hx
    · rcases hf y hy with e | e
      · exact h.ge t (by simp) y e
      · have := h.k.n; omega
    · exact h.ge x (by simp [hx]) y hy
theorem SepH.u1 (h : SepH H K (a :: t :: r)) (c : Chg t.F K K') (hp : t'.P K') (hf : ∀ y ∈ t'.F, y ∈ t.F ∨ K.n ≤ y) : SepH H K' (a :: t' :: r) := h.upd (l := [a]) c hp hf
theorem SepH.u2 (h : SepH H K (a :: b :: t :: r)) (c : Chg t.F K K') (hp : t'.P K') (hf : ∀ y ∈ t'.F, y ∈ t.F ∨ K.n ≤ y) : SepH H K' (a :: b :: t' :: r) := h.upd (l := [a, b]) c hp hf
theorem SepH.u3 (h : SepH H K (a :: b :: c :: t :: r)) (ch : Chg t.F K K') (hp : t'.P K') (hf : ∀ y ∈ t'.F, y ∈ t.F ∨ K.n ≤ y) : SepH H K' (a :: b :: c :: t' :: r) := h.upd (l := [a, b, c]) ch hp hf
theorem SepH.at_ (h : SepH H K ts) (i : Nat) (hi : ts[i]? = some t) : t.P K := h.sep.get i hi
theorem SepH.apart (h : SepH H K ts) (i j : Nat) (hij : i < j) (hi : ts[i]? = some a) (hj : ts[j]? = some b) {y : Nat} (hy : y ∈ a.F) : y ∉ b.F := h.sep.apart i j hij hi hj y hy
theorem SepH.lt (h : SepH H K ts) (i : Nat) (hi : ts[i]? = some t) {y : Nat} (hy : y ∈ t.F) : y < K.n := t.lt K (h.at_ i hi) y hy
theorem SepH.gei (h : SepH H K ts) (i : Nat) (hi : ts[i]? = some t) {y : Nat} (hy : y ∈ t.F) : H.n ≤ y := h.ge t (List.mem_of_getElem? hi) y hy
theorem SepH.old (h : SepH H K ts) (i : Nat) (hi : ts[i]? = some t) {y : Nat} (hy : y < H.n) : y ∉ t.F := fun hf => by have := h.gei i hi hf; omega
theorem SepH.add (h : SepH H K ts) (k : Keeps K K') (hp : t.P K') (hf : ∀ y ∈ t.F, K.n ≤ y) : SepH H K' (t :: ts) :=
  ⟨h.sep.add k hp hf, h.k.trans k, fun x hx y hy => by
    rcases List.mem_cons.1 hx with rfl | hx
    · have := hf y hy; have := h.k.n; omega
    · exact h.ge x hx y hy⟩
theorem SepH.nil (H : AHeap) : SepH H H [] := ⟨Sep.nil H, Keeps.refl H, by simp⟩
end
def thA (e esz : Nat) (v : Value) (n : Nat) (c : List Value) : Th where
  P K := AP K e esz v n c
  F := blkL v
  lt K h y hy := h.lt (mem_blkL.1 hy)
  st K K' h hn k := by
    rcases h with ⟨rfl, rfl, rfl⟩ | ⟨b, room, rfl, h1, h2⟩
    · exact .inl ⟨rfl, rfl, rfl⟩
    · exact .inr ⟨b, room, rfl, h1, by rw [k b (mem_blkL.2 rfl)]; exact h2⟩
end Go.AM

set_option linter.unusedSimpArgs false
set_option linter.unusedVariables false
namespace Go.AM
def cpre : Nat → ACode → ACode
  | 0, _ => .skip
  | 1, .seq a _ => a
  | n + 2, .seq a b => .seq a (cpre (n + 1) b)
  | _ + 1, c => c
def cpost : Nat → ACode → ACode
  | 0, c => c
  | n + 1, .seq _ b => cpost n b
  | _ + 1, _ => .skip
def cok : Nat → ACode → Bool
  | 0, _ => false
  | 1, .seq _ _ => true
  | n + 2, .seq _ b => cok (n + 1) b
  | _ + 1, _ => false
variable {P : Program} {ng : Nat} {H : AHeap} {Q : AQ} {fr : List Value}
theorem andThen2 (Q : AQ) (K K' : List Value → AHeap → Prop) : (Q.andThen K).andThen K' = Q.andThen K' := by
  funext e fr H
  cases e <;> rfl
theorem W_pp : ∀ (n : Nat) (c : ACode) (Q : AQ) (fr : List Value) (H : AHeap), cok n c = true → W P ng c Q fr H = W P ng (cpre n c) (Q.andThen (W P ng (cpost n c) Q)) fr H
  | 0, c, Q, fr, H, h => by simp [cok] at h
  | 1, c, Q, fr, H, h => by
    cases c <;> simp [cok] at h
    rfl
  | n + 2, c, Q, fr, H, h => by
    cases c <;> simp [cok] at h
    rename_i a b
    simp only [cpre, cpost, W_seq]
    rw [andThen2]
    congr 1
    funext e fr H
    cases e
    · exact W_pp (n + 1) b Q fr H h
    all_goals rfl
theorem W_part {c : ACode} (n : Nat) (M : List Value → AHeap → Prop) (hok : cok n c = true)
    (h1 : ∀ Q' : AQ, (∀ fr H, M fr H → Q' .normal fr H) → (∀ i fr H, Q (.exit i) fr H → Q' (.exit i) fr H) → (∀ fr H, Q .ret fr H → Q' .ret fr H) → W P ng (cpre n c) Q' fr H)
    (h2 : ∀ fr H, M fr H → W P ng (cpost n c) Q fr H) : W P ng c Q fr H := by
  rw [W_pp n c Q fr H hok]
  exact h1 _ (fun fr H h => h2 fr H h) (fun _ _ _ h => h) (fun _ _ h => h)
end Go.AM

set_option linter.unusedSimpArgs false
set_option linter.unusedVariables false
namespace Go.AM
section
variable {P : Program} {ng : Nat} {H : AHeap} {Q : AQ} {fr tm : List Value}
theorem str_ex (s : ByteArray) : ∃ l : List UInt8, s = ⟨l.toArray⟩ := ⟨s.data.toList, by simp⟩
theorem str_emp : ByteArray.empty = ⟨([] : List UInt8).toArray⟩ := _root_.id rfl
theorem str_ext (l : List UInt8) (a b : Nat) : (⟨l.toArray⟩ : ByteArray).extract a b = ⟨((l.take b).drop a).toArray⟩ := by
  apply ByteArray.ext
  rw [ByteArray.data_extract, List.drop_take]
  simp [List.extract_eq_take_drop]
theorem str_size (l : List UInt8) : (⟨l.toArray⟩ : ByteArray).size = l.length := by simp [ByteArray.size]
theorem a_slsT {l : List UInt8} {n : Nat} {kd : IntKind} (h : n ≤ l.length) : asem (.slstr (.string ⟨l.toArray⟩) (some (.int kd (n : Int))) none) H = some (.string ⟨(l.drop n).toArray⟩, H) := by
  simp only [asem, bndA, str_size]
  rw [if_pos (by omega)]
  simp [str_ext]
theorem a_slsP {l : List UInt8} {n : Nat} {kd : IntKind} (h : n ≤ l.length) : asem (.slstr (.string ⟨l.toArray⟩) none (some (.int kd (n : Int)))) H = some (.string ⟨(l.take n).toArray⟩, H) := by
  simp only [asem, bndA, str_size]
  rw [if_pos (by omega)]
  simp [str_ext]
theorem a_idxS {l : List UInt8} {n : Nat} {kd : IntKind} (h : n < l.length) : asem (.idxs (.string ⟨l.toArray⟩) (.int kd (n : Int))) H = some (.int .u8 ((l.getD n 0).toNat : Nat), H) := by
  simp only [asem, str_size]
  rw [if_pos (by omega)]
  simp [List.getD, List.getElem?_eq_getElem h]
theorem a_idxS0 {l : List UInt8} {kd : IntKind} (h : 0 < l.length) : asem (.idxs (.string ⟨l.toArray⟩) (.int kd 0)) H = some (.int .u8 ((l.getD 0 0).toNat : Nat), H) := a_idxS (n := 0) h
theorem b_addS {a b : List UInt8} (h : a.length + b.length ≤ 140737488355328) : binA .add (.string ⟨a.toArray⟩) (.string ⟨b.toArray⟩) = some (.string ⟨(a ++ b).toArray⟩) := by
  rw [b_sadd (by simpa [str_size] using h), bytes_append]
theorem st_callvy (b : Nat) (xs : List Value) (d : D) (r : List AOper) (KF : List Value → AHeap → Prop) : stR P ng (.callv (.chan (some b)) xs) d r fr tm H KF = ∃ v H', AYield P ng b xs H v H' ∧ RW P ng r (d.frame v fr) (d.temps v tm) H' KF := _root_.id rfl
theorem yieldK {b : Nat} {xs : List Value} {R K : Value → AHeap → Prop} (h : ∃ v H', AYield P ng b xs H v H' ∧ R v H') (k : ∀ v H', R v H' → K v H') : ∃ v H', AYield P ng b xs H v H' ∧ K v H' := by
  obtain ⟨v, H', h1, h2⟩ := h; exact ⟨v, H', h1, k v H' h2⟩
theorem arun_ext {f : FuncId} {fn : Func} {e : Array Value → Sem Value} (hf : P.funcs[f]? = some fn) (hname : (fn.name == "runtime.NumGoroutine") = false) (hb : fn.body.isNone = true) (hn : Extern.findNext fn = none) (he : Extern.find fn = some e)
    {args : List Value} {v : Value} (hv : ∀ σ, VR σ v v) (h : ∀ σ w args', VL σ args args' → (e args'.toArray).run P w = .ok v w) : ARun P ng f args H v H := by
  refine ⟨⟨fn, hf⟩, Nat.le_refl _, fun σ w args' hr ha => ?_⟩
  refine .ext v w ?_ ⟨v, σ, rfl, hr, Ext.refl _ _ _ _, hv σ⟩
  rw [run_callFunc_extern hf hname hb hn he, h σ w args' ha]
  rfl
end
def ixB (c : UInt8) : List UInt8 → Option Nat
  | [] => none
  | x :: l => if x = c then some 0 else (ixB c l).map (· + 1)
def ixI (c : UInt8) (l : List UInt8) : Int := match ixB c l with
  | some i => (i : Int)
  | none => -1
theorem ixB_find (c : UInt8) (l : List UInt8) : l.findIdx? (· == c) = ixB c l := by
  induction l with
  | nil => rfl
  | cons x l ih =>
    simp only [List.findIdx?_cons, ixB, ih]
    by_cases h : x = c <;> simp [h]
theorem find_range {α : Type} (p : α → Bool) : ∀ (l : List α) (q : Nat → Bool), (∀ i (h : i < l.length), q i = p l[i]) → (List.range l.length).find? q = l.findIdx? p
  | [], q, h => rfl
  | x :: l, q, h => by
    rw [List.length_cons, List.range_succ_eq_map, List.find?_cons, List.findIdx?_cons]
    rw [h 0 (by simp)]
    simp only [List.getElem_cons_zero]
    cases p x with
    | true => rfl
    | false =>
      simp only [List.find?_map]
      rw [find_range p l (q ∘ Nat.succ) (fun i hi => by
        have h1 := h (i + 1) (by simpa using hi)
        rw [List.getElem_cons_succ] at h1
        exact h1)]
      cases l.findIdx? p <;> simp
theorem first_ix (l : List UInt8) (c : UInt8) : firstIdx ⟨l.toArray⟩ c = ixI c l := by
  unfold firstIdx ixI
  rw [← ixB_find, str_size, find_range (fun x => x == c) l]
  · cases l.findIdx? (· == c) <;> rfl
  · intro i h
    have : (⟨l.toArray⟩ : ByteArray)[i]! = l[i] := by
      rw [getElem!_pos (⟨l.toArray⟩ : ByteArray) i (by rw [str_size]; exact h)]
      rfl
    rw [this]
theorem ixB_some {c : UInt8} : ∀ {l : List UInt8} {i : Nat}, ixB c l = some i → i < l.length ∧ l.getD i 0 = c ∧ ∀ j, j < i → l.getD j 0 ≠ c
  | x :: l, i, h => by
    simp only [ixB] at h
    split at h
    · rename_i hx
      cases h
      exact ⟨by simp, by simpa using hx, fun j hj => absurd hj (by omega)⟩
    · rename_i hx
      simp only [Option.map_eq_some_iff] at h
      obtain ⟨k, hk, rfl⟩ := h
      obtain ⟨h1, h2, h3⟩ := ixB_some hk
      refine ⟨by simpa using h1, by simpa using h2, fun j hj => ?_⟩
      cases j with
      | zero => simpa using hx
      | succ j => simpa using h3 j (by omega)
theorem ixB_none {c : UInt8} : ∀ {l : List UInt8}, ixB c l = none → c ∉ l
  | [], _ => by simp
  | x :: l, h => by
    simp only [ixB] at h
    split at h
    · cases h
    · rename_i hx
      simp only [Option.map_eq_none_iff] at h
      simp only [List.mem_cons, not_or]
      exact ⟨fun e => hx e.symm, ixB_none h⟩
theorem ixB_le {c : UInt8} {l : List UInt8} {i : Nat} (h : ixB c l = some i) : i < l.length := (ixB_some h).1
def splitB (c : UInt8) : List UInt8 → List (List UInt8)
  | [] => [[]]
  | x :: l => if x = c then [] :: splitB c l else match splitB c l with
    | p :: r => (x :: p) :: r
    | [] => [[x]]
theorem splitB_ne (c : UInt8) (l : List UInt8) : splitB c l ≠ [] := by
  cases l with
  | nil => simp [splitB]
  | cons x l =>
    simp only [splitB]
    split
    · simp
    · split <;> simp
theorem splitB_ix {c : UInt8} : ∀ {l : List UInt8}, splitB c l = match ixB c l with
    | some i => l.take i :: splitB c (l.drop (i + 1))
    | none => [l]
  | [] => rfl
  | x :: l => by
    simp only [splitB, ixB]
    split
    · simp
    · rw [splitB_ix (l := l)]
      cases ixB c l <;> simp
end Go.AM

set_option linter.unusedSimpArgs false
set_option linter.unusedVariables false
namespace Go.AM.Fd
open Nat (reduceAdd reduceEqDiff reduceLT reduceLeDiff reduceMul reduceSub)
open Go.Proofs Go.AM.F
noncomputable def ibsF : Func := (Go.Proofs.Tryd.prog.funcs[45]?).getD default
theorem ibs_f : Go.Proofs.Tryd.prog.funcs[45]? = some ibsF := by kernel_rfl
theorem ibs_n : (ibsF.name == "runtime.NumGoroutine") = false := by kernel_rfl
theorem ibs_b : ibsF.body.isNone = true := by kernel_rfl
theorem ibs_x : Extern.findNext ibsF = none := by kernel_rfl
theorem ibs_e : Extern.find ibsF = some Extern.BytealgIndexByte.indexByte := by kernel_rfl
theorem t45 (H : AHeap) (l : List UInt8) (c : Nat) : ∃ w H', ARun Go.Proofs.Tryd.prog 3 45 [.string ⟨l.toArray⟩, .int .u8 (c : Int)] H w H' ∧ w = .int .i64 (ixI (UInt8.ofNat c) l) ∧ H' = H := by
  refine ⟨_, _, arun_ext ibs_f ibs_n ibs_b ibs_x ibs_e (fun σ => .int .i64 (ixI (UInt8.ofNat c) l)) ?_, rfl, rfl⟩
  intro σ w args' hv
  cases hv with
  | cons a hv =>
    cases hv with
    | cons b hv =>
      cases hv
      cases a
      cases b
      have := run_indexByte_string (P := Go.Proofs.Tryd.prog) ⟨l.toArray⟩ (c : Int) w
      rw [first_ix] at this
      exact this
theorem t38 (H : AHeap) (l : List UInt8) (c : Nat) : ∃ w H', ARun Go.Proofs.Tryd.prog 3 38 [.string ⟨l.toArray⟩, .int .u8 (c : Int)] H w H' ∧ w = .int .i64 (ixI (UInt8.ofNat c) l) ∧ H' = H := by
  refine walk2 f38_ok f38_n ?_
  intro Q hq1 hq2
  simp (disch := first | assumption | omega | (simp only [LN] <;> omega) | (simp (disch := first | assumption | omega | (simp only [LN] <;> omega)) only [row_alloc, row_set]; assumption)) only [f38, W_block, P3, ↓reduceIte, reduceAdd, reduceEqDiff, reduceCtorEq, initFr, reduceLT, clsA, reduceLeDiff, reduceMul, reduceSub, reduceIte]
  refine callK (t45 H l c) ?_
  rintro _ K ⟨rfl, rfl⟩
  simp (disch := first | assumption | omega | (simp only [LN] <;> omega) | (simp (disch := first | assumption | omega | (simp only [LN] <;> omega)) only [row_alloc, row_set]; assumption)) only [W_block, P3, ↓reduceIte, reduceAdd, reduceEqDiff, reduceCtorEq, initFr, reduceLT, clsA, reduceLeDiff, reduceMul, reduceSub, reduceIte]
  exact hq2 _ _ ⟨_, rfl, rfl, rfl⟩
theorem t32 (H : AHeap) (l : List UInt8) (c : UInt8) : ∃ w H', ARun Go.Proofs.Tryd.prog 3 32 [.string ⟨l.toArray⟩, .string ⟨[c].toArray⟩] H w H' ∧ w = .int .i64 (ixI c l) ∧ H' = H := by
  refine walk2 f32_ok f32_n ?_
  intro Q hq1 hq2
  have e0 : (((1 : Nat) : Int) == 0) = false := by simp
  have e1 : (((1 : Nat) : Int) == 1) = true := by simp
  have e2 : [c].getD 0 0 = c := rfl
  have hl : 0 < [c].length := by simp
  by_cases hc : [c] = l
  · have e3 : decide ([c] = l) = true := by simpa using hc
    simp (disch := first | assumption | omega | (simp only [LN] <;> omega) | (simp (disch := first | assumption | omega | (simp only [LN] <;> omega)) only [row_alloc, row_set]; assumption)) only [f32, W_block, P3, ↓reduceIte, reduceAdd, reduceEqDiff, reduceCtorEq, initFr, reduceLT, clsA, reduceLeDiff, reduceMul, reduceSub, reduceIte, a_idxS0, e0, e1, e2, e3, bytes_eq]
    exact hq2 _ _ ⟨_, rfl, by rw [← hc]; simp [ixI, ixB]; rfl, rfl⟩
  · have e3 : decide ([c] = l) = false := by simpa using hc
    simp (disch := first | assumption | omega | (simp only [LN] <;> omega) | (simp (disch := first | assumption | omega | (simp only [LN] <;> omega)) only [row_alloc, row_set]; assumption)) only [f32, W_block, P3, ↓reduceIte, reduceAdd, reduceEqDiff, reduceCtorEq, initFr, reduceLT, clsA, reduceLeDiff, reduceMul, reduceSub, reduceIte, a_idxS0, e0, e1, e2, e3, bytes_eq]
    refine callK (t38 H l c.toNat) ?_
    rintro _ K ⟨rfl, rfl⟩
    simp (disch := first | assumption | omega | (simp only [LN] <;> omega) | (simp (disch := first | assumption | omega | (simp only [LN] <;> omega)) only [row_alloc, row_set]; assumption)) only [W_block, P3, ↓reduceIte, reduceAdd, reduceEqDiff, reduceCtorEq, initFr, reduceLT, clsA, reduceLeDiff, reduceMul, reduceSub, reduceIte, UInt8.ofNat_toNat]
    exact hq2 _ _ ⟨_, rfl, rfl, rfl⟩
theorem t35 (H : AHeap) (l : List UInt8) (c : UInt8) : ∃ w H', ARun Go.Proofs.Tryd.prog 3 35 [.string ⟨l.toArray⟩, .string ⟨[c].toArray⟩] H w H' ∧ w = .int .i64 (ixI c l) ∧ H' = H := by
  refine walk2 f35_ok f35_n ?_
  intro Q hq1 hq2
  simp (disch := first | assumption | omega | (simp only [LN] <;> omega) | (simp (disch := first | assumption | omega | (simp only [LN] <;> omega)) only [row_alloc, row_set]; assumption)) only [f35, W_block, P3, ↓reduceIte, reduceAdd, reduceEqDiff, reduceCtorEq, initFr, reduceLT, clsA, reduceLeDiff, reduceMul, reduceSub, reduceIte]
  refine callK (t32 H l c) ?_
  rintro _ K ⟨rfl, rfl⟩
  simp (disch := first | assumption | omega | (simp only [LN] <;> omega) | (simp (disch := first | assumption | omega | (simp only [LN] <;> omega)) only [row_alloc, row_set]; assumption)) only [W_block, P3, ↓reduceIte, reduceAdd, reduceEqDiff, reduceCtorEq, initFr, reduceLT, clsA, reduceLeDiff, reduceMul, reduceSub, reduceIte]
  exact hq2 _ _ ⟨_, rfl, rfl, rfl⟩
def cutB (c : UInt8) (l : List UInt8) : Value := match ixB c l with
  | some i => .tuple #[.string ⟨(l.take i).toArray⟩, .string ⟨(l.drop (i + 1)).toArray⟩, .bool true]
  | none => .tuple #[.string ⟨l.toArray⟩, .string ⟨([] : List UInt8).toArray⟩, .bool false]
theorem t28 (H : AHeap) (l : List UInt8) (c : UInt8) (hl : l.length ≤ 1000000000) : ∃ w H', ARun Go.Proofs.Tryd.prog 3 28 [.string ⟨l.toArray⟩, .string ⟨[c].toArray⟩] H w H' ∧ w = cutB c l ∧ H' = H := by
  refine walk2 f28_ok f28_n ?_
  intro Q hq1 hq2
  simp (disch := first | assumption | omega | (simp only [LN] <;> omega) | (simp (disch := first | assumption | omega | (simp only [LN] <;> omega)) only [row_alloc, row_set]; assumption)) only [f28, W_block, P3, ↓reduceIte, reduceAdd, reduceEqDiff, reduceCtorEq, initFr, reduceLT, clsA, reduceLeDiff, reduceMul, reduceSub, reduceIte]
  refine callK (t32 H l c) ?_
  rintro _ K ⟨rfl, rfl⟩
  cases hi : ixB c l with
  | none =>
    have e : ixI c l = -1 := by unfold ixI; rw [hi]
    simp (disch := first | assumption | omega | (simp only [LN] <;> omega) | (simp (disch := first | assumption | omega | (simp only [LN] <;> omega)) only [row_alloc, row_set]; assumption)) only [W_block, P3, ↓reduceIte, reduceAdd, reduceEqDiff, reduceCtorEq, initFr, reduceLT, clsA, reduceLeDiff, reduceMul, reduceSub, reduceIte, e]
    exact hq2 _ _ ⟨_, rfl, by unfold cutB; rw [hi]; rfl, rfl⟩
  | some i =>
    have e : ixI c l = (i : Int) := by unfold ixI; rw [hi]
    have hlt := ixB_le hi
    have h0 : (0 : Int) ≤ (i : Int) := by omega
    have hle : i ≤ l.length := by omega
    have hw : IntKind.i64.wrap ((i : Int) + ((1 : Nat) : Int)) = ((i + 1 : Nat) : Int) := by
      rw [wrap_i64 (by omega) (by omega)]; simp
    have hle2 : i + 1 ≤ l.length := by omega
    simp (disch := first | assumption | omega | (simp only [LN] <;> omega) | (simp (disch := first | assumption | omega | (simp only [LN] <;> omega)) only [row_alloc, row_set]; assumption)) only [W_block, P3, ↓reduceIte, reduceAdd, reduceEqDiff, reduceCtorEq, initFr, reduceLT, clsA, reduceLeDiff, reduceMul, reduceSub, reduceIte, e, a_slsP, a_slsT, hw]
    exact hq2 _ _ ⟨_, rfl, by unfold cutB; rw [hi]; rfl, rfl⟩
theorem t22 (H : AHeap) (l : List UInt8) (c : UInt8) (hl : l.length ≤ 1000000000) : ∃ w H', ARun Go.Proofs.Tryd.prog 3 22 [.string ⟨l.toArray⟩, .string ⟨[c].toArray⟩] H w H' ∧ w = cutB c l ∧ H' = H := by
  refine walk2 f22_ok f22_n ?_
  intro Q hq1 hq2
  simp (disch := first | assumption | omega | (simp only [LN] <;> omega) | (simp (disch := first | assumption | omega | (simp only [LN] <;> omega)) only [row_alloc, row_set]; assumption)) only [f22, W_block, P3, ↓reduceIte, reduceAdd, reduceEqDiff, reduceCtorEq, initFr, reduceLT, clsA, reduceLeDiff, reduceMul, reduceSub, reduceIte]
  refine callK (t28 H l c hl) ?_
  rintro _ K ⟨hw, rfl⟩
  unfold cutB at hw
  split at hw <;> (subst hw; simp (disch := first | assumption | omega | (simp only [LN] <;> omega) | (simp (disch := first | assumption | omega | (simp only [LN] <;> omega)) only [row_alloc, row_set]; assumption)) only [W_block, P3, ↓reduceIte, reduceAdd, reduceEqDiff, reduceCtorEq, initFr, reduceLT, clsA, reduceLeDiff, reduceMul, reduceSub, reduceIte])
  · rename_i i hi
    exact hq2 _ _ ⟨_, rfl, by unfold cutB; rw [hi]; rfl, rfl⟩
  · rename_i hi
    exact hq2 _ _ ⟨_, rfl, by unfold cutB; rw [hi]; rfl, rfl⟩
theorem t29 (H : AHeap) (l p : List UInt8) : ∃ w H', ARun Go.Proofs.Tryd.prog 3 29 [.string ⟨l.toArray⟩, .string ⟨p.toArray⟩] H w H' ∧ w = .bool (p.isPrefixOf l) ∧ H' = H := by
  refine walk2 f29_ok f29_n ?_
  intro Q hq1 hq2
  by_cases h : p.length ≤ l.length
  · have h1 : ((p.length : Nat) : Int) ≤ ((l.length : Nat) : Int) := by omega
    have e : (decide (l.take p.length = p)) = p.isPrefixOf l := by
      rw [Bool.eq_iff_iff, decide_eq_true_iff, List.isPrefixOf_iff_prefix, List.prefix_iff_eq_take]
      exact eq_comm
    simp (disch := first | assumption | omega | (simp only [LN] <;> omega) | (simp (disch := first | assumption | omega | (simp only [LN] <;> omega)) only [row_alloc, row_set]; assumption)) only [f29, W_block, P3, ↓reduceIte, reduceAdd, reduceEqDiff, reduceCtorEq, initFr, reduceLT, clsA, reduceLeDiff, reduceMul, reduceSub, reduceIte, a_slsP, bytes_eq, e]
    exact hq2 _ _ ⟨_, rfl, rfl, rfl⟩
  · have h1 : ¬ ((p.length : Nat) : Int) ≤ ((l.length : Nat) : Int) := by omega
    have e : p.isPrefixOf l = false := by
      rw [Bool.eq_false_iff]
      intro e
      exact h (List.isPrefixOf_iff_prefix.1 e).length_le
    simp (disch := first | assumption | omega | (simp only [LN] <;> omega) | (simp (disch := first | assumption | omega | (simp only [LN] <;> omega)) only [row_alloc, row_set]; assumption)) only [f29, W_block, P3, ↓reduceIte, reduceAdd, reduceEqDiff, reduceCtorEq, initFr, reduceLT, clsA, reduceLeDiff, reduceMul, reduceSub, reduceIte]
    exact hq2 _ _ ⟨_, rfl, by rw [e]; rfl, rfl⟩
theorem t23 (H : AHeap) (l p : List UInt8) : ∃ w H', ARun Go.Proofs.Tryd.prog 3 23 [.string ⟨l.toArray⟩, .string ⟨p.toArray⟩] H w H' ∧ w = .bool (p.isPrefixOf l) ∧ H' = H := by
  refine walk2 f23_ok f23_n ?_
  intro Q hq1 hq2
  simp (disch := first | assumption | omega | (simp only [LN] <;> omega) | (simp (disch := first | assumption | omega | (simp only [LN] <;> omega)) only [row_alloc, row_set]; assumption)) only [f23, W_block, P3, ↓reduceIte, reduceAdd, reduceEqDiff, reduceCtorEq, initFr, reduceLT, clsA, reduceLeDiff, reduceMul, reduceSub, reduceIte]
  refine callK (t29 H l p) ?_
  rintro _ K ⟨rfl, rfl⟩
  simp (disch := first | assumption | omega | (simp only [LN] <;> omega) | (simp (disch := first | assumption | omega | (simp only [LN] <;> omega)) only [row_alloc, row_set]; assumption)) only [W_block, P3, ↓reduceIte, reduceAdd, reduceEqDiff, reduceCtorEq, initFr, reduceLT, clsA, reduceLeDiff, reduceMul, reduceSub, reduceIte]
  exact hq2 _ _ ⟨_, rfl, rfl, rfl⟩
end Go.AM.Fd

set_option linter.unusedSimpArgs false
set_option linter.unusedVariables false
namespace Go.AM.Fd
open Nat (reduceAdd reduceEqDiff reduceLT reduceLeDiff reduceMul reduceSub)
open Go.Proofs Go.AM.F
def boxS (l : List UInt8) : AO := .cells true false 1 [.string ⟨l.toArray⟩] 9
theorem t30 (H : AHeap) (l : List UInt8) (c : UInt8) : ∃ w H', ARun Go.Proofs.Tryd.prog 3 30 [.string ⟨l.toArray⟩, .string ⟨[c].toArray⟩, .int .i64 0] H w H' ∧
    w = .func (.func 33) #[] #[ptr (H.n + 1) 0, ptr H.n 0, ptr (H.n + 2) 0] ∧ H' = ((H.alloc (boxS l)).alloc (boxS [c])).alloc (.cells true false 1 [.int .i64 0] 3) := by
  refine walk2 f30_ok f30_n ?_
  intro Q hq1 hq2
  simp (disch := first | assumption | omega | (simp only [LN] <;> omega) | (simp (disch := first | assumption | omega | (simp only [LN] <;> omega)) only [row_alloc, row_set]; assumption)) only [f30, W_block, P3, ↓reduceIte, reduceAdd, reduceEqDiff, reduceCtorEq, initFr, reduceLT, clsA, reduceLeDiff, reduceMul, reduceSub, reduceIte]
  exact hq2 _ _ ⟨_, rfl, rfl, rfl⟩
theorem t24 (H : AHeap) (l : List UInt8) (c : UInt8) : ∃ w H', ARun Go.Proofs.Tryd.prog 3 24 [.string ⟨l.toArray⟩, .string ⟨[c].toArray⟩] H w H' ∧
    w = .func (.func 33) #[] #[ptr (H.n + 1) 0, ptr H.n 0, ptr (H.n + 2) 0] ∧ H' = ((H.alloc (boxS l)).alloc (boxS [c])).alloc (.cells true false 1 [.int .i64 0] 3) := by
  refine walk2 f24_ok f24_n ?_
  intro Q hq1 hq2
  simp (disch := first | assumption | omega | (simp only [LN] <;> omega) | (simp (disch := first | assumption | omega | (simp only [LN] <;> omega)) only [row_alloc, row_set]; assumption)) only [f24, W_block, P3, ↓reduceIte, reduceAdd, reduceEqDiff, reduceCtorEq, initFr, reduceLT, clsA, reduceLeDiff, reduceMul, reduceSub, reduceIte]
  refine callK (t30 H l c) ?_
  rintro _ K ⟨rfl, rfl⟩
  simp (disch := first | assumption | omega | (simp only [LN] <;> omega) | (simp (disch := first | assumption | omega | (simp only [LN] <;> omega)) only [row_alloc, row_set]; assumption)) only [W_block, P3, ↓reduceIte, reduceAdd, reduceEqDiff, reduceCtorEq, initFr, reduceLT, clsA, reduceLeDiff, reduceMul, reduceSub, reduceIte]
  exact hq2 _ _ ⟨_, rfl, rfl, rfl⟩
theorem t33 (J : List (List UInt8) → List UInt8 → AHeap → Prop) (Jx : AHeap → Prop) {c : UInt8} {b p1 p2 p3 : Nat} {s : List UInt8} (hl : s.length ≤ 1000000000)
    (hr : ∀ pre sc H, J pre sc H → H.get p1 = some (boxS [c]) ∧ H.get p2 = some (boxS sc) ∧ H.get p3 = some (.cells true false 1 [.int .i64 0] 3))
    (hw : ∀ pre sc sc' H, J pre sc H → J pre sc' (H.set p2 (boxS sc')))
    (hy : ∀ pre x sc H, J pre sc H → (∃ rest, splitB c s = pre ++ x :: rest) → ∃ v H', AYield Go.Proofs.Tryd.prog 3 b [.string ⟨x.toArray⟩] H v H' ∧ ((v = .bool true ∧ J (pre ++ [x]) sc H') ∨ (v = .bool false ∧ Jx H')))
    {H : AHeap} (h0 : J [] s H) : ∃ w H', ARun Go.Proofs.Tryd.prog 3 33 [.chan (some b), ptr p1 0, ptr p2 0, ptr p3 0] H w H' ∧ ((∃ sc, J (splitB c s) sc H') ∨ Jx H') := by
  refine walk2 f33_ok f33_n ?_
  intro Q hq1 hq2
  obtain ⟨g1, g2, g3⟩ := hr _ _ _ h0
  have e0 : (((1 : Nat) : Int) == 0) = false := by simp
  unfold boxS at g1 g2
  simp (disch := first | assumption | omega | (simp only [LN] <;> omega) | (simp (disch := first | assumption | omega | (simp only [LN] <;> omega)) only [row_alloc, row_set]; assumption)) only [ f33, P3, ↓reduceIte, reduceAdd, reduceEqDiff, reduceCtorEq, initFr, reduceLT, clsA, reduceLeDiff, reduceMul, reduceSub, reduceIte, g1, e0]
  rw [W_block]
  refine W_loop2 (fun k fr H => ∃ pre sc x5 x6 x10 x11, fr = [.chan (some b), ptr p1 0, ptr p2 0, ptr p3 0, undef, x5, x6, .bool false, undef, undef, x10, x11] ∧ J pre sc H ∧ splitB c s = pre ++ splitB c sc ∧ sc.length = k ∧ sc.length ≤ s.length) s.length
    ⟨[], s, _, _, _, _, rfl, h0, rfl, rfl, Nat.le_refl _⟩ ?_
  rintro Q' k fr H ⟨pre, sc, x5, x6, x10, x11, rfl, hJ, hsp, hk, hle⟩ hn hx hret
  obtain ⟨g1, g2, g3⟩ := hr _ _ _ hJ
  unfold boxS at g1 g2
  simp (disch := first | assumption | omega | (simp only [LN] <;> omega) | (simp (disch := first | assumption | omega | (simp only [LN] <;> omega)) only [row_alloc, row_set]; assumption)) only [W_block, P3, ↓reduceIte, reduceAdd, reduceEqDiff, reduceCtorEq, initFr, reduceLT, clsA, reduceLeDiff, reduceMul, reduceSub, reduceIte, g1, g2]
  refine callK (t35 H sc c) ?_
  rintro _ K ⟨rfl, rfl⟩
  cases hi : ixB c sc with
  | none =>
    have e : ixI c sc = -1 := by unfold ixI; rw [hi]
    have hsp1 : splitB c sc = [sc] := by rw [splitB_ix, hi]
    rw [hsp1] at hsp
    simp (disch := first | assumption | omega | (simp only [LN] <;> omega) | (simp (disch := first | assumption | omega | (simp only [LN] <;> omega)) only [row_alloc, row_set]; assumption)) only [W_block, P3, ↓reduceIte, reduceAdd, reduceEqDiff, reduceCtorEq, initFr, reduceLT, clsA, reduceLeDiff, reduceMul, reduceSub, reduceIte, e, g1, g2]
    refine hx 2 _ _ ?_
    simp (disch := first | assumption | omega | (simp only [LN] <;> omega) | (simp (disch := first | assumption | omega | (simp only [LN] <;> omega)) only [row_alloc, row_set]; assumption)) only [W_block, P3, ↓reduceIte, reduceAdd, reduceEqDiff, reduceCtorEq, initFr, reduceLT, clsA, reduceLeDiff, reduceMul, reduceSub, reduceIte, g1, g2, st_callvy]
    refine yieldK (hy pre sc sc _ hJ ⟨[], hsp⟩) ?_
    rintro v K h
    refine hq1 _ _ ⟨_, rfl, ?_⟩
    rcases h with ⟨_, h⟩ | ⟨_, h⟩
    · exact .inl ⟨sc, by rw [hsp]; exact h⟩
    · exact .inr h
  | some i =>
    have e : ixI c sc = (i : Int) := by unfold ixI; rw [hi]
    have hlt := ixB_le hi
    have h0' : ¬ ((i : Int) < 0) := by omega
    have hw1 : IntKind.i64.wrap ((i : Int) + 0) = ((i : Nat) : Int) := by rw [wrap_i64 (by omega) (by omega)]; simp
    have hw2 : IntKind.i64.wrap ((i : Int) + ((1 : Nat) : Int)) = ((i + 1 : Nat) : Int) := by rw [wrap_i64 (by omega) (by omega)]; simp
    have hi1 : i ≤ sc.length := by omega
    have hi2 : i + 1 ≤ sc.length := by omega
    have hsp1 : splitB c sc = sc.take i :: splitB c (sc.drop (i + 1)) := by rw [splitB_ix, hi]
    rw [hsp1] at hsp
    simp (disch := first | assumption | omega | (simp only [LN] <;> omega) | (simp (disch := first | assumption | omega | (simp only [LN] <;> omega)) only [row_alloc, row_set]; assumption)) only [W_block, P3, ↓reduceIte, reduceAdd, reduceEqDiff, reduceCtorEq, initFr, reduceLT, clsA, reduceLeDiff, reduceMul, reduceSub, reduceIte, e, g1, g2, g3, a_slsP, hw1, st_callvy]
    refine yieldK (hy pre (sc.take i) sc _ hJ ⟨_, hsp⟩) ?_
    rintro v K h
    rcases h with ⟨rfl, h⟩ | ⟨rfl, h⟩
    · obtain ⟨k1, k2, k3⟩ := hr _ _ _ h
      have k2' := k2
      unfold boxS at k1 k2
      simp (disch := first | assumption | omega | (simp only [LN] <;> omega) | (simp (disch := first | assumption | omega | (simp only [LN] <;> omega)) only [row_alloc, row_set]; assumption)) only [W_block, P3, ↓reduceIte, reduceAdd, reduceEqDiff, reduceCtorEq, initFr, reduceLT, clsA, reduceLeDiff, reduceMul, reduceSub, reduceIte, k1, k2, k3, a_slsT, hw2]
      refine hn (sc.drop (i + 1)).length _ _ ⟨pre ++ [sc.take i], sc.drop (i + 1), _, _, _, _, rfl, hw _ _ (sc.drop (i + 1)) _ h, by simp [hsp], rfl, by simp; omega⟩ (by rw [← hk]; simp; omega)
    · simp (disch := first | assumption | omega | (simp only [LN] <;> omega) | (simp (disch := first | assumption | omega | (simp only [LN] <;> omega)) only [row_alloc, row_set]; assumption)) only [W_block, P3, ↓reduceIte, reduceAdd, reduceEqDiff, reduceCtorEq, initFr, reduceLT, clsA, reduceLeDiff, reduceMul, reduceSub, reduceIte]
      exact hret _ _ (hq2 _ _ ⟨_, rfl, .inr h⟩)
end Go.AM.Fd

set_option linter.unusedSimpArgs false
set_option linter.unusedVariables false
namespace Go.AM.Fd
open Nat (reduceAdd reduceEqDiff reduceLT reduceLeDiff reduceMul reduceSub)
open Go.Proofs Go.AM.F
def decB (l : List UInt8) (p : Nat) : Nat × Nat := Utf8.decode ⟨l.toArray⟩ p
theorem decB_pos {l : List UInt8} {p : Nat} : 1 ≤ (decB l p).2 := by
  unfold decB Utf8.decode
  repeat' split
  all_goals (first | omega | (simp only []; repeat' split) )
  all_goals first | omega | (dsimp only []; repeat' split)
  all_goals omega
def runs (l : List UInt8) : Nat → Nat → List (Nat × Int)
  | 0, _ => []
  | k + 1, p => if p < l.length then (p, ((decB l p).1 : Int)) :: runs l k (p + (decB l p).2) else []
theorem runs_more {l : List UInt8} : ∀ {k p : Nat}, l.length - p ≤ k → runs l k p = runs l (l.length - p) p
  | 0, p, h => by rw [show l.length - p = 0 by omega]
  | k + 1, p, h => by
    by_cases hp : p < l.length
    · obtain ⟨m, hm⟩ : ∃ m, l.length - p = m + 1 := ⟨l.length - p - 1, by omega⟩
      have h1 := decB_pos (l := l) (p := p)
      rw [hm]
      simp only [runs, if_pos hp]
      rw [runs_more (k := k) (by omega), runs_more (k := m) (by omega)]
    · rw [show l.length - p = 0 by omega]
      simp [runs, hp]
def runF (l : List UInt8) (p : Nat) : List (Nat × Int) := runs l (l.length - p) p
theorem runF_step {l : List UInt8} {p : Nat} (h : p < l.length) : runF l p = (p, ((decB l p).1 : Int)) :: runF l (p + (decB l p).2) := by
  obtain ⟨m, hm⟩ : ∃ m, l.length - p = m + 1 := ⟨l.length - p - 1, by omega⟩
  have h1 := decB_pos (l := l) (p := p)
  unfold runF
  rw [hm]
  simp only [runs, if_pos h]
  rw [runs_more (k := m) (by omega)]
theorem runF_end {l : List UInt8} {p : Nat} (h : ¬ p < l.length) : runF l p = [] := by
  unfold runF
  rw [show l.length - p = 0 by omega]
  rfl
theorem a_rngS {H : AHeap} (l : List UInt8) : asem (.rng (.string ⟨l.toArray⟩)) H = some (ptr H.n 0, H.alloc (.obj true (.stringIter ⟨l.toArray⟩ 0))) := rfl
theorem a_nextY {H : AHeap} {b p : Nat} {l : List UInt8} (hg : H.get b = some (.obj true (.stringIter ⟨l.toArray⟩ p))) (h : p < l.length) :
    asem (.next (ptr b 0)) H = some (.tuple #[.bool true, .int .i64 (p : Int), .int .i32 ((decB l p).1 : Int)], H.set b (.obj true (.stringIter ⟨l.toArray⟩ (p + (decB l p).2)))) := by
  simp only [asem, ptr, hg, str_size]
  rw [if_pos h]
  rfl
theorem a_nextN {H : AHeap} {b p : Nat} {l : List UInt8} (hg : H.get b = some (.obj true (.stringIter ⟨l.toArray⟩ p))) (h : ¬ p < l.length) : asem (.next (ptr b 0)) H = some (.tuple #[.bool false], H) := by
  simp only [asem, ptr, hg, str_size]
  rw [if_neg h]
def sgn (r : Int) : Bool := decide (33 ≤ r) && (decide (r < 127) || decide (160 < r)) && r != 58 && r != 35 && r != 43 && r != 45 && r != 65533
theorem t10 (H : AHeap) (r : Int) : ∃ w H', ARun Go.Proofs.Tryd.prog 3 10 [.int .i32 r] H w H' ∧ w = .bool (sgn r) ∧ H' = H := by
  refine walk2 f10_ok f10_n ?_
  intro Q hq1 hq2
  by_cases h1 : r < 33
  · simp (disch := first | assumption | omega | (simp only [LN] <;> omega) | (simp (disch := first | assumption | omega | (simp only [LN] <;> omega)) only [row_alloc, row_set]; assumption)) only [f10, W_block, P3, ↓reduceIte, reduceAdd, reduceEqDiff, reduceCtorEq, initFr, reduceLT, clsA, reduceLeDiff, reduceMul, reduceSub, reduceIte]
    exact hq2 _ _ ⟨_, rfl, by simp [sgn, tupV, show ¬ 33 ≤ r by omega], rfl⟩
  have h1' : 33 ≤ r := by omega
  by_cases h2 : r = 58
  · subst h2; simp (disch := first | assumption | omega | (simp only [LN] <;> omega) | (simp (disch := first | assumption | omega | (simp only [LN] <;> omega)) only [row_alloc, row_set]; assumption)) only [f10, W_block, P3, ↓reduceIte, reduceAdd, reduceEqDiff, reduceCtorEq, initFr, reduceLT, clsA, reduceLeDiff, reduceMul, reduceSub, reduceIte]; exact hq2 _ _ ⟨_, rfl, rfl, rfl⟩
  by_cases h3 : r = 35
  · subst h3; simp (disch := first | assumption | omega | (simp only [LN] <;> omega) | (simp (disch := first | assumption | omega | (simp only [LN] <;> omega)) only [row_alloc, row_set]; assumption)) only [f10, W_block, P3, ↓reduceIte, reduceAdd, reduceEqDiff, reduceCtorEq, initFr, reduceLT, clsA, reduceLeDiff, reduceMul, reduceSub, reduceIte]; exact hq2 _ _ ⟨_, rfl, rfl, rfl⟩
  by_cases h4 : r = 43
  · subst h4; simp (disch := first | assumption | omega | (simp only [LN] <;> omega) | (simp (disch := first | assumption | omega | (simp only [LN] <;> omega)) only [row_alloc, row_set]; assumption)) only [f10, W_block, P3, ↓reduceIte, reduceAdd, reduceEqDiff, reduceCtorEq, initFr, reduceLT, clsA, reduceLeDiff, reduceMul, reduceSub, reduceIte]; exact hq2 _ _ ⟨_, rfl, rfl, rfl⟩
  by_cases h5 : r = 45
  · subst h5; simp (disch := first | assumption | omega | (simp only [LN] <;> omega) | (simp (disch := first | assumption | omega | (simp only [LN] <;> omega)) only [row_alloc, row_set]; assumption)) only [f10, W_block, P3, ↓reduceIte, reduceAdd, reduceEqDiff, reduceCtorEq, initFr, reduceLT, clsA, reduceLeDiff, reduceMul, reduceSub, reduceIte]; exact hq2 _ _ ⟨_, rfl, rfl, rfl⟩
  by_cases h6 : r = 65533
  · subst h6; simp (disch := first | assumption | omega | (simp only [LN] <;> omega) | (simp (disch := first | assumption | omega | (simp only [LN] <;> omega)) only [row_alloc, row_set]; assumption)) only [f10, W_block, P3, ↓reduceIte, reduceAdd, reduceEqDiff, reduceCtorEq, initFr, reduceLT, clsA, reduceLeDiff, reduceMul, reduceSub, reduceIte]; exact hq2 _ _ ⟨_, rfl, rfl, rfl⟩
  by_cases h7 : 127 ≤ r
  · by_cases h8 : r ≤ 160
    · simp (disch := first | assumption | omega | (simp only [LN] <;> omega) | (simp (disch := first | assumption | omega | (simp only [LN] <;> omega)) only [row_alloc, row_set]; assumption)) only [f10, W_block, P3, ↓reduceIte, reduceAdd, reduceEqDiff, reduceCtorEq, initFr, reduceLT, clsA, reduceLeDiff, reduceMul, reduceSub, reduceIte]
      exact hq2 _ _ ⟨_, rfl, by simp [sgn, tupV, h1', h2, h3, h4, h5, h6, show ¬ r < 127 by omega, show ¬ 160 < r by omega], rfl⟩
    · simp (disch := first | assumption | omega | (simp only [LN] <;> omega) | (simp (disch := first | assumption | omega | (simp only [LN] <;> omega)) only [row_alloc, row_set]; assumption)) only [f10, W_block, P3, ↓reduceIte, reduceAdd, reduceEqDiff, reduceCtorEq, initFr, reduceLT, clsA, reduceLeDiff, reduceMul, reduceSub, reduceIte]
      exact hq2 _ _ ⟨_, rfl, by simp [sgn, tupV, h1', h2, h3, h4, h5, h6, show ¬ r < 127 by omega, show 160 < r by omega], rfl⟩
  · simp (disch := first | assumption | omega | (simp only [LN] <;> omega) | (simp (disch := first | assumption | omega | (simp only [LN] <;> omega)) only [row_alloc, row_set]; assumption)) only [f10, W_block, P3, ↓reduceIte, reduceAdd, reduceEqDiff, reduceCtorEq, initFr, reduceLT, clsA, reduceLeDiff, reduceMul, reduceSub, reduceIte]
    exact hq2 _ _ ⟨_, rfl, by simp [sgn, tupV, h1', h2, h3, h4, h5, h6, show r < 127 by omega], rfl⟩
def rightB (l : List UInt8) : Bool := (runF l 0).all (fun x => sgn x.2) && decide (1 ≤ (runF l 0).length) && decide ((runF l 0).length ≤ 16)
theorem t13 (H : AHeap) (l : List UInt8) (hl : l.length ≤ 1000000000) : ∃ w H', ARun Go.Proofs.Tryd.prog 3 13 [.string ⟨l.toArray⟩] H w H' ∧ w = .bool (rightB l) ∧ H' = H := by
  suffices h : ∃ w H', ARun Go.Proofs.Tryd.prog 3 13 [.string ⟨l.toArray⟩] H w H' ∧ w = .bool (rightB l) ∧ Keeps H H' by
    obtain ⟨_, _, a, rfl, k⟩ := h
    exact ⟨_, _, a.gc0 k (.inr (.bool _)), rfl, rfl⟩
  refine walk2 f13_ok f13_n ?_
  intro Q hq1 hq2
  simp (disch := first | assumption | omega | (simp only [LN] <;> omega) | (simp (disch := first | assumption | omega | (simp only [LN] <;> omega)) only [row_alloc, row_set]; assumption)) only [ f13, P3, ↓reduceIte, reduceAdd, reduceEqDiff, reduceCtorEq, initFr, reduceLT, clsA, reduceLeDiff, reduceMul, reduceSub, reduceIte, a_rngS]
  rw [W_block]
  refine W_loop2 (fun k fr K => ∃ p n x1 x3 x5 x6 x7, fr = [.string ⟨l.toArray⟩, x1, .int .i64 ((n : Nat) : Int), x3, ptr H.n 0, x5, x6, x7] ∧ K.get H.n = some (.obj true (.stringIter ⟨l.toArray⟩ p)) ∧ Keeps H K ∧
      rightB l = ((runF l p).all (fun x => sgn x.2) && decide (1 ≤ n + (runF l p).length) && decide (n + (runF l p).length ≤ 16)) ∧ n ≤ p ∧ k = l.length - p) l.length
    ⟨0, 0, _, _, _, _, _, rfl, AHeap.get_alloc_new _ _, (Keeps.refl H).alloc _, by simp [rightB], Nat.le_refl _, rfl⟩ ?_
  rintro Q' k fr K ⟨p, n, x1, x3, x5, x6, x7, rfl, hg, hk, hr, hnp, rfl⟩ hn hx hret
  by_cases hp : p < l.length
  · have hstep := runF_step hp
    have hpos := decB_pos (l := l) (p := p)
    simp (disch := first | assumption | omega | (simp only [LN] <;> omega) | (simp (disch := first | assumption | omega | (simp only [LN] <;> omega)) only [row_alloc, row_set]; assumption)) only [W_block, P3, ↓reduceIte, reduceAdd, reduceEqDiff, reduceCtorEq, initFr, reduceLT, clsA, reduceLeDiff, reduceMul, reduceSub, reduceIte, a_nextY hg hp]
    refine callK (t10 _ _) ?_
    rintro _ K2 ⟨rfl, rfl⟩
    cases hs : sgn ((decB l p).1 : Int) with
    | false =>
      simp (disch := first | assumption | omega | (simp only [LN] <;> omega) | (simp (disch := first | assumption | omega | (simp only [LN] <;> omega)) only [row_alloc, row_set]; assumption)) only [W_block, P3, ↓reduceIte, reduceAdd, reduceEqDiff, reduceCtorEq, initFr, reduceLT, clsA, reduceLeDiff, reduceMul, reduceSub, reduceIte]
      refine hret _ _ (hq2 _ _ ⟨_, rfl, ?_, ?_⟩)
      · rw [hr, hstep]; simp [hs]; rfl
      · exact hk.set (Nat.le_refl _) (AHeap.get_lt hg) _
    | true =>
      have hw : IntKind.i64.wrap ((n : Int) + 1) = ((n + 1 : Nat) : Int) := by rw [wrap_i64 (by omega) (by omega)]; simp
      simp (disch := first | assumption | omega | (simp only [LN] <;> omega) | (simp (disch := first | assumption | omega | (simp only [LN] <;> omega)) only [row_alloc, row_set]; assumption)) only [W_block, P3, ↓reduceIte, reduceAdd, reduceEqDiff, reduceCtorEq, initFr, reduceLT, clsA, reduceLeDiff, reduceMul, reduceSub, reduceIte, hw]
      refine hn _ _ _ ⟨p + (decB l p).2, n + 1, _, _, _, _, _, rfl, AHeap.get_set_same hg _, hk.set (Nat.le_refl _) (AHeap.get_lt hg) _, ?_, by omega, rfl⟩ (by omega)
      rw [hr, hstep]
      simp only [List.all_cons, hs, Bool.true_and, List.length_cons, show n + ((runF l (p + (decB l p).2)).length + 1) = n + 1 + (runF l (p + (decB l p).2)).length by omega]
  · have hend := runF_end hp
    simp (disch := first | assumption | omega | (simp only [LN] <;> omega) | (simp (disch := first | assumption | omega | (simp only [LN] <;> omega)) only [row_alloc, row_set]; assumption)) only [W_block, P3, ↓reduceIte, reduceAdd, reduceEqDiff, reduceCtorEq, initFr, reduceLT, clsA, reduceLeDiff, reduceMul, reduceSub, reduceIte, a_nextN hg hp]
    refine hx 0 _ _ ?_
    rw [hend] at hr
    simp only [List.all_nil, Bool.true_and, List.length_nil, Nat.add_zero] at hr
    by_cases h1 : 1 ≤ n
    · have h1' : (1 : Int) ≤ (n : Int) := by omega
      simp (disch := first | assumption | omega | (simp only [LN] <;> omega) | (simp (disch := first | assumption | omega | (simp only [LN] <;> omega)) only [row_alloc, row_set]; assumption)) only [W_block, P3, ↓reduceIte, reduceAdd, reduceEqDiff, reduceCtorEq, initFr, reduceLT, clsA, reduceLeDiff, reduceMul, reduceSub, reduceIte]
      refine hq2 _ _ ⟨_, rfl, ?_, hk⟩
      rw [hr]
      simp only [tupV, List.getD_cons_succ, List.getD_cons_zero, h1, decide_true, Bool.true_and]
      congr 1
      rw [decide_eq_decide]; omega
    · have h1' : ¬ (1 : Int) ≤ (n : Int) := by omega
      simp (disch := first | assumption | omega | (simp only [LN] <;> omega) | (simp (disch := first | assumption | omega | (simp only [LN] <;> omega)) only [row_alloc, row_set]; assumption)) only [W_block, P3, ↓reduceIte, reduceAdd, reduceEqDiff, reduceCtorEq, initFr, reduceLT, clsA, reduceLeDiff, reduceMul, reduceSub, reduceIte]
      refine hq2 _ _ ⟨_, rfl, ?_, hk⟩
      rw [hr]
      simp only [tupV, List.getD_cons_succ, List.getD_cons_zero, h1, decide_false, Bool.false_and]
end Go.AM.Fd

set_option linter.unusedSimpArgs false
set_option linter.unusedVariables false
namespace Go.AM.Fd
open Nat (reduceAdd reduceEqDiff reduceLT reduceLeDiff reduceMul reduceSub)
open Go.Proofs Go.AM.F
def tRow (t : List UInt8) : List Value := [.string ⟨t.toArray⟩]
def TL (H : AHeap) (v : Value) (ts : List (List UInt8)) : Prop := Sl H 1 v (ts.map tRow)
theorem TL.len {H : AHeap} {v : Value} {ts : List (List UInt8)} (h : TL H v ts) : lenS v = ts.length := by
  have := Sl.len h; simpa using this
theorem TL.at_ {H : AHeap} {v : Value} {ts : List (List UInt8)} (h : TL H v ts) {i : Nat} (hi : i < ts.length) : nnS v = true ∧ rowA H 1 v i = some (tRow (ts.getD i [])) := by
  have := Sl.at_ h (by omega) (i := i) (by simpa using hi)
  refine ⟨this.1, ?_⟩
  rw [this.2]
  simp [List.getD, List.getElem?_eq_getElem hi]
theorem TL.nil (H : AHeap) : TL H (.slice none 0 0) [] := Sl.nil H 1
theorem TL.keeps {H K : AHeap} {v : Value} {ts : List (List UInt8)} (h : TL H v ts) (k : Keeps H K) : TL K v ts := Sl.keeps h k
theorem take_succ_eq {a b : List (List UInt8)} {i : Nat} (h : a.take i = b.take i) (ha : i < a.length) (hb : i < b.length) (he : a.getD i [] = b.getD i []) : a.take (i + 1) = b.take (i + 1) := by
  rw [List.take_add_one, List.take_add_one, h]
  simp only [List.getD, List.getElem?_eq_getElem ha, List.getElem?_eq_getElem hb, Option.getD_some] at he
  rw [List.getElem?_eq_getElem ha, List.getElem?_eq_getElem hb, he]
theorem t17 {H : AHeap} {v u : Value} {a b : List (List UInt8)} (ha : TL H v a) (hb : TL H u b) (hl : a.length ≤ 1000000000) : ∃ w H', ARun Go.Proofs.Tryd.prog 3 17 [v, u] H w H' ∧ w = .bool (decide (a = b)) ∧ H' = H := by
  refine walk2 f17_ok f17_n ?_
  intro Q hq1 hq2
  have ia := Sl.is ha
  have ib := Sl.is hb
  have la := ha.len
  have lb := hb.len
  by_cases hlen : a.length = b.length
  · have e1 : (((a.length : Nat) : Int) != ((b.length : Nat) : Int)) = false := by simp [hlen]
    simp (disch := first | assumption | omega | (simp only [LN] <;> omega) | (simp (disch := first | assumption | omega | (simp only [LN] <;> omega)) only [row_alloc, row_set]; assumption)) only [ f17, P3, ↓reduceIte, reduceAdd, reduceEqDiff, reduceCtorEq, initFr, reduceLT, clsA, reduceLeDiff, reduceMul, reduceSub, reduceIte, la, lb, e1]
    rw [W_block]
    refine W_loop2 (fun k fr K => ∃ i x2 x5 x6, fr = [v, u, x2, .int .i64 ((i : Nat) : Int), .bool false, x5, x6] ∧ K = H ∧ i ≤ a.length ∧ a.take i = b.take i ∧ k = a.length - i) a.length
      ⟨0, _, _, _, rfl, rfl, by omega, by simp, rfl⟩ ?_
    rintro Q' k fr K ⟨i, x2, x5, x6, rfl, rfl, hi, hp, rfl⟩ hn hx hret
    by_cases hlt : i < a.length
    · obtain ⟨na, ra⟩ := ha.at_ hlt
      obtain ⟨nb, rb⟩ := hb.at_ (i := i) (by omega)
      have h0 : (0 : Int) ≤ (i : Int) := by omega
      have h1 : (i : Int) < ((lenS v : Nat) : Int) := by omega
      have h2 : (i : Int) < ((lenS u : Nat) : Int) := by omega
      have h3 : (i : Int) < ((a.length : Nat) : Int) := by omega
      have h4 : (i : Int) < ((b.length : Nat) : Int) := by omega
      unfold tRow at ra rb
      have hw : IntKind.i64.wrap ((i : Int) + 1) = ((i + 1 : Nat) : Int) := by rw [wrap_i64 (by omega) (by omega)]; simp
      by_cases he : a.getD i [] = b.getD i []
      · have e2 : decide (a.getD i [] = b.getD i []) = true := by simpa using he
        simp (disch := first | assumption | omega | (simp only [LN] <;> omega) | (simp (disch := first | assumption | omega | (simp only [LN] <;> omega)) only [row_alloc, row_set]; assumption)) only [W_block, P3, ↓reduceIte, reduceAdd, reduceEqDiff, reduceCtorEq, initFr, reduceLT, clsA, reduceLeDiff, reduceMul, reduceSub, reduceIte, la, lb, ra, rb, na, nb, a_load1v, bytes_eq, e2, hw]
        exact hn _ _ _ ⟨i + 1, _, _, _, rfl, rfl, by omega, take_succ_eq hp hlt (by omega) he, rfl⟩ (by omega)
      · have e2 : decide (a.getD i [] = b.getD i []) = false := by simpa using he
        simp (disch := first | assumption | omega | (simp only [LN] <;> omega) | (simp (disch := first | assumption | omega | (simp only [LN] <;> omega)) only [row_alloc, row_set]; assumption)) only [W_block, P3, ↓reduceIte, reduceAdd, reduceEqDiff, reduceCtorEq, initFr, reduceLT, clsA, reduceLeDiff, reduceMul, reduceSub, reduceIte, la, lb, ra, rb, na, nb, a_load1v, bytes_eq, e2, hw]
        refine hret _ _ (hq2 _ _ ⟨_, rfl, ?_, rfl⟩)
        have : ¬ a = b := fun hab => he (by rw [hab])
        simp only [tupV, List.getD_cons_succ, List.getD_cons_zero, this, decide_false]
    · have h3 : ¬ (i : Int) < ((a.length : Nat) : Int) := by omega
      simp (disch := first | assumption | omega | (simp only [LN] <;> omega) | (simp (disch := first | assumption | omega | (simp only [LN] <;> omega)) only [row_alloc, row_set]; assumption)) only [W_block, P3, ↓reduceIte, reduceAdd, reduceEqDiff, reduceCtorEq, initFr, reduceLT, clsA, reduceLeDiff, reduceMul, reduceSub, reduceIte, la, lb]
      refine hx 0 _ _ ?_
      simp (disch := first | assumption | omega | (simp only [LN] <;> omega) | (simp (disch := first | assumption | omega | (simp only [LN] <;> omega)) only [row_alloc, row_set]; assumption)) only [W_block, P3, ↓reduceIte, reduceAdd, reduceEqDiff, reduceCtorEq, initFr, reduceLT, clsA, reduceLeDiff, reduceMul, reduceSub, reduceIte]
      refine hq2 _ _ ⟨_, rfl, ?_, rfl⟩
      have : a = b := by
        rw [List.take_of_length_le (by omega), List.take_of_length_le (by omega)] at hp
        exact hp
      simp only [tupV, List.getD_cons_succ, List.getD_cons_zero, this, decide_true]
  · have e1 : (((a.length : Nat) : Int) != ((b.length : Nat) : Int)) = true := by simp; omega
    simp (disch := first | assumption | omega | (simp only [LN] <;> omega) | (simp (disch := first | assumption | omega | (simp only [LN] <;> omega)) only [row_alloc, row_set]; assumption)) only [f17, W_block, P3, ↓reduceIte, reduceAdd, reduceEqDiff, reduceCtorEq, initFr, reduceLT, clsA, reduceLeDiff, reduceMul, reduceSub, reduceIte, la, lb, e1]
    refine hq2 _ _ ⟨_, rfl, ?_, rfl⟩
    have : ¬ a = b := fun hab => hlen (by rw [hab])
    simp only [tupV, List.getD_cons_succ, List.getD_cons_zero, this, decide_false]
def aheadB (l : List UInt8) : List UInt8 := match ixB 35 l with
  | some i => l.take i
  | none => l
theorem u8_eqi (b : UInt8) (n : Nat) (h : n < 256) : (((b.toNat : Nat) : Int) == (n : Int)) = (b == UInt8.ofNat n) := by
  have h2 : (UInt8.ofNat n).toNat = n := by simp; omega
  rw [Bool.eq_iff_iff, beq_iff_eq, beq_iff_eq, ← UInt8.toNat_inj, h2]
  omega
def wholeB (l : List UInt8) (i : Nat) : Bool := [239, 191, 189].isPrefixOf (l.drop i)
end Go.AM.Fd

set_option linter.unusedSimpArgs false
set_option linter.unusedVariables false
namespace Go.AM.Fd
open Nat (reduceAdd reduceEqDiff reduceLT reduceLeDiff reduceMul reduceSub)
open Go.Proofs Go.AM.F
def okC (l : List UInt8) (x : Nat × Int) : Bool := !decide (x.2 < 32) && !(x.2 == 65533 && !wholeB l x.1)
def okW (l : List UInt8) : Bool := (runF l 0).all (okC l)
def wordsB (l : List UInt8) : List (List UInt8) := (splitB 32 l).filter fun t => !t.isEmpty
def txs (ts : List (List UInt8)) : List Value := ts.map fun t => .string ⟨t.toArray⟩
theorem txs_len (ts : List (List UInt8)) : (txs ts).length = ts.length := by simp [txs]
theorem txs_app (a : List (List UInt8)) (t : List UInt8) : txs a ++ [.string ⟨t.toArray⟩] = txs (a ++ [t]) := by simp [txs]
theorem AP.tl {H : AHeap} {v : Value} {ts : List (List UInt8)} (h : AP H 9 1 v ts.length (txs ts)) : TL H v ts := by
  refine AP.sl (rows := ts.map tRow) (e := 9) (n := ts.length) ?_ (by simp [tRow]) (by simp)
  have : (ts.map tRow).flatten = txs ts := by
    clear h
    unfold txs
    induction ts with
    | nil => rfl
    | cons t ts ih => simp only [List.map_cons, List.flatten_cons, ih]; rfl
  rw [this]
  simpa using h
theorem splitB_len (c : UInt8) : ∀ l : List UInt8, (splitB c l).length ≤ l.length + 1
  | [] => by simp [splitB]
  | x :: l => by
    have ih := splitB_len c l
    simp only [splitB]
    split
    · simp; omega
    · split
      · rename_i p r h; rw [h] at ih; simp at ih ⊢; omega
      · simp
theorem wordsB_len (l : List UInt8) : (wordsB l).length ≤ l.length + 1 := Nat.le_trans (List.length_filter_le ..) (splitB_len ..)
def WRes (H : AHeap) (w : Value) (K : AHeap) (l : List UInt8) : Prop :=
  Keeps H K ∧ if okW (aheadB l) then ∃ v, w = .tuple #[v, .int .i64 0] ∧ AP K 9 1 v (wordsB (aheadB l)).length (txs (wordsB (aheadB l))) ∧ Fresh H.n v else w = .tuple #[.slice none 0 0, .int .i64 30]
theorem ahead_len (l : List UInt8) : (aheadB l).length ≤ l.length := by
  unfold aheadB
  split <;> simp; omega
end Go.AM.Fd

set_option linter.unusedSimpArgs false
set_option linter.unusedVariables false
namespace Go.AM.Fd
open Nat (reduceAdd reduceEqDiff reduceLT reduceLeDiff reduceMul reduceSub)
open Go.Proofs Go.AM.F
def flW (ts : List (List UInt8)) : List (List UInt8) := ts.filter fun t => !t.isEmpty
theorem flW_app (a : List (List UInt8)) (x : List UInt8) : flW (a ++ [x]) = flW a ++ (if x = [] then [] else [x]) := by
  unfold flW
  rw [List.filter_append]
  cases x <;> simp
structure WJ (K : AHeap) (L : LRec) (pre : List (List UInt8)) (sc : List UInt8) (H : AHeap) (v : Value) : Prop where
  keep : Keeps K H
  row : H.get K.n = some (.cells true false 1 [v] 25)
  txt : H.get (K.n + 1) = some (boxS sc)
  sep : H.get (K.n + 2) = some (boxS [32])
  sav : H.get (K.n + 3) = some (.cells true false 1 [.int .i64 0] 3)
  rec_ : H.get (K.n + 4) = some (.loop true .ready none L)
  ap : AP H 9 1 v (flW pre).length (txs (flW pre))
  fresh : Fresh (K.n + 5) v
theorem WJ.n {K : AHeap} {L : LRec} {pre : List (List UInt8)} {sc : List UInt8} {H : AHeap} {v : Value} (h : WJ K L pre sc H v) : K.n + 5 ≤ H.n := AHeap.get_lt h.rec_
theorem WJ.put {K : AHeap} {L : LRec} {pre : List (List UInt8)} {sc : List UInt8} {H : AHeap} {v : Value} (h : WJ K L pre sc H v) (sc' : List UInt8) : WJ K L pre sc' (H.set (K.n + 1) (boxS sc')) v := by
  have hn := h.n
  have hlt : K.n + 1 < H.n := by omega
  have o : ∀ {b : Nat} {x : AO}, b ≠ K.n + 1 → H.get b = some x → (H.set (K.n + 1) (boxS sc')).get b = some x := fun hb hx => by rw [AHeap.get_set_other H hb hlt]; exact hx
  exact ⟨h.keep.set (by omega) hlt _, o (by omega) h.row, AHeap.get_set_same h.txt _, o (by omega) h.sep, o (by omega) h.sav, o (by omega) h.rec_,
    h.ap.chg (Chg.set H hlt _) (fun x hx => by have := h.fresh x (mem_blkL.1 hx); simp; omega), h.fresh⟩
theorem WJ.round {K : AHeap} {pre : List (List UInt8)} {sc x : List UInt8} {H : AHeap} {v : Value} {x0 x1 x2 x3 x4 x6 x7 x8 x9 x10 x11 x12 x13 : Value}
    (h : WJ K ⟨43, [0, 2, 3, 4, 5, 6, 7, 15, 16, 17, 32, 34, 35, 37], [x0, x1, x2, x3, x4, ptr K.n 0, x6, x7, x8, x9, x10, x11, x12, x13], #[35], rfA Go.Proofs.Tryd.prog 15 0, rfB Go.Proofs.Tryd.prog 15 0⟩ pre sc H v) (hl : pre.length ≤ 10000000) :
    ∃ w H', AYield Go.Proofs.Tryd.prog 3 (K.n + 4) [.string ⟨x.toArray⟩] H w H' ∧ w = .bool true ∧ ∃ v', WJ K ⟨43, [0, 2, 3, 4, 5, 6, 7, 15, 16, 17, 32, 34, 35, 37], [x0, x1, x2, x3, x4, ptr K.n 0, x6, x7, x8, x9, x10, x11, x12, x13], #[35], rfA Go.Proofs.Tryd.prog 15 0, rfB Go.Proofs.Tryd.prog 15 0⟩ (pre ++ [x]) sc H' v' := by
  obtain ⟨L, hL⟩ : ∃ L : LRec, (⟨43, [0, 2, 3, 4, 5, 6, 7, 15, 16, 17, 32, 34, 35, 37], [x0, x1, x2, x3, x4, ptr K.n 0, x6, x7, x8, x9, x10, x11, x12, x13], #[35], rfA Go.Proofs.Tryd.prog 15 0, rfB Go.Proofs.Tryd.prog 15 0⟩ : LRec) = L := ⟨_, rfl⟩
  have hn := h.n
  have hlen : (flW pre).length ≤ pre.length := List.length_filter_le ..
  refine yield_of (R := fun w H' => w = .bool true ∧ ∃ v', WJ K _ (pre ++ [x]) sc H' v') h.rec_ f15r0a_ok f15r0b_ok f15r0_n rfl rfl ?_
  show W Go.Proofs.Tryd.prog 3 f15r0a _ [x0, x1, x2, x3, x4, ptr K.n 0, x6, x7, x8, x9, x10, x11, .string ⟨x.toArray⟩, x13] H
  rw [hL] at h ⊢
  simp (disch := first | assumption | omega | (simp only [LN] <;> omega) | (simp (disch := first | assumption | omega | (simp only [LN] <;> omega)) only [row_alloc, row_set]; assumption)) only [f15r0a, W_block, P3, ↓reduceIte, reduceAdd, reduceEqDiff, reduceCtorEq, initFr, reduceLT, clsA, reduceLeDiff, reduceMul, reduceSub, reduceIte]
  refine ⟨none, L, h.rec_, ?_⟩
  have hlt : K.n + 4 < H.n := by omega
  obtain ⟨H1, hH1⟩ : ∃ H1, H.set (K.n + 4) (.loop true .busy none L) = H1 := ⟨_, rfl⟩
  have o : ∀ {b : Nat} {y : AO}, b ≠ K.n + 4 → H.get b = some y → H1.get b = some y := fun hb hy => by rw [← hH1, AHeap.get_set_other H hb hlt]; exact hy
  have n1 : H1.n = H.n := by rw [← hH1]; rfl
  have r1 := o (by omega) h.row
  have g1 : H1.get (K.n + 4) = some (.loop true .busy none L) := by rw [← hH1]; exact AHeap.get_set_same h.rec_ _
  have k1 : Keeps K H1 := by rw [← hH1]; exact h.keep.set (by omega) hlt _
  have a1 : AP H1 9 1 v (flW pre).length (txs (flW pre)) := by rw [← hH1]; exact h.ap.chg (Chg.set H hlt _) (fun x hx => by have := h.fresh x (mem_blkL.1 hx); simp; omega)
  rw [hH1]
  have fin : ∀ (H2 : AHeap) (fr : List Value), H2.get (K.n + 4) = some (.loop true .busy none L) → (∃ v', WJ K L (pre ++ [x]) sc (H2.set (K.n + 4) (.loop true .ready none L)) v') → roundQ (K.n + 4) (fun w H' => w = .bool true ∧ ∃ v', WJ K L (pre ++ [x]) sc H' v') .normal fr H2 := by
    intro H2 fr hg hw
    unfold roundQ
    rw [hg]
    exact ⟨rfl, hw⟩
  have back : ∀ (H2 : AHeap) (v' : Value), Keeps K H2 → H2.get K.n = some (.cells true false 1 [v'] 25) → H2.get (K.n + 1) = some (boxS sc) → H2.get (K.n + 2) = some (boxS [32]) → H2.get (K.n + 3) = some (.cells true false 1 [.int .i64 0] 3) →
      H2.get (K.n + 4) = some (.loop true .busy none L) → AP H2 9 1 v' (flW (pre ++ [x])).length (txs (flW (pre ++ [x]))) → Fresh (K.n + 5) v' → WJ K L (pre ++ [x]) sc (H2.set (K.n + 4) (.loop true .ready none L)) v' := by
    intro H2 v' c1 c2 c3 c4 c5 c6 c7 c8
    have hl2 := AHeap.get_lt c6
    have o2 : ∀ {b : Nat} {y : AO}, b ≠ K.n + 4 → H2.get b = some y → (H2.set (K.n + 4) (.loop true .ready none L)).get b = some y := fun hb hy => by rw [AHeap.get_set_other H2 hb hl2]; exact hy
    exact ⟨c1.set (by omega) hl2 _, o2 (by omega) c2, o2 (by omega) c3, o2 (by omega) c4, o2 (by omega) c5, AHeap.get_set_same c6 _, c7.chg (Chg.set H2 hl2 _) (fun x hx => by have := c8 x (mem_blkL.1 hx); simp; omega), c8⟩
  by_cases hx : x = []
  · have e : decide (x = []) = true := by simpa using hx
    simp (disch := first | assumption | omega | (simp only [LN] <;> omega) | (simp (disch := first | assumption | omega | (simp only [LN] <;> omega)) only [row_alloc, row_set]; assumption)) only [f15r0b, W_block, P3, ↓reduceIte, reduceAdd, reduceEqDiff, reduceCtorEq, initFr, reduceLT, clsA, reduceLeDiff, reduceMul, reduceSub, reduceIte, str_emp, bytes_eq, e]
    refine fin _ _ g1 ⟨v, back _ _ k1 r1 (o (by omega) h.txt) (o (by omega) h.sep) (o (by omega) h.sav) g1 ?_ h.fresh⟩
    rw [flW_app, if_pos hx, List.append_nil]
    exact a1
  · have e : decide (x = []) = false := by simpa using hx
    have hfl : fillA [.string ⟨([] : List UInt8).toArray⟩] [(0, 1, .string ⟨x.toArray⟩)] = some [.string ⟨x.toArray⟩] := rfl
    have k4 := (Keeps.refl H1).alloc (.cells true false 1 [.string ⟨x.toArray⟩] 9)
    simp (disch := first | assumption | omega | (simp only [LN] <;> omega) | (simp (disch := first | assumption | omega | (simp only [LN] <;> omega)) only [row_alloc, row_set]; assumption)) only [f15r0b, W_block, P3, ↓reduceIte, reduceAdd, reduceEqDiff, reduceCtorEq, initFr, reduceLT, clsA, reduceLeDiff, reduceMul, reduceSub, reduceIte, str_emp, bytes_eq, e, r1, hfl]
    refine appG (a1.keeps k4) ⟨_, _, rfl⟩ (elems_new rfl rfl) rfl (by omega) ?_
    intro v' M2 a2 c2 b2
    have q : ∀ {b : Nat} {y : AO}, b < K.n + 5 → H1.get b = some y → M2.get b = some y := fun hb hy => by
      refine c2.at_ (k4.at_ hy) (fun hm => ?_)
      have := h.fresh _ (mem_blkL.1 hm)
      omega
    have r2 := q (by omega) r1
    have ov' : one1 v' = True := by
      obtain ⟨a, ha⟩ := a2.shape
      rw [ha]; exact o_sl ..
    have ov2 : v'.oneCell' = true := by
      obtain ⟨a, ha⟩ := a2.shape
      rw [ha]; rfl
    have f2 : Fresh (K.n + 5) v' := h.fresh.app (by simp [AHeap.alloc]; omega) b2
    have l2 := AHeap.get_lt r2
    simp (disch := first | assumption | omega | (simp only [LN] <;> omega) | (simp (disch := first | assumption | omega | (simp only [LN] <;> omega)) only [row_alloc, row_set]; assumption)) only [W_block, P3, ↓reduceIte, reduceAdd, reduceEqDiff, reduceCtorEq, initFr, reduceLT, clsA, reduceLeDiff, reduceMul, reduceSub, reduceIte, r2, ov2]
    have o3 : ∀ {b : Nat} {y : AO}, b ≠ K.n → M2.get b = some y → (M2.set K.n (.cells true false 1 [v'] 25)).get b = some y := fun hb hy => by rw [AHeap.get_set_other M2 hb l2]; exact hy
    have k2 : Keeps K M2 := (k1.trans k4).chg_trans c2 (fun y hy => by have := h.fresh y (mem_blkL.1 hy); omega)
    refine fin _ _ (o3 (by omega) (q (by omega) g1)) ⟨v', back _ _ (k2.set (Nat.le_refl _) l2 _) (AHeap.get_set_same r2 _) (o3 (by omega) (q (by omega) (o (by omega) h.txt))) (o3 (by omega) (q (by omega) (o (by omega) h.sep))) (o3 (by omega) (q (by omega) (o (by omega) h.sav))) (o3 (by omega) (q (by omega) g1)) ?_ f2⟩
    rw [flW_app, if_neg hx]
    refine AP.chg ?_ (Chg.set M2 l2 _) (fun y hy => by have := f2 y (mem_blkL.1 hy); simp; omega)
    simpa [txs_app] using a2
end Go.AM.Fd

set_option linter.unusedSimpArgs false
set_option linter.unusedVariables false
namespace Go.AM.Fd
open Nat (reduceAdd reduceEqDiff reduceLT reduceLeDiff reduceMul reduceSub)
open Go.Proofs Go.AM.F
theorem get5 (L : AHeap) (a b c d e : AO) : let S := ((((L.alloc a).alloc b).alloc c).alloc d).alloc e
    S.get L.n = some a ∧ S.get (L.n + 1) = some b ∧ S.get (L.n + 2) = some c ∧ S.get (L.n + 3) = some d ∧ S.get (L.n + 4) = some e := by
  have o : ∀ (X : AHeap) (x : AO) (i : Nat), i < X.n → (X.alloc x).get i = X.get i := fun X x i h => AHeap.get_alloc_old X x h
  refine ⟨?_, ?_, ?_, ?_, ?_⟩
  · rw [o _ _ _ (by simp only [alloc_n]; omega), o _ _ _ (by simp only [alloc_n]; omega), o _ _ _ (by simp only [alloc_n]; omega), o _ _ _ (by simp only [alloc_n]; omega)]; exact AHeap.get_alloc_new _ _
  · rw [o _ _ _ (by simp only [alloc_n]; omega), o _ _ _ (by simp only [alloc_n]; omega), o _ _ _ (by simp only [alloc_n]; omega)]; exact AHeap.get_alloc_new _ _
  · rw [o _ _ _ (by simp only [alloc_n]; omega), o _ _ _ (by simp only [alloc_n]; omega)]; exact AHeap.get_alloc_new _ _
  · rw [o _ _ _ (by simp only [alloc_n]; omega)]; exact AHeap.get_alloc_new _ _
  · exact AHeap.get_alloc_new _ _
theorem cut_ahead (l : List UInt8) : ∃ y z, cutB 35 l = .tuple #[.string ⟨(aheadB l).toArray⟩, y, z] := by
  unfold cutB aheadB
  cases ixB 35 l <;> exact ⟨_, _, rfl⟩
theorem t15 (H : AHeap) (l : List UInt8) (hl : l.length ≤ 1000000) : ∃ w K, ARun Go.Proofs.Tryd.prog 3 15 [.string ⟨l.toArray⟩] H w K ∧ WRes H w K l := by
  refine walk2 f15_ok f15_n ?_
  intro Q hq1 hq2
  have hal := ahead_len l
  simp (disch := first | assumption | omega | (simp only [LN] <;> omega) | (simp (disch := first | assumption | omega | (simp only [LN] <;> omega)) only [row_alloc, row_set]; assumption)) only [ f15, P3, ↓reduceIte, reduceAdd, reduceEqDiff, reduceCtorEq, initFr, reduceLT, clsA, reduceLeDiff, reduceMul, reduceSub, reduceIte]
  refine callK (t22 H l 35 (by omega)) ?_
  rintro _ K ⟨hw, rfl⟩
  obtain ⟨y, z, hcut⟩ := cut_ahead l
  rw [hcut] at hw
  subst hw
  obtain ⟨s, hs⟩ : ∃ s, aheadB l = s := ⟨_, rfl⟩
  unfold WRes at hq1 hq2
  rw [hs] at hal hq1 hq2 ⊢
  simp (disch := first | assumption | omega | (simp only [LN] <;> omega) | (simp (disch := first | assumption | omega | (simp only [LN] <;> omega)) only [row_alloc, row_set]; assumption)) only [ P3, ↓reduceIte, reduceAdd, reduceEqDiff, reduceCtorEq, initFr, reduceLT, clsA, reduceLeDiff, reduceMul, reduceSub, reduceIte, a_rngS]
  rw [W_block]
  refine W_loop2 (fun k fr L => ∃ p x3 x4 x8 x9 x10, fr = [.string ⟨s.toArray⟩, .slice none 0 0, .int .i64 0, x3, x4, undef, undef, ptr K.n 0, x8, x9, x10, undef, undef, undef] ∧ L.get K.n = some (.obj true (.stringIter ⟨s.toArray⟩ p)) ∧ Keeps K L ∧
      okW s = (runF s p).all (okC s) ∧ k = s.length - p) s.length
    ⟨0, _, _, _, _, _, rfl, AHeap.get_alloc_new _ _, (Keeps.refl K).alloc _, rfl, rfl⟩ ?_
  rintro Q' k fr L ⟨p, x3, x4, x8, x9, x10, rfl, hg, hk, hr, rfl⟩ hn hx hret
  by_cases hp : p < s.length
  · have hstep := runF_step hp
    have hpos := decB_pos (l := s) (p := p)
    have hset := hk.set (Nat.le_refl _) (AHeap.get_lt hg) (.obj true (.stringIter ⟨s.toArray⟩ (p + (decB s p).2)))
    have hnext : okC s (p, ((decB s p).1 : Int)) = true → okW s = (runF s (p + (decB s p).2)).all (okC s) := fun h => by rw [hr, hstep]; simp [h]
    have hbad : okC s (p, ((decB s p).1 : Int)) = false → okW s = false := fun h => by rw [hr, hstep]; simp [h]
    have hgs := AHeap.get_set_same hg (.obj true (.stringIter ⟨s.toArray⟩ (p + (decB s p).2)))
    obtain ⟨d, hd⟩ : ∃ d, (decB s p).1 = d := ⟨_, rfl⟩
    rw [hd] at hnext hbad
    have hnx := a_nextY hg hp
    rw [hd] at hnx
    by_cases c1 : (d : Int) < 32
    · simp (disch := first | assumption | omega | (simp only [LN] <;> omega) | (simp (disch := first | assumption | omega | (simp only [LN] <;> omega)) only [row_alloc, row_set]; assumption)) only [W_block, P3, ↓reduceIte, reduceAdd, reduceEqDiff, reduceCtorEq, initFr, reduceLT, clsA, reduceLeDiff, reduceMul, reduceSub, reduceIte, hnx]
      refine hret _ _ (hq2 _ _ ⟨_, rfl, hset, ?_⟩)
      rw [hbad (by simp [okC, c1])]
      rfl
    · by_cases c2 : (d : Int) = 65533
      · have e2 : ((d : Int) == 65533) = true := by simpa using c2
        have hp1 : p ≤ s.length := by omega
        simp (disch := first | assumption | omega | (simp only [LN] <;> omega) | (simp (disch := first | assumption | omega | (simp only [LN] <;> omega)) only [row_alloc, row_set]; assumption)) only [W_block, P3, ↓reduceIte, reduceAdd, reduceEqDiff, reduceCtorEq, initFr, reduceLT, clsA, reduceLeDiff, reduceMul, reduceSub, reduceIte, hnx, e2, a_slsT]
        refine callK (t23 _ (s.drop p) [239, 191, 189]) ?_
        rintro _ K2 ⟨rfl, rfl⟩
        cases c3 : wholeB s p with
        | true =>
          have c3' : ([239, 191, 189] : List UInt8).isPrefixOf (s.drop p) = true := c3
          simp (disch := first | assumption | omega | (simp only [LN] <;> omega) | (simp (disch := first | assumption | omega | (simp only [LN] <;> omega)) only [row_alloc, row_set]; assumption)) only [W_block, P3, ↓reduceIte, reduceAdd, reduceEqDiff, reduceCtorEq, initFr, reduceLT, clsA, reduceLeDiff, reduceMul, reduceSub, reduceIte, c3']
          exact hn _ _ _ ⟨p + (decB s p).2, _, _, _, _, _, rfl, hgs, hset, hnext (by simp [okC, c1, c2, c3]), rfl⟩ (by omega)
        | false =>
          have c3' : ([239, 191, 189] : List UInt8).isPrefixOf (s.drop p) = false := c3
          simp (disch := first | assumption | omega | (simp only [LN] <;> omega) | (simp (disch := first | assumption | omega | (simp only [LN] <;> omega)) only [row_alloc, row_set]; assumption)) only [W_block, P3, ↓reduceIte, reduceAdd, reduceEqDiff, reduceCtorEq, initFr, reduceLT, clsA, reduceLeDiff, reduceMul, reduceSub, reduceIte, c3']
          refine hret _ _ (hq2 _ _ ⟨_, rfl, hset, ?_⟩)
          rw [hbad (by simp [okC, c1, c2, c3])]
          rfl
      · have e2 : ((d : Int) == 65533) = false := by simpa using c2
        simp (disch := first | assumption | omega | (simp only [LN] <;> omega) | (simp (disch := first | assumption | omega | (simp only [LN] <;> omega)) only [row_alloc, row_set]; assumption)) only [W_block, P3, ↓reduceIte, reduceAdd, reduceEqDiff, reduceCtorEq, initFr, reduceLT, clsA, reduceLeDiff, reduceMul, reduceSub, reduceIte, hnx, e2]
        exact hn _ _ _ ⟨p + (decB s p).2, _, _, _, _, _, rfl, hgs, hset, hnext (by simp [okC, c1, c2]), rfl⟩ (by omega)
  · have hend := runF_end hp
    rw [hend] at hr
    simp only [List.all_nil] at hr
    rw [hr] at hq1 hq2
    simp only [if_true] at hq1 hq2
    simp (disch := first | assumption | omega | (simp only [LN] <;> omega) | (simp (disch := first | assumption | omega | (simp only [LN] <;> omega)) only [row_alloc, row_set]; assumption)) only [W_block, P3, ↓reduceIte, reduceAdd, reduceEqDiff, reduceCtorEq, initFr, reduceLT, clsA, reduceLeDiff, reduceMul, reduceSub, reduceIte, a_nextN hg hp]
    refine hx 0 _ _ ?_
    simp (disch := first | assumption | omega | (simp only [LN] <;> omega) | (simp (disch := first | assumption | omega | (simp only [LN] <;> omega)) only [row_alloc, row_set]; assumption)) only [ P3, ↓reduceIte, reduceAdd, reduceEqDiff, reduceCtorEq, initFr, reduceLT, clsA, reduceLeDiff, reduceMul, reduceSub, reduceIte]
    refine callK (t24 _ s 32) ?_
    rintro _ K2 ⟨rfl, rfl⟩
    simp (disch := first | assumption | omega | (simp only [LN] <;> omega) | (simp (disch := first | assumption | omega | (simp only [LN] <;> omega)) only [row_alloc, row_set]; assumption)) only [ P3, ↓reduceIte, reduceAdd, reduceEqDiff, reduceCtorEq, initFr, reduceLT, clsA, reduceLeDiff, reduceMul, reduceSub, reduceIte]
    rw [W_block]
    refine W_rangeF rfl (bodied_of (by kernel_rfl)) ?_
    obtain ⟨R, hR⟩ : ∃ R : LRec, (⟨43, [0, 2, 3, 4, 5, 6, 7, 15, 16, 17, 32, 34, 35, 37], [.string ⟨s.toArray⟩, .slice none 0 0, .int .i64 0, x3, x4, ptr L.n 0, undef, ptr K.n 0, .tuple #[.bool false], .bool false, x10,
      .func (.func 33) #[] #[ptr (L.n + 1 + 1) 0, ptr (L.n + 1) 0, ptr (L.n + 1 + 2) 0], undef, undef], #[35], rfA Go.Proofs.Tryd.prog 15 0, rfB Go.Proofs.Tryd.prog 15 0⟩ : LRec) = R := ⟨_, rfl⟩
    rw [hR]
    obtain ⟨S0, hS0⟩ : ∃ S0 : AHeap, (((((L.alloc (.cells true false 1 [.slice none 0 0] 25)).alloc (boxS s)).alloc (boxS [32])).alloc (.cells true false 1 [.int .i64 0] 3)).alloc (.loop true .ready none R)) = S0 := ⟨_, rfl⟩
    have hJ0 : WJ L R [] s S0 (.slice none 0 0) := by
      rw [← hS0]
      obtain ⟨q1, q2, q3, q4, q5⟩ := get5 L (.cells true false 1 [.slice none 0 0] 25) (boxS s) (boxS [32]) (.cells true false 1 [.int .i64 0] 3) (.loop true .ready none R)
      exact ⟨(((((Keeps.refl L).alloc _).alloc _).alloc _).alloc _).alloc _, q1, q2, q3, q4, q5, .inl ⟨rfl, rfl, rfl⟩, fun b hb => by cases hb⟩
    obtain ⟨w, H1, r, hfin⟩ := t33 (fun pre sc H => ∃ v, WJ L R pre sc H v) (fun _ => False) (c := 32) (b := L.n + 4) (p1 := L.n + 2) (p2 := L.n + 1) (p3 := L.n + 3) (s := s) (by omega)
      (fun pre sc H ⟨v, h⟩ => ⟨h.sep, h.txt, h.sav⟩) (fun pre sc sc' H ⟨v, h⟩ => ⟨v, h.put sc'⟩)
      (fun pre x sc H ⟨v, h⟩ ⟨rest, hsp⟩ => by
        have h1 := splitB_len 32 s
        rw [hsp, List.length_append, List.length_cons] at h1
        rw [← hR] at h
        obtain ⟨w, H', a, e, v', h'⟩ := WJ.round (x := x) h (by omega)
        rw [hR] at h'
        exact ⟨w, H', a, .inl ⟨e, v', h'⟩⟩) ⟨_, hJ0⟩
    refine ⟨w, H1, ?_, ?_⟩
    · rw [hS0]; exact r
    · rcases hfin with ⟨sc, v, hJ⟩ | hf
      · refine afterR_ready hJ.rec_ ?_
        have hn1 := hJ.n
        have hl4 : L.n + 4 < H1.n := by omega
        have hrow : (H1.set (L.n + 4) .dead).get L.n = some (.cells true false 1 [v] 25) := by rw [AHeap.get_set_other H1 (by omega) hl4]; exact hJ.row
        simp (disch := first | assumption | omega | (simp only [LN] <;> omega) | (simp (disch := first | assumption | omega | (simp only [LN] <;> omega)) only [row_alloc, row_set]; assumption)) only [W_block, P3, ↓reduceIte, reduceAdd, reduceEqDiff, reduceCtorEq, initFr, reduceLT, clsA, reduceLeDiff, reduceMul, reduceSub, reduceIte, hrow]
        refine hq2 _ _ ⟨_, rfl, (hk.trans hJ.keep).set (by have := hk.n; omega) hl4 _, v, rfl, ?_, ?_⟩
        · exact hJ.ap.chg (Chg.set H1 hl4 _) (fun y hy => by have := hJ.fresh y (mem_blkL.1 hy); simp; omega)
        · intro b hb
          have := hJ.fresh b hb
          have := hk.n
          omega
      · exact hf.elim
end Go.AM.Fd

set_option linter.unusedSimpArgs false
set_option linter.unusedVariables false
namespace Go.AM.Fd
open Nat (reduceAdd reduceEqDiff reduceLT reduceLeDiff reduceMul reduceSub)
open Go.Proofs Go.AM.F
abbrev Row := Value × List (List UInt8)
def thG (w : Row) : Th := thA 9 1 w.1 w.2.length (txs w.2)
def outC (ws : List Row) : List Value := (ws.map (·.1)).reverse
def GS (N : Nat) (H : AHeap) (v : Value) (ws : List Row) (rs : List Row) : Prop :=
  Sep H (thA 25 1 v ws.length (outC ws) :: rs.map thG) ∧ Fresh N v ∧ ∀ w ∈ rs, Fresh N w.1
def grp (acc : List (List (List UInt8))) (t : List UInt8) : List (List (List UInt8)) := if t = [58] then [] :: acc else match acc with
  | g :: r => (g ++ [t]) :: r
  | [] => [[t]]
def groupsB (ts : List (List UInt8)) : List (List (List UInt8)) := (ts.foldl grp [[]]).reverse
theorem grp_take {ts : List (List UInt8)} {i : Nat} (h : i < ts.length) (a : List (List (List UInt8))) : (ts.take (i + 1)).foldl grp a = grp ((ts.take i).foldl grp a) (ts.getD i []) := by
  rw [List.take_add_one, List.getElem?_eq_getElem h, List.foldl_append]
  simp [List.getD, List.getElem?_eq_getElem h]
theorem GS.keeps {N : Nat} {H K : AHeap} {v : Value} {ws rs : List Row} (h : GS N H v ws rs) (k : Keeps H K) : GS N K v ws rs := ⟨h.1.keeps k, h.2⟩
theorem GS.addNil {N : Nat} {H : AHeap} {v : Value} {ws rs : List Row} (h : GS N H v ws rs) : GS N H v ws ((.slice none 0 0, []) :: rs) := by
  obtain ⟨h1, h2, h3⟩ := h
  refine ⟨⟨?_, ?_⟩, h2, ?_⟩
  · intro t ht
    simp only [List.map_cons, List.mem_cons] at ht
    rcases ht with rfl | rfl | ht
    · exact h1.all _ (by simp)
    · exact .inl ⟨rfl, rfl, rfl⟩
    · exact h1.all t (by simp [ht])
  · have hp := List.pairwise_cons.1 h1.ap
    refine List.pairwise_cons.2 ⟨?_, List.pairwise_cons.2 ⟨fun a ha b hb => by simp [thG, thA, blkL, blk] at hb, hp.2⟩⟩
    intro a ha
    simp only [List.map_cons, List.mem_cons] at ha
    rcases ha with rfl | ha
    · intro b hb hb2; simp [thG, thA, blkL, blk] at hb2
    · exact hp.1 a ha
  · intro w hw
    rcases List.mem_cons.1 hw with rfl | hw
    · intro b hb; cases hb
    · exact h3 w hw
theorem GS.outer {N : Nat} {H K : AHeap} {v v' : Value} {ws ws' rs : List Row} (h : GS N H v ws rs) (hN : N ≤ H.n) (c : Chg (blkL v) H K) (ha : AP K 25 1 v' ws'.length (outC ws')) (hb : blk v' = blk v ∨ (∃ b, blk v' = some b ∧ H.n ≤ b)) : GS N K v' ws' rs := by
  have hf : ∀ y ∈ blkL v', y ∈ blkL v ∨ H.n ≤ y := fun y hy => by
    have hy := mem_blkL.1 hy
    rcases hb with e | ⟨b, e, hb⟩
    · exact .inl (mem_blkL.2 (by rw [← e]; exact hy))
    · rw [e] at hy; cases hy; exact .inr hb
  refine ⟨Sep.upd (l := []) h.1 c ha hf, ?_, h.2.2⟩
  intro y hy
  rcases hf y (mem_blkL.2 hy) with e | e
  · exact h.2.1 y (mem_blkL.1 e)
  · omega
theorem GS.row {N : Nat} {H K : AHeap} {v u' : Value} {g' : List (List UInt8)} {w : Row} {ws rs : List Row} (h : GS N H v ws (w :: rs)) (hN : N ≤ H.n) (c : Chg (blkL w.1) H K) (ha : AP K 9 1 u' g'.length (txs g')) (hb : blk u' = blk w.1 ∨ (∃ b, blk u' = some b ∧ H.n ≤ b)) : GS N K v ws ((u', g') :: rs) := by
  have hf : ∀ y ∈ blkL u', y ∈ blkL w.1 ∨ H.n ≤ y := fun y hy => by
    have hy := mem_blkL.1 hy
    rcases hb with e | ⟨b, e, hb⟩
    · exact .inl (mem_blkL.2 (by rw [← e]; exact hy))
    · rw [e] at hy; cases hy; exact .inr hb
  refine ⟨Sep.upd (l := [_]) (t := thG w) (t' := thG (u', g')) (r := rs.map thG) h.1 c ha hf, h.2.1, ?_⟩
  intro x hx
  rcases List.mem_cons.1 hx with rfl | hx
  · intro y hy
    rcases hf y (mem_blkL.2 hy) with e | e
    · exact h.2.2 w (by simp) y (mem_blkL.1 e)
    · omega
  · exact h.2.2 x (by simp [hx])
theorem GS.out {N : Nat} {H : AHeap} {v : Value} {ws rs : List Row} (h : GS N H v ws rs) : AP H 25 1 v ws.length (outC ws) := h.1.all (thA 25 1 v ws.length (outC ws)) (by simp)
theorem GS.top {N : Nat} {H : AHeap} {v : Value} {w : Row} {ws rs : List Row} (h : GS N H v ws (w :: rs)) : AP H 9 1 w.1 w.2.length (txs w.2) := h.1.all (thG w) (by simp)
theorem GS.apart {N : Nat} {H : AHeap} {v : Value} {w : Row} {ws rs : List Row} (h : GS N H v ws (w :: rs)) {b : Nat} (hb : blk v = some b) : blk w.1 ≠ some b := fun e =>
  (List.pairwise_cons.1 h.1.ap).1 (thG w) (by simp) b (mem_blkL.2 hb) (mem_blkL.2 e)
theorem GS.chg {N : Nat} {H K : AHeap} {v : Value} {ws rs : List Row} (h : GS N H v ws rs) (c : Keeps H K) : GS N K v ws rs := h.keeps c
theorem sl_fresh {v v' : Value} {H : AHeap} {n : Nat} {o : AO} (h : blk v' = blk v ∨ blk v' = some (H.alloc o).n) (hn : n = H.n) : blk v' = blk v ∨ (∃ b, blk v' = some b ∧ n ≤ b) := by
  rcases h with h | h
  · exact .inl h
  · exact .inr ⟨_, h, by simp [AHeap.alloc]; omega⟩
theorem outC_len (ws : List Row) : (outC ws).length = ws.length := by simp [outC]
theorem outC_cons (w : Row) (ws : List Row) : outC (w :: ws) = outC ws ++ [w.1] := by simp [outC]
theorem outC_top (w : Row) (ws : List Row) : (outC (w :: ws))[ws.length]? = some w.1 := by
  rw [outC_cons, List.getElem?_append_right (by rw [outC_len]; omega), outC_len]; simp
theorem outC_set (w : Row) (u : Value) (g : List (List UInt8)) (ws : List Row) : (outC (w :: ws)).set ws.length u = outC ((u, g) :: ws) := by
  rw [outC_cons, outC_cons, List.set_append_right _ _ (by rw [outC_len]; omega), outC_len]; simp
theorem t18 {H : AHeap} {vl : Value} {ts : List (List UInt8)} (ht : TL H vl ts) (hl : ts.length ≤ 1000000) : ∃ w K, ARun Go.Proofs.Tryd.prog 3 18 [vl] H w K ∧ Keeps H K ∧ ∃ ws, GS H.n K w ws ws ∧ (ws.map (·.2)).reverse = groupsB ts := by
  refine walk2 f18_ok f18_n ?_
  intro Q hq1 hq2
  have hfl0 : fillA [.slice none 0 0] [(0, 1, .slice none 0 0)] = some [.slice none 0 0] := rfl
  have ll := ht.len
  have il := Sl.is ht
  simp (disch := first | assumption | omega | (simp only [LN] <;> omega) | (simp (disch := first | assumption | omega | (simp only [LN] <;> omega)) only [row_alloc, row_set]; assumption)) only [ f18, P3, ↓reduceIte, reduceAdd, reduceEqDiff, reduceCtorEq, initFr, reduceLT, clsA, reduceLeDiff, reduceMul, reduceSub, reduceIte, hfl0, ll]
  rw [W_block]
  have hG0 : GS H.n (H.alloc (.cells true false 1 [.slice none 0 0] 25)) (slc H.n 0 1 1) [(.slice none 0 0, [])] [(.slice none 0 0, [])] := by
    refine GS.addNil ⟨⟨fun t ht => ?_, by simp⟩, fun b hb => by cases hb; exact Nat.le_refl _, by simp⟩
    simp only [List.map_nil, List.mem_singleton] at ht
    subst ht
    exact .inr ⟨H.n, false, rfl, rfl, AHeap.get_alloc_new _ _⟩
  refine W_loop2 (fun k fr K => ∃ i v ws x3 x4 x8 x9, fr = [vl, .slice none 0 0, v, x3, x4, vl, .int .i64 ((ts.length : Nat) : Int), .int .i64 ((i : Nat) : Int), x8, x9] ∧ Keeps H K ∧ GS H.n K v ws ws ∧ ws.map (·.2) = (ts.take i).foldl grp [[]] ∧
      1 ≤ ws.length ∧ ws.length ≤ i + 1 ∧ (∀ w ∈ ws, w.2.length ≤ i) ∧ i ≤ ts.length ∧ k = ts.length - i) ts.length
    ⟨0, _, [(.slice none 0 0, [])], _, _, _, _, rfl, (Keeps.refl H).alloc _, hG0, rfl, by simp, by simp, by simp, by omega, rfl⟩ ?_
  rintro Q' k fr K ⟨i, v, ws, x3, x4, x8, x9, rfl, hk, hG, hws, h1, h2, h3, hi, rfl⟩ hn hx hret
  have hkn := hk.n
  by_cases hlt : i < ts.length
  · have ht2 := ht.keeps hk
    obtain ⟨na, ra⟩ := ht2.at_ hlt
    unfold tRow at ra
    have c1 : (i : Int) < ((ts.length : Nat) : Int) := by omega
    have c2 : (i : Int) < ((lenS vl : Nat) : Int) := by omega
    have c0 : (0 : Int) ≤ (i : Int) := by omega
    have hw : IntKind.i64.wrap ((i : Int) + 1) = ((i + 1 : Nat) : Int) := by rw [wrap_i64 (by omega) (by omega)]; simp
    have hgr := grp_take hlt [[]]
    rw [← hws] at hgr
    obtain ⟨t, htt⟩ : ∃ t, ts.getD i [] = t := ⟨_, rfl⟩
    rw [htt] at ra hgr
    by_cases hc : t = [58]
    · have e : decide (t = [58]) = true := by simpa using hc
      have k4 := (Keeps.refl K).alloc (.cells true false 1 [.slice none 0 0] 25)
      simp (disch := first | assumption | omega | (simp only [LN] <;> omega) | (simp (disch := first | assumption | omega | (simp only [LN] <;> omega)) only [row_alloc, row_set]; assumption)) only [W_block, P3, ↓reduceIte, reduceAdd, reduceEqDiff, reduceCtorEq, initFr, reduceLT, clsA, reduceLeDiff, reduceMul, reduceSub, reduceIte, ra, na, a_load1v, bytes_eq, e, hfl0]
      refine appG (hG.out.keeps k4) ⟨_, _, rfl⟩ (elems_new rfl rfl) rfl (by omega) ?_
      intro v' K2 a2 ch b2
      simp (disch := first | assumption | omega | (simp only [LN] <;> omega) | (simp (disch := first | assumption | omega | (simp only [LN] <;> omega)) only [row_alloc, row_set]; assumption)) only [W_block, P3, ↓reduceIte, reduceAdd, reduceEqDiff, reduceCtorEq, initFr, reduceLT, clsA, reduceLeDiff, reduceMul, reduceSub, reduceIte, hw]
      have c24 : Chg (blkL v) K K2 := (k4.chg _).trans ch (fun y hy => .inl hy)
      have hG2 := (hG.outer (ws' := (.slice none 0 0, []) :: ws) hkn c24 (by rw [outC_cons]; simpa using a2) (sl_fresh b2 rfl)).addNil
      refine hn _ _ _ ⟨i + 1, v', (.slice none 0 0, []) :: ws, _, _, _, _, rfl, hk.chg_trans c24 hG.2.1.L, hG2, ?_, by simp, by simp; omega, ?_, by omega, rfl⟩ (by omega)
      · rw [hgr]; simp [grp, hc]
      · intro w hw; rcases List.mem_cons.1 hw with rfl | hw
        · simp
        · have := h3 w hw; omega
    · have e : decide (t = [58]) = false := by simpa using hc
      obtain ⟨w, rs, rfl⟩ : ∃ w rs, ws = w :: rs := by
        cases ws with
        | nil => simp at h1
        | cons w rs => exact ⟨w, rs, rfl⟩
      rcases hG.out with ⟨_, hz, _⟩ | ⟨b, room, rfl, hlen, hget⟩
      · simp at hz
      · have hwl := h3 w (by simp)
        have hrl : rs.length ≤ i := by simpa using h2
        have hs1 : IntKind.i64.wrap (((rs.length + 1 : Nat) : Int) - 1) = ((rs.length : Nat) : Int) := by rw [wrap_i64 (by omega) (by omega)]; simp
        have d0 : (0 : Int) ≤ ((rs.length : Nat) : Int) := by omega
        have d1 : ((rs.length : Nat) : Int) < ((rs.length + 1 : Nat) : Int) := by omega
        have hcell : cellO (K.get b) rs.length = some w.1 := by rw [hget, cellO_c]; exact outC_top w rs
        have hfl : fillA [.string ByteArray.empty] [(0, 1, .string ⟨t.toArray⟩)] = some [.string ⟨t.toArray⟩] := rfl
        have k4 := (Keeps.refl K).alloc (.cells true false 1 [.string ⟨t.toArray⟩] 9)
        simp (disch := first | assumption | omega | (simp only [LN] <;> omega) | (simp (disch := first | assumption | omega | (simp only [LN] <;> omega)) only [row_alloc, row_set]; assumption)) only [W_block, P3, ↓reduceIte, reduceAdd, reduceEqDiff, reduceCtorEq, initFr, reduceLT, clsA, reduceLeDiff, reduceMul, reduceSub, reduceIte, ra, na, a_load1v, bytes_eq, e, hs1, hfl, Int.toNat_natCast, Nat.mul_one, Nat.zero_add, hcell]
        refine appG (hG.top.keeps k4) ⟨_, _, rfl⟩ (elems_new rfl rfl) rfl (by omega) ?_
        intro u' K2 a2 ch b2
        have c24 : Chg (blkL w.1) K K2 := (k4.chg _).trans ch (fun y hy => .inl hy)
        have hget2 : K2.get b = some (.cells true room 1 (outC (w :: rs)) 25) := c24.at_ hget (fun hm => hG.apart rfl (mem_blkL.1 hm))
        have hr := hG.row (g' := w.2 ++ [t]) hkn c24 (by simpa [txs_app] using a2) (sl_fresh b2 rfl)
        have ou : u'.oneCell' = true := by
          obtain ⟨a, ha⟩ := a2.shape
          rw [ha]; rfl
        have hlt2 : rs.length < (outC (w :: rs)).length := by rw [outC_len]; simp
        have hb2 := AHeap.get_lt hget2
        simp (disch := first | assumption | omega | (simp only [LN] <;> omega) | (simp (disch := first | assumption | omega | (simp only [LN] <;> omega)) only [row_alloc, row_set]; assumption)) only [W_block, P3, ↓reduceIte, reduceAdd, reduceEqDiff, reduceCtorEq, initFr, reduceLT, clsA, reduceLeDiff, reduceMul, reduceSub, reduceIte, hget2, ou, hw]
        have hk2 : Keeps H K2 := hk.chg_trans c24 (fun y hy => hG.2.2 w (by simp) y (mem_blkL.1 hy))
        have hbn : H.n ≤ b := hG.2.1 b rfl
        have hr2 := hr.outer (ws' := (u', w.2 ++ [t]) :: rs) (v' := slc b 0 (rs.length + 1) (rs.length + 1)) hk2.n (Chg.set K2 hb2 (.cells true room 1 ((outC (w :: rs)).set rs.length u') 25) |>.mono (by intro y hy; simp at hy; subst hy; exact mem_blkL.2 rfl))
          (.inr ⟨b, room, rfl, by rw [outC_len]; simp, by rw [AHeap.get_set_same hget2]; rw [outC_set w u' (w.2 ++ [t]) rs]⟩) (.inl rfl)
        refine hn _ _ _ ⟨i + 1, _, (u', w.2 ++ [t]) :: rs, _, _, _, _, rfl, hk2.set hbn hb2 _, hr2, ?_, by simp, by simp; omega, ?_, by omega, rfl⟩ (by omega)
        · rw [hgr]; simp [grp, hc]
        · intro x hx; rcases List.mem_cons.1 hx with rfl | hx
          · simp; omega
          · have := h3 x (by simp [hx]); omega
  · have c1 : ¬ (i : Int) < ((ts.length : Nat) : Int) := by omega
    simp (disch := first | assumption | omega | (simp only [LN] <;> omega) | (simp (disch := first | assumption | omega | (simp only [LN] <;> omega)) only [row_alloc, row_set]; assumption)) only [W_block, P3, ↓reduceIte, reduceAdd, reduceEqDiff, reduceCtorEq, initFr, reduceLT, clsA, reduceLeDiff, reduceMul, reduceSub, reduceIte]
    refine hx 0 _ _ ?_
    simp (disch := first | assumption | omega | (simp only [LN] <;> omega) | (simp (disch := first | assumption | omega | (simp only [LN] <;> omega)) only [row_alloc, row_set]; assumption)) only [W_block, P3, ↓reduceIte, reduceAdd, reduceEqDiff, reduceCtorEq, initFr, reduceLT, clsA, reduceLeDiff, reduceMul, reduceSub, reduceIte]
    refine hq2 _ _ ⟨_, rfl, hk, ws, hG, ?_⟩
    rw [hws, List.take_of_length_le (by omega)]
    rfl
end Go.AM.Fd

set_option linter.unusedSimpArgs false
set_option linter.unusedVariables false
namespace Go.AM.Fd
open Nat (reduceAdd reduceEqDiff reduceLT reduceLeDiff reduceMul reduceSub)
open Go.Proofs Go.AM.F
theorem AP.fill {H : AHeap} {e esz : Nat} {v : Value} {n : Nat} {c : List Value} (h : AP H e esz v n c) : fillA [.slice none 0 0] [(0, 1, v)] = some [v] ∧ v.oneCell' = true := by
  obtain ⟨a, rfl⟩ := h.shape
  exact ⟨rfl, rfl⟩
end Go.AM.Fd

set_option linter.unusedSimpArgs false
set_option linter.unusedVariables false
set_option maxRecDepth 4000
namespace Go.AM.Fd
open Nat (reduceAdd reduceEqDiff reduceLT reduceLeDiff reduceMul reduceSub)
open Go.Proofs Go.AM.F
def W1 : List UInt8 := [32, 114, 111, 117, 116, 101, 32, 82, 49, 32, 32, 58, 32, 83, 50, 32, 35, 32, 120]
def W2 : List (List UInt8) := [[114, 111, 117, 116, 101], [82, 49], [58], [83, 50]]
def G1 : List (List UInt8) := [[97], [58], [98], [99], [58]]
theorem w1_ok : okW (aheadB W1) = true := by kernel_rfl
theorem w1_w : wordsB (aheadB W1) = W2 := by kernel_rfl
theorem w2_ok : okW (aheadB [255]) = false := by kernel_rfl
theorem g1_g : groupsB G1 = [[[97]], [[98], [99]], []] := by kernel_rfl
theorem r1 : rightB [71, 108, 101, 105, 115, 95, 55] = true := by kernel_rfl
theorem r2 : rightB [97, 32, 98] = false := by kernel_rfl
theorem tl_new {H : AHeap} {room : Bool} {ts : List (List UInt8)} : TL (H.alloc (.cells true room 1 (txs ts) 9)) (slc H.n 0 ts.length ts.length) ts :=
  AP.tl (.inr ⟨H.n, room, rfl, by simp [txs_len], AHeap.get_alloc_new _ _⟩)
theorem t12 (H : AHeap) : ∃ w K, ARun Go.Proofs.Tryd.prog 3 12 [] H w K ∧ w = .bool true ∧ K = H := by
  suffices h : ∃ w K, ARun Go.Proofs.Tryd.prog 3 12 [] H w K ∧ w = .bool true ∧ Keeps H K by
    obtain ⟨_, _, a, rfl, k⟩ := h
    exact ⟨_, _, a.gc0 k (.inr (.bool _)), rfl, rfl⟩
  refine walk2 f12_ok f12_n ?_
  intro Q hq1 hq2
  simp (disch := first | assumption | omega | (simp only [LN] <;> omega) | (simp (disch := first | assumption | omega | (simp only [LN] <;> omega)) only [row_alloc, row_set]; assumption)) only [f12, W_block, P3, ↓reduceIte, reduceAdd, reduceEqDiff, reduceCtorEq, initFr, reduceLT, clsA, reduceLeDiff, reduceMul, reduceSub, reduceIte]
  refine callK (t15 H W1 (by decide)) ?_
  rintro _ K1 ⟨k1, hw⟩
  rw [w1_ok, w1_w] at hw
  simp only [if_true] at hw
  obtain ⟨v, rfl, av, fv⟩ := hw
  simp (disch := first | assumption | omega | (simp only [LN] <;> omega) | (simp (disch := first | assumption | omega | (simp only [LN] <;> omega)) only [row_alloc, row_set]; assumption)) only [W_block, P3, ↓reduceIte, reduceAdd, reduceEqDiff, reduceCtorEq, initFr, reduceLT, clsA, reduceLeDiff, reduceMul, reduceSub, reduceIte]
  refine callK (t15 K1 [255] (by decide)) ?_
  rintro _ K2 ⟨k2, hw⟩
  rw [w2_ok] at hw
  simp only [Bool.false_eq_true, if_false] at hw
  subst hw
  have hf1 : fillA [.string ByteArray.empty, .string ByteArray.empty, .string ByteArray.empty, .string ByteArray.empty, .string ByteArray.empty] [(0, 1, .string ⟨#[97]⟩), (1, 1, .string ⟨#[58]⟩), (2, 1, .string ⟨#[98]⟩), (3, 1, .string ⟨#[99]⟩), (4, 1, .string ⟨#[58]⟩)] = some (txs G1) := rfl
  have ho1 : (txs G1).all Value.oneCell' = true := rfl
  have hl1 : (txs G1).length = 5 := rfl
  simp (disch := first | assumption | omega | (simp only [LN] <;> omega) | (simp (disch := first | assumption | omega | (simp only [LN] <;> omega)) only [row_alloc, row_set]; assumption)) only [W_block, P3, ↓reduceIte, reduceAdd, reduceEqDiff, reduceCtorEq, initFr, reduceLT, clsA, reduceLeDiff, reduceMul, reduceSub, reduceIte, hf1, ho1, hl1]
  refine callK (t18 (ts := G1) tl_new (by decide)) ?_
  rintro gv K3 ⟨k3, ws, hG, hws⟩
  rw [g1_g] at hws
  have hmap : ws.map (·.2) = [[], [[98], [99]], [[97]]] := by rw [← List.reverse_reverse (ws.map (·.2)), hws]; rfl
  obtain ⟨u3, u2, u1, rfl⟩ : ∃ u3 u2 u1, ws = [(u3, []), (u2, [[98], [99]]), (u1, [[97]])] := by
    match ws, hmap with
    | [(a, x), (b, y), (c, z)], h =>
      simp only [List.map_cons, List.map_nil, List.cons.injEq, and_true] at h
      obtain ⟨rfl, rfl, rfl⟩ := h
      exact ⟨a, b, c, rfl⟩
  have au2 : AP K3 9 1 u2 2 (txs [[98], [99]]) := hG.1.all (thG (u2, [[98], [99]])) (by simp)
  have au3 : AP K3 9 1 u3 0 (txs []) := hG.1.all (thG (u3, [])) (by simp)
  obtain ⟨a2, e2⟩ := au2.shape
  obtain ⟨a3, e3⟩ := au3.shape
  rcases hG.out with ⟨_, hz, _⟩ | ⟨b, room, rfl, hlen, hget⟩
  · simp at hz
  have hb3 := AHeap.get_lt hget
  have k4 : Keeps K1 K3 := (k2.trans ((Keeps.refl K2).alloc _)).trans k3
  have tlv : TL K3 v W2 := TL.keeps (AP.tl (av : AP K1 9 1 v W2.length (txs W2))) k4
  have hf2 : fillA [.string ByteArray.empty, .string ByteArray.empty, .string ByteArray.empty, .string ByteArray.empty] [(0, 1, .string ⟨#[114, 111, 117, 116, 101]⟩), (1, 1, .string ⟨#[82, 49]⟩), (2, 1, .string ⟨#[58]⟩), (3, 1, .string ⟨#[83, 50]⟩)] = some (txs W2) := rfl
  have ho2 : (txs W2).all Value.oneCell' = true := rfl
  have hl2 : (txs W2).length = 4 := rfl
  simp (disch := first | assumption | omega | (simp only [LN] <;> omega) | (simp (disch := first | assumption | omega | (simp only [LN] <;> omega)) only [row_alloc, row_set]; assumption)) only [W_block, P3, ↓reduceIte, reduceAdd, reduceEqDiff, reduceCtorEq, initFr, reduceLT, clsA, reduceLeDiff, reduceMul, reduceSub, reduceIte, hf2, ho2, hl2]
  refine callK (t17 (a := W2) (b := W2) (tlv.keeps ((Keeps.refl K3).alloc _)) tl_new (by decide)) ?_
  rintro _ K4 ⟨rfl, rfl⟩
  have hd : decide (W2 = W2) = true := by simp
  simp (disch := first | assumption | omega | (simp only [LN] <;> omega) | (simp (disch := first | assumption | omega | (simp only [LN] <;> omega)) only [row_alloc, row_set]; assumption)) only [W_block, P3, ↓reduceIte, reduceAdd, reduceEqDiff, reduceCtorEq, initFr, reduceLT, clsA, reduceLeDiff, reduceMul, reduceSub, reduceIte, hd]
  refine callK (t13 _ [71, 108, 101, 105, 115, 95, 55] (by decide)) ?_
  rintro _ K5 ⟨rfl, rfl⟩
  simp (disch := first | assumption | omega | (simp only [LN] <;> omega) | (simp (disch := first | assumption | omega | (simp only [LN] <;> omega)) only [row_alloc, row_set]; assumption)) only [W_block, P3, ↓reduceIte, reduceAdd, reduceEqDiff, reduceCtorEq, initFr, reduceLT, clsA, reduceLeDiff, reduceMul, reduceSub, reduceIte, r1]
  refine callK (t13 _ [97, 32, 98] (by decide)) ?_
  rintro _ K5 ⟨rfl, rfl⟩
  have hc1 : cellO (K3.get b) (Int.toNat 1) = some u2 := by rw [hget]; rfl
  have hc2 : cellO (K3.get b) (Int.toNat 2) = some u3 := by rw [hget]; rfl
  have n2 : (((2 : Nat) : Int) == 2) = true := rfl
  have n3 : (((3 : Nat) : Int) == 3) = true := rfl
  have n0 : (((0 : Nat) : Int) == 0) = true := rfl
  simp (disch := first | assumption | omega | (simp only [LN] <;> omega) | (simp (disch := first | assumption | omega | (simp only [LN] <;> omega)) only [row_alloc, row_set]; assumption)) only [W_block, P3, ↓reduceIte, reduceAdd, reduceEqDiff, reduceCtorEq, initFr, reduceLT, clsA, reduceLeDiff, reduceMul, reduceSub, reduceIte, r2, hc1, hc2, e2, e3, n2, n0, n3]
  exact hq2 _ _ ⟨_, rfl, rfl, (k1.trans k4).alloc _⟩
end Go.AM.Fd

set_option linter.unusedSimpArgs false
set_option linter.unusedVariables false
namespace Go.AM.Fd
open Nat (reduceAdd reduceEqDiff reduceLT reduceLeDiff reduceMul reduceSub)
open Go.Proofs Go.AM.F
theorem av_str {H : AHeap} {v : Value} (h : AV Go.Proofs.Tryd.prog H.get 9 v) : ∃ l : List UInt8, v = .string ⟨l.toArray⟩ := by
  obtain ⟨s, rfl, _⟩ := h.str_inv (by kernel_rfl)
  obtain ⟨l, rfl⟩ := str_ex s
  exact ⟨l, rfl⟩
end Go.AM.Fd

set_option linter.unusedSimpArgs false
set_option linter.unusedVariables false
namespace Go.AM.Fd
open Go.Proofs Go.AM.F
theorem get_at (l : List UInt8) (i : Nat) : ((⟨l.toArray⟩ : ByteArray).get! i) = l.getD i 0 := by
  show l.toArray[i]! = _
  by_cases h : i < l.length
  · simp [List.getD, List.getElem?_eq_getElem h, h]
  · simp [List.getD, List.getElem?_eq_none (by omega : l.length ≤ i), h]
    rfl
def decL (l : List UInt8) : Nat × Nat :=
  let a (k : Nat) : Nat := (l.getD k 0).toNat
  let cont (k : Nat) : Bool := k < l.length && a k / 64 == 2
  let b0 := a 0
  if b0 < 0x80 then (b0, 1)
  else if b0 / 32 == 6 && cont 1 then
    let c := (b0 % 32) * 64 + a 1 % 64
    if c ≥ 0x80 then (c, 2) else (65533, 1)
  else if b0 / 16 == 14 && cont 1 && cont 2 then
    let c := (b0 % 16) * 4096 + (a 1 % 64) * 64 + a 2 % 64
    if c ≥ 0x800 && Utf8.valid c then (c, 3) else (65533, 1)
  else if b0 / 8 == 30 && cont 1 && cont 2 && cont 3 then
    let c := (b0 % 8) * 262144 + (a 1 % 64) * 4096 + (a 2 % 64) * 64 + a 3 % 64
    if c ≥ 0x10000 && Utf8.valid c then (c, 4) else (65533, 1)
  else (65533, 1)
theorem decB_L (l : List UInt8) (p : Nat) : decB l p = decL (l.drop p) := by
  unfold decB decL Utf8.decode
  have h1 : ∀ k, ((⟨l.toArray⟩ : ByteArray).get! (p + k)) = (l.drop p).getD k 0 := fun k => by
    rw [get_at]; simp only [List.getD, List.getElem?_drop]
  have h2 : ∀ k, decide (p + k < (⟨l.toArray⟩ : ByteArray).size) = decide (k < (l.drop p).length) := fun k => by
    rw [str_size, List.length_drop, decide_eq_decide]; omega
  simp only [h1, h2, Utf8.runeError]
structure GC (c : List UInt8) : Prop where
  ne : c ≠ []
  dec : ∃ r, (∀ rest, decL (c ++ rest) = (r, c.length)) ∧ 32 ≤ r ∧ (r = 65533 → c = [239, 191, 189])
  asc : (∃ b : UInt8, c = [b]) ∨ ∀ b ∈ c, 128 ≤ b.toNat
theorem dec1 {b0 : UInt8} (t : List UInt8) (h : b0.toNat < 128) : decL (b0 :: t) = (b0.toNat, 1) := by
  unfold decL
  simp only [List.getD_cons_zero]
  rw [if_pos h]
theorem dec2 {b0 b1 : UInt8} (t : List UInt8) (h0 : ¬ b0.toNat < 128) (h1 : (b0.toNat / 32 == 6) = true) (h2 : (b1.toNat / 64 == 2) = true) (h3 : (b0.toNat % 32) * 64 + b1.toNat % 64 ≥ 128) :
    decL (b0 :: b1 :: t) = ((b0.toNat % 32) * 64 + b1.toNat % 64, 2) := by
  unfold decL
  simp only [List.getD_cons_zero, List.getD_cons_succ]
  rw [if_neg h0, if_pos (by simp only [h1, h2, Bool.and_true, Bool.true_and, decide_eq_true_eq]; simp), if_pos h3]
theorem dec3 {b0 b1 b2 : UInt8} (t : List UInt8) (h0 : ¬ b0.toNat < 128) (h1 : (b0.toNat / 16 == 14) = true) (h2 : (b1.toNat / 64 == 2) = true) (h3 : (b2.toNat / 64 == 2) = true)
    (h4 : (decide ((b0.toNat % 16) * 4096 + (b1.toNat % 64) * 64 + b2.toNat % 64 ≥ 2048) && Utf8.valid ((b0.toNat % 16) * 4096 + (b1.toNat % 64) * 64 + b2.toNat % 64 : Nat)) = true) :
    decL (b0 :: b1 :: b2 :: t) = ((b0.toNat % 16) * 4096 + (b1.toNat % 64) * 64 + b2.toNat % 64, 3) := by
  have hx : (b0.toNat / 32 == 6) = false := by simp at h1 ⊢; omega
  unfold decL
  simp only [List.getD_cons_zero, List.getD_cons_succ]
  rw [if_neg h0, if_neg (by simp [hx]), if_pos (by simp only [h1, h2, h3, Bool.and_true, Bool.true_and, Bool.and_eq_true, decide_eq_true_eq]; constructor <;> simp), if_pos h4]
theorem dec_fffd (t : List UInt8) : decL (239 :: 191 :: 189 :: t) = (65533, 3) := dec3 (b0 := 239) (b1 := 191) (b2 := 189) t (by decide) (by decide) (by decide) (by decide) (by decide)
theorem gc_fffd : GC [239, 191, 189] := ⟨by simp, ⟨65533, fun rest => dec_fffd rest, by omega, fun _ => rfl⟩, .inr (by decide)⟩
theorem dec4 {b0 b1 b2 b3 : UInt8} (t : List UInt8) (h0 : ¬ b0.toNat < 128) (h1 : (b0.toNat / 8 == 30) = true) (h2 : (b1.toNat / 64 == 2) = true) (h3 : (b2.toNat / 64 == 2) = true) (h5 : (b3.toNat / 64 == 2) = true)
    (h4 : (decide ((b0.toNat % 8) * 262144 + (b1.toNat % 64) * 4096 + (b2.toNat % 64) * 64 + b3.toNat % 64 ≥ 65536) && Utf8.valid ((b0.toNat % 8) * 262144 + (b1.toNat % 64) * 4096 + (b2.toNat % 64) * 64 + b3.toNat % 64 : Nat)) = true) :
    decL (b0 :: b1 :: b2 :: b3 :: t) = ((b0.toNat % 8) * 262144 + (b1.toNat % 64) * 4096 + (b2.toNat % 64) * 64 + b3.toNat % 64, 4) := by
  have hx : (b0.toNat / 32 == 6) = false := by simp at h1 ⊢; omega
  have hy : (b0.toNat / 16 == 14) = false := by simp at h1 ⊢; omega
  unfold decL
  simp only [List.getD_cons_zero, List.getD_cons_succ]
  rw [if_neg h0, if_neg (by simp [hx]), if_neg (by simp [hy]), if_pos (by simp only [h1, h2, h3, h5, Bool.and_true, Bool.true_and, Bool.and_eq_true, decide_eq_true_eq]; refine ⟨⟨?_, ?_⟩, ?_⟩ <;> simp), if_pos h4]
theorem cont_at {l : List UInt8} {k : Nat} (h : (decide (k < l.length) && ((l.getD k 0).toNat / 64 == 2)) = true) : k < l.length ∧ ((l.getD k 0).toNat / 64 == 2) = true := by
  simpa [Bool.and_eq_true] using h
theorem two_of {b0 : UInt8} {t : List UInt8} (h : 2 < (b0 :: t).length) : ∃ b1 b2 t', t = b1 :: b2 :: t' := by
  match t with
  | b1 :: b2 :: t => exact ⟨b1, b2, t, rfl⟩
  | [x] => simp at h
  | [] => simp at h
theorem three_of {b0 : UInt8} {t : List UInt8} (h : 3 < (b0 :: t).length) : ∃ b1 b2 b3 t', t = b1 :: b2 :: b3 :: t' := by
  match t with
  | b1 :: b2 :: b3 :: t => exact ⟨b1, b2, b3, t, rfl⟩
  | [x, y] => simp at h
  | [x] => simp at h
  | [] => simp at h
theorem good_head {l : List UInt8} (hne : l ≠ []) (h32 : 32 ≤ (decL l).1) (hw : (decL l).1 = 65533 → [239, 191, 189].isPrefixOf l = true) : ∃ c rest, l = c ++ rest ∧ GC c ∧ c.length = (decL l).2 := by
  by_cases hr : (decL l).1 = 65533
  · obtain ⟨t, rfl⟩ := List.isPrefixOf_iff_prefix.1 (hw hr)
    exact ⟨[239, 191, 189], t, rfl, gc_fffd, by rw [show ([239, 191, 189] ++ t : List UInt8) = 239 :: 191 :: 189 :: t from rfl, dec_fffd]; rfl⟩
  · obtain ⟨r, w, hd⟩ : ∃ r w, decL l = (r, w) := ⟨_, _, rfl⟩
    rw [hd] at h32 hr ⊢
    simp only at h32 hr ⊢
    obtain ⟨b0, t, rfl⟩ : ∃ b0 t, l = b0 :: t := by
      cases l with
      | nil => exact absurd rfl hne
      | cons b t => exact ⟨b, t, rfl⟩
    unfold decL at hd
    simp only at hd
    split at hd
    · rename_i h0
      simp only [Prod.mk.injEq] at hd
      obtain ⟨rfl, rfl⟩ := hd
      simp only [List.getD_cons_zero] at h0 h32
      exact ⟨[b0], t, rfl, ⟨by simp, ⟨b0.toNat, fun rest => dec1 rest h0, h32, fun e => by omega⟩, .inl ⟨b0, rfl⟩⟩, rfl⟩
    · rename_i h0
      split at hd
      · rename_i h1
        rw [Bool.and_eq_true] at h1
        obtain ⟨k1, q1⟩ := cont_at h1.2
        split at hd
        · rename_i h3
          simp only [Prod.mk.injEq] at hd
          obtain ⟨rfl, rfl⟩ := hd
          obtain ⟨b1, t, rfl⟩ : ∃ b1 t', t = b1 :: t' := by
            cases t with
            | nil => simp at k1
            | cons b t => exact ⟨b, t, rfl⟩
          simp only [List.getD_cons_zero, List.getD_cons_succ] at h0 h1 q1 h3 h32 hr ⊢
          refine ⟨[b0, b1], t, rfl, ⟨by simp, ⟨_, fun rest => dec2 rest h0 h1.1 q1 h3, h32, fun e => absurd e hr⟩, .inr ?_⟩, rfl⟩
          intro b hb
          simp only [List.mem_cons, List.not_mem_nil, or_false] at hb
          rcases hb with rfl | rfl
          · omega
          · simp at q1; omega
        · simp only [Prod.mk.injEq] at hd; exact absurd hd.1.symm hr
      · split at hd
        · rename_i h1
          simp only [Bool.and_eq_true (a := _ && _)] at h1
          rw [Bool.and_eq_true] at h1
          obtain ⟨k1, q1⟩ := cont_at h1.1.2
          obtain ⟨k2, q2⟩ := cont_at h1.2
          split at hd
          · rename_i h3
            simp only [Prod.mk.injEq] at hd
            obtain ⟨e1, rfl⟩ := hd
            obtain ⟨b1, b2, t, rfl⟩ : ∃ b1 b2 t', t = b1 :: b2 :: t' := by
              exact two_of k2
            simp only [List.getD_cons_zero, List.getD_cons_succ] at h0 h1 q1 q2 h3 e1 ⊢
            refine ⟨[b0, b1, b2], t, rfl, ⟨by simp, ⟨r, fun rest => by rw [← e1]; exact dec3 rest h0 h1.1.1 q1 q2 h3, h32, fun e => absurd e hr⟩, .inr ?_⟩, rfl⟩
            intro b hb
            simp only [List.mem_cons, List.not_mem_nil, or_false] at hb
            rcases hb with rfl | rfl | rfl
            · omega
            · simp at q1; omega
            · simp at q2; omega
          · simp only [Prod.mk.injEq] at hd; exact absurd hd.1.symm hr
        · split at hd
          · rename_i h1
            rw [Bool.and_eq_true, Bool.and_eq_true, Bool.and_eq_true] at h1
            obtain ⟨k1, q1⟩ := cont_at h1.1.1.2
            obtain ⟨k2, q2⟩ := cont_at h1.1.2
            obtain ⟨k3, q3⟩ := cont_at h1.2
            split at hd
            · rename_i h3
              simp only [Prod.mk.injEq] at hd
              obtain ⟨e1, rfl⟩ := hd
              obtain ⟨b1, b2, b3, t, rfl⟩ : ∃ b1 b2 b3 t', t = b1 :: b2 :: b3 :: t' := by
                exact three_of k3
              simp only [List.getD_cons_zero, List.getD_cons_succ] at h0 h1 q1 q2 q3 h3 e1 ⊢
              refine ⟨[b0, b1, b2, b3], t, rfl, ⟨by simp, ⟨r, fun rest => by rw [← e1]; exact dec4 rest h0 h1.1.1.1 q1 q2 q3 h3, h32, fun e => absurd e hr⟩, .inr ?_⟩, rfl⟩
              intro b hb
              simp only [List.mem_cons, List.not_mem_nil, or_false] at hb
              rcases hb with rfl | rfl | rfl | rfl
              · omega
              · simp at q1; omega
              · simp at q2; omega
              · simp at q3; omega
            · simp only [Prod.mk.injEq] at hd; exact absurd hd.1.symm hr
          · simp only [Prod.mk.injEq] at hd; exact absurd hd.1.symm hr
end Go.AM.Fd

set_option linter.unusedSimpArgs false
set_option linter.unusedVariables false
namespace Go.AM.Fd
open Go.Proofs Go.AM.F
inductive OkL : List UInt8 → Prop
  | nil : OkL []
  | cons {c l : List UInt8} (h : GC c) (t : OkL l) : OkL (c ++ l)
theorem OkL.app {a b : List UInt8} (h : OkL a) (k : OkL b) : OkL (a ++ b) := by
  induction h with
  | nil => exact k
  | cons h _ ih => rw [List.append_assoc]; exact .cons h ih
theorem gc_blank : GC [32] := ⟨by simp, ⟨32, fun rest => dec1 rest (by decide), by omega, fun e => by omega⟩, .inl ⟨32, rfl⟩⟩
theorem OkL.blank : OkL [32] := by simpa using OkL.cons gc_blank .nil
theorem ok_step {l : List UInt8} {p : Nat} (hp : p < l.length) (h : okC l (p, ((decB l p).1 : Int)) = true) : ∃ c rest, l.drop p = c ++ rest ∧ GC c ∧ c.length = (decB l p).2 ∧ l.drop (p + (decB l p).2) = rest := by
  unfold okC at h
  simp only [Bool.and_eq_true, Bool.not_eq_true', decide_eq_false_iff_not, Bool.and_eq_false_imp, beq_iff_eq, Bool.not_eq_false'] at h
  have hne : l.drop p ≠ [] := by
    intro e
    have := congrArg List.length e
    rw [List.length_drop] at this; simp at this; omega
  have e := decB_L l p
  obtain ⟨c, rest, h1, h2, h3⟩ := good_head hne (by rw [← e]; omega) (fun e2 => by
    have := h.2 (by rw [e]; omega)
    exact this)
  rw [← e] at h3
  refine ⟨c, rest, h1, h2, h3, ?_⟩
  rw [← List.drop_drop, h1, ← h3, List.drop_left]
theorem okl_of {l : List UInt8} : ∀ (n p : Nat), l.length - p ≤ n → (runF l p).all (okC l) = true → OkL (l.drop p)
  | 0, p, hn, _ => by rw [List.drop_of_length_le (by omega)]; exact .nil
  | n + 1, p, hn, h => by
    by_cases hp : p < l.length
    · rw [runF_step hp, List.all_cons, Bool.and_eq_true] at h
      obtain ⟨c, rest, h1, h2, h3, h4⟩ := ok_step hp h.1
      have h0 := decB_pos (l := l) (p := p)
      rw [h1, ← h4]
      exact .cons h2 (okl_of n _ (by omega) h.2)
    · rw [List.drop_of_length_le (by omega)]; exact .nil
theorem okW_l {l : List UInt8} (h : okW l = true) : OkL l := by
  have := okl_of l.length 0 (by omega) h
  simpa using this
theorem okl_to {l : List UInt8} (h : OkL l) : ∀ pre : List UInt8, (runF (pre ++ l) pre.length).all (okC (pre ++ l)) = true := by
  induction h with
  | nil => intro pre; rw [runF_end (by simp)]; rfl
  | @cons c l h t ih =>
    intro pre
    obtain ⟨r, h1, h2, h3⟩ := h.dec
    have hc : 0 < c.length := List.length_pos_iff.2 h.ne
    have hd : decB (pre ++ (c ++ l)) pre.length = (r, c.length) := by rw [decB_L, List.drop_left]; exact h1 l
    rw [runF_step (by simp; omega), hd, List.all_cons, Bool.and_eq_true]
    refine ⟨?_, ?_⟩
    · unfold okC
      by_cases hr : r = 65533
      · have hw : wholeB (pre ++ (c ++ l)) pre.length = true := by
          unfold wholeB
          rw [List.drop_left, h3 hr, List.isPrefixOf_iff_prefix]
          exact ⟨l, rfl⟩
        simp only [hw]; simp; omega
      · simp; omega
    · have := ih (pre ++ c)
      rw [List.length_append, List.append_assoc] at this
      exact this
theorem l_okW {l : List UInt8} (h : OkL l) : okW l = true := by
  have := okl_to h []
  simpa [okW] using this
theorem splitB_pre {c : UInt8} : ∀ {a : List UInt8} (l : List UInt8), c ∉ a → ∃ p r, splitB c l = p :: r ∧ splitB c (a ++ l) = (a ++ p) :: r
  | [], l, _ => by
    cases h : splitB c l with
    | nil => exact absurd h (splitB_ne c l)
    | cons p r => exact ⟨p, r, rfl, by simpa using h⟩
  | x :: a, l, h => by
    simp only [List.mem_cons, not_or] at h
    obtain ⟨p, r, h1, h2⟩ := splitB_pre l h.2
    refine ⟨p, r, h1, ?_⟩
    simp only [List.cons_append, splitB, if_neg (Ne.symm h.1), h2]
theorem splitB_whole {c : UInt8} {a : List UInt8} (h : c ∉ a) : splitB c a = [a] := by
  obtain ⟨p, r, h1, h2⟩ := splitB_pre [] h
  cases h1
  simpa using h2
theorem splitB_mem {c : UInt8} : ∀ {l w : List UInt8}, w ∈ splitB c l → c ∉ w ∧ ∀ b ∈ w, b ∈ l
  | [], w, h => by simp [splitB] at h; subst h; simp
  | x :: l, w, h => by
    simp only [splitB] at h
    split at h
    · rcases List.mem_cons.1 h with rfl | h
      · simp
      · obtain ⟨h1, h2⟩ := splitB_mem h; exact ⟨h1, fun b hb => by simp [h2 b hb]⟩
    · rename_i hx
      split at h
      · rename_i p r hs
        rcases List.mem_cons.1 h with rfl | h
        · obtain ⟨h1, h2⟩ := splitB_mem (l := l) (c := c) (w := p) (by rw [hs]; simp)
          refine ⟨by simp only [List.mem_cons, not_or]; exact ⟨Ne.symm hx, h1⟩, fun b hb => ?_⟩
          rcases List.mem_cons.1 hb with rfl | hb
          · simp
          · simp [h2 b hb]
        · obtain ⟨h1, h2⟩ := splitB_mem (l := l) (c := c) (w := w) (by rw [hs]; simp [h]); exact ⟨h1, fun b hb => by simp [h2 b hb]⟩
      · rename_i hs; exact absurd hs (splitB_ne c l)
theorem OkL.split {l : List UInt8} (h : OkL l) : ∀ w ∈ splitB 32 l, OkL w := by
  induction h with
  | nil => intro w hw; simp [splitB] at hw; subst hw; exact .nil
  | @cons c l h t ih =>
    intro w hw
    by_cases hc : 32 ∈ c
    · have : c = [32] := by
        rcases h.asc with ⟨b, rfl⟩ | h2
        · simp at hc; rw [hc]
        · have := h2 32 hc; simp at this
      subst this
      have e : splitB 32 ([32] ++ l) = [] :: splitB 32 l := by simp [splitB]
      rw [e] at hw
      rcases List.mem_cons.1 hw with rfl | hw
      · exact .nil
      · exact ih w hw
    · obtain ⟨p, r, h1, h2⟩ := splitB_pre l hc
      rw [h2] at hw
      rcases List.mem_cons.1 hw with rfl | hw
      · exact .cons h (ih p (by rw [h1]; simp))
      · exact ih w (by rw [h1]; simp [hw])
theorem ixB_app {c : UInt8} : ∀ {a : List UInt8} (l : List UInt8), c ∉ a → ixB c (a ++ c :: l) = some a.length
  | [], l, _ => by simp [ixB]
  | x :: a, l, h => by
    simp only [List.mem_cons, not_or] at h
    simp only [List.cons_append, ixB, if_neg (Ne.symm h.1), ixB_app l h.2]; simp
theorem ixB_nin {c : UInt8} : ∀ {a : List UInt8}, c ∉ a → ixB c a = none
  | [], _ => rfl
  | x :: a, h => by
    simp only [List.mem_cons, not_or] at h
    simp only [ixB, if_neg (Ne.symm h.1), ixB_nin h.2]; rfl
theorem ahead_no (l : List UInt8) : 35 ∉ aheadB l := by
  unfold aheadB
  cases h : ixB 35 l with
  | none => exact ixB_none h
  | some i =>
    intro hm
    obtain ⟨j, hj, he⟩ := List.getElem_of_mem hm
    rw [List.length_take] at hj
    have := (ixB_some h).2.2 j (by omega)
    apply this
    simp only [List.getElem_take] at he
    simp [List.getD, List.getElem?_eq_getElem (show j < l.length by omega), he]
def rejoin (ws : List (List UInt8)) : List UInt8 := (ws.map fun w => 32 :: w).flatten
theorem rejoin_snoc (ws : List (List UInt8)) (w : List UInt8) : rejoin (ws ++ [w]) = rejoin ws ++ 32 :: w := by simp [rejoin]
theorem rejoin_split : ∀ (ws : List (List UInt8)), (∀ w ∈ ws, w ≠ [] ∧ 32 ∉ w) → splitB 32 (rejoin ws ++ [32]) = [] :: (ws ++ [[]])
  | [], _ => by simp [rejoin, splitB]
  | w :: ws, h => by
    have hw := h w (by simp)
    have ih := rejoin_split ws (fun x hx => h x (by simp [hx]))
    have e : rejoin (w :: ws) ++ [32] = 32 :: (w ++ (rejoin ws ++ [32])) := by simp [rejoin]
    obtain ⟨p, r, h1, h2⟩ := splitB_pre (rejoin ws ++ [32]) hw.2
    rw [ih] at h1
    cases h1
    rw [e]
    simp only [splitB, if_true]
    rw [h2]; simp
theorem filt_id : ∀ (ws : List (List UInt8)), (∀ w ∈ ws, w ≠ []) → (ws.filter fun t => !t.isEmpty) = ws
  | [], _ => rfl
  | w :: ws, h => by
    have hw := h w (by simp)
    rw [List.filter_cons, filt_id ws (fun x hx => h x (by simp [hx]))]
    cases w with
    | nil => exact absurd rfl hw
    | cons x w => rfl
theorem words_mem {l w : List UInt8} (h : w ∈ wordsB l) : w ≠ [] ∧ 32 ∉ w ∧ (∀ b ∈ w, b ∈ l) := by
  unfold wordsB at h
  rw [List.mem_filter] at h
  have := splitB_mem h.1
  refine ⟨?_, this.1, this.2⟩
  intro e; subst e; simp at h
theorem again {l : List UInt8} (h : okW (aheadB l) = true) : okW (aheadB (rejoin (wordsB (aheadB l)) ++ [32, 35, 32, 120])) = true ∧ wordsB (aheadB (rejoin (wordsB (aheadB l)) ++ [32, 35, 32, 120])) = wordsB (aheadB l) := by
  obtain ⟨s, hs⟩ : ∃ s, aheadB l = s := ⟨_, rfl⟩
  have h35 : 35 ∉ s := by rw [← hs]; exact ahead_no l
  rw [hs] at h ⊢
  have hws : ∀ w ∈ wordsB s, w ≠ [] ∧ 32 ∉ w ∧ (∀ b ∈ w, b ∈ s) := fun w hw => words_mem hw
  have hokl : ∀ w ∈ wordsB s, OkL w := fun w hw => (okW_l h).split w (by unfold wordsB at hw; exact (List.mem_filter.1 hw).1)
  obtain ⟨ws, hW⟩ : ∃ ws, wordsB s = ws := ⟨_, rfl⟩
  rw [hW] at hws hokl ⊢
  have hno : 35 ∉ rejoin ws ++ [32] := by
    intro hm
    rw [List.mem_append] at hm
    rcases hm with hm | hm
    · unfold rejoin at hm
      rw [List.mem_flatten] at hm
      obtain ⟨x, hx, hm⟩ := hm
      obtain ⟨w, hw, rfl⟩ := List.mem_map.1 hx
      rcases List.mem_cons.1 hm with e | hm
      · simp at e
      · exact h35 ((hws w hw).2.2 35 hm)
    · simp at hm
  have ha : aheadB (rejoin ws ++ [32, 35, 32, 120]) = rejoin ws ++ [32] := by
    unfold aheadB
    rw [show rejoin ws ++ [32, 35, 32, 120] = (rejoin ws ++ [32]) ++ 35 :: [32, 120] by simp, ixB_app _ hno]
    simp only
    rw [List.take_left]
  rw [ha]
  constructor
  · apply l_okW
    refine OkL.app ?_ OkL.blank
    clear hno ha hW hws
    induction ws with
    | nil => exact .nil
    | cons w ws ih =>
      have e : rejoin (w :: ws) = [32] ++ (w ++ rejoin ws) := by simp [rejoin]
      rw [e]
      exact OkL.app .blank (OkL.app (hokl w (by simp)) (ih (fun x hx => hokl x (by simp [hx]))))
  · unfold wordsB
    rw [rejoin_split ws (fun w hw => ⟨(hws w hw).1, (hws w hw).2.1⟩)]
    rw [List.filter_cons, List.filter_append, filt_id ws (fun w hw => (hws w hw).1)]
    simp
theorem sgn_bytes {l : List UInt8} : ∀ (n p : Nat), l.length - p ≤ n → (runF l p).all (fun x => sgn x.2) = true → ∀ b ∈ l.drop p, b.toNat < 128 → sgn (b.toNat : Int) = true
  | 0, p, hn, _ => by rw [List.drop_of_length_le (by omega)]; simp
  | n + 1, p, hn, h => by
    by_cases hp : p < l.length
    · rw [runF_step hp, List.all_cons, Bool.and_eq_true] at h
      have hok : okC l (p, ((decB l p).1 : Int)) = true := by
        have h1 := h.1
        unfold sgn at h1
        simp only [Bool.and_eq_true, decide_eq_true_eq, bne_iff_ne, ne_eq] at h1
        unfold okC
        simp only [Bool.and_eq_true, Bool.not_eq_true', decide_eq_false_iff_not, Bool.and_eq_false_imp, beq_iff_eq]
        exact ⟨by omega, fun e => absurd e h1.2⟩
      obtain ⟨c, rest, h1, h2, h3, h4⟩ := ok_step hp hok
      have h0 := decB_pos (l := l) (p := p)
      have ih := sgn_bytes n (p + (decB l p).2) (by omega) h.2
      rw [h4] at ih
      rw [h1]
      intro b hb hlt
      rcases List.mem_append.1 hb with hb | hb
      · rcases h2.asc with ⟨b0, rfl⟩ | h5
        · simp at hb; subst hb
          have hd : decB l p = (b.toNat, 1) := by rw [decB_L, h1]; exact dec1 rest hlt
          have := h.1
          rw [hd] at this; exact this
        · have := h5 b hb; omega
      · exact ih b hb hlt
    · rw [List.drop_of_length_le (by omega)]; simp
theorem right_words {l : List UInt8} (h : rightB l = true) : okW (aheadB l) = true ∧ wordsB (aheadB l) = [l] := by
  unfold rightB at h
  simp only [Bool.and_eq_true, decide_eq_true_eq] at h
  have hb := sgn_bytes l.length 0 (by omega) h.1.1
  rw [List.drop_zero] at hb
  have h35 : 35 ∉ l := fun hm => by have := hb 35 hm (by decide); revert this; decide
  have h32 : 32 ∉ l := fun hm => by have := hb 32 hm (by decide); revert this; decide
  have ha : aheadB l = l := by unfold aheadB; rw [ixB_nin h35]
  rw [ha]
  constructor
  · unfold okW
    rw [List.all_eq_true] at h ⊢
    intro x hx
    have h1 := h.1.1 x hx
    unfold sgn at h1
    simp only [Bool.and_eq_true, decide_eq_true_eq, bne_iff_ne, ne_eq] at h1
    unfold okC
    simp only [Bool.and_eq_true, Bool.not_eq_true', decide_eq_false_iff_not, Bool.and_eq_false_imp, beq_iff_eq]
    exact ⟨by omega, fun e => absurd e h1.2⟩
  · unfold wordsB
    rw [splitB_whole h32]
    cases l with
    | nil => have := h.1.2; rw [runF_end (by simp)] at this; simp at this
    | cons x l => rfl
end Go.AM.Fd

set_option linter.unusedSimpArgs false
set_option linter.unusedVariables false
namespace Go.AM.Fd
open Nat (reduceAdd reduceEqDiff reduceLT reduceLeDiff reduceMul reduceSub)
open Go.Proofs Go.AM.F
theorem rejoin_len (c : UInt8) : ∀ l : List UInt8, (rejoin (splitB c l)).length = l.length + 1
  | [] => by simp [rejoin, splitB]
  | x :: l => by
    have ih := rejoin_len c l
    simp only [splitB]
    split
    · simp [rejoin] at ih ⊢; omega
    · split
      · rename_i p r hs; rw [hs] at ih; simp [rejoin] at ih ⊢; omega
      · rename_i hs; exact absurd hs (splitB_ne c l)
theorem rejoin_filter (p : List UInt8 → Bool) : ∀ ws : List (List UInt8), (rejoin (ws.filter p)).length ≤ (rejoin ws).length
  | [] => by simp [rejoin]
  | w :: ws => by
    have ih := rejoin_filter p ws
    rw [List.filter_cons]
    split
    · simp [rejoin] at ih ⊢; omega
    · simp [rejoin] at ih ⊢; omega
theorem rejoin_words (l : List UInt8) : (rejoin (wordsB l)).length ≤ l.length + 1 := by
  have h1 := rejoin_filter (fun t => !t.isEmpty) (splitB 32 l)
  have h2 := rejoin_len 32 l
  unfold wordsB
  omega
theorem rejoin_take {ws : List (List UInt8)} {i : Nat} (h : i < ws.length) : rejoin (ws.take (i + 1)) = rejoin (ws.take i) ++ [32] ++ ws.getD i [] := by
  rw [List.take_add_one, List.getElem?_eq_getElem h]
  simp only [Option.toList_some, List.getD, List.getElem?_eq_getElem h, Option.getD_some]
  rw [rejoin_snoc]; simp
theorem rejoin_le {ws : List (List UInt8)} (i : Nat) : (rejoin (ws.take i)).length ≤ (rejoin ws).length := by
  have : rejoin ws = rejoin (ws.take i) ++ rejoin (ws.drop i) := by
    unfold rejoin
    rw [← List.flatten_append, ← List.map_append, List.take_append_drop]
  rw [this, List.length_append]; omega
theorem getD_mem {w : List UInt8} {d : Nat} (h : d < w.length) : w.getD d 0 ∈ w := by
  simp only [List.getD, List.getElem?_eq_getElem h, Option.getD_some]
  exact List.getElem_mem h
theorem lawAgain : ∀ H args, NoOwn H → AVs Go.Proofs.Tryd.prog H.get [9] args → ∃ H', ARun Go.Proofs.Tryd.prog 3 6 args H (.bool true) H' := by
  intro H args hno hargs
  suffices h : ∃ w K, ARun Go.Proofs.Tryd.prog 3 6 args H w K ∧ w = .bool true by
    obtain ⟨_, K, a, rfl⟩ := h; exact ⟨K, a⟩
  match args, hargs with
  | [v], ⟨hv, _⟩ =>
    obtain ⟨l, rfl⟩ := av_str hv
    refine walk2 f6_ok f6_n ?_
    intro Q hq1 hq2
    by_cases hl : 2000 < l.length
    · have h1 : (2000 : Int) < ((l.length : Nat) : Int) := by omega
      simp (disch := first | assumption | omega | (simp only [LN] <;> omega) | (simp (disch := first | assumption | omega | (simp only [LN] <;> omega)) only [row_alloc, row_set]; assumption)) only [f6, W_block, P3, ↓reduceIte, reduceAdd, reduceEqDiff, reduceCtorEq, initFr, reduceLT, clsA, reduceLeDiff, reduceMul, reduceSub, reduceIte]
      refine callK (t12 H) ?_
      rintro _ K ⟨rfl, rfl⟩
      simp (disch := first | assumption | omega | (simp only [LN] <;> omega) | (simp (disch := first | assumption | omega | (simp only [LN] <;> omega)) only [row_alloc, row_set]; assumption)) only [W_block, P3, ↓reduceIte, reduceAdd, reduceEqDiff, reduceCtorEq, initFr, reduceLT, clsA, reduceLeDiff, reduceMul, reduceSub, reduceIte]
      exact hq2 _ _ ⟨_, rfl, rfl⟩
    have h1 : ¬ (2000 : Int) < ((l.length : Nat) : Int) := by omega
    have hal := ahead_len l
    show AM.W Go.Proofs.Tryd.prog 3 f6.body Q [.string ⟨l.toArray⟩, undef, undef, undef, undef, undef, undef, undef, undef, undef, undef, undef, undef, undef, undef, undef, undef, undef, undef] H
    refine W_part 3 (fun fr K => ∃ x2 x3 x12 x13, fr = [.string ⟨l.toArray⟩, .bool false, x2, x3, undef, undef, undef, undef, undef, undef, undef, .bool false, x12, x13, undef, undef, undef, undef, undef]) rfl ?_ ?_
    · intro Q' k1 k2 k3
      simp (disch := first | assumption | omega | (simp only [LN] <;> omega) | (simp (disch := first | assumption | omega | (simp only [LN] <;> omega)) only [row_alloc, row_set]; assumption)) only [f6, cpre, W_block, P3, ↓reduceIte, reduceAdd, reduceEqDiff, reduceCtorEq, initFr, reduceLT, clsA, reduceLeDiff, reduceMul, reduceSub, reduceIte]
      refine callK (t13 H l (by omega)) ?_
      rintro _ K ⟨rfl, rfl⟩
      cases hr : rightB l with
      | false =>
        simp (disch := first | assumption | omega | (simp only [LN] <;> omega) | (simp (disch := first | assumption | omega | (simp only [LN] <;> omega)) only [row_alloc, row_set]; assumption)) only [W_block, P3, ↓reduceIte, reduceAdd, reduceEqDiff, reduceCtorEq, initFr, reduceLT, clsA, reduceLeDiff, reduceMul, reduceSub, reduceIte]
        exact k1 _ _ ⟨_, _, _, _, rfl⟩
      | true =>
        obtain ⟨ho, hw⟩ := right_words hr
        simp (disch := first | assumption | omega | (simp only [LN] <;> omega) | (simp (disch := first | assumption | omega | (simp only [LN] <;> omega)) only [row_alloc, row_set]; assumption)) only [W_block, P3, ↓reduceIte, reduceAdd, reduceEqDiff, reduceCtorEq, initFr, reduceLT, clsA, reduceLeDiff, reduceMul, reduceSub, reduceIte]
        refine callK (t15 K l (by omega)) ?_
        rintro w K2 ⟨kk, hres⟩
        rw [ho, hw] at hres
        simp only [if_true] at hres
        obtain ⟨v1, rfl, av, _⟩ := hres
        rcases av with ⟨_, hz, _⟩ | ⟨b, room, rfl, _, hget⟩
        · simp at hz
        have e1 : ((([l].length : Nat) : Int) != 1) = false := by simp
        have hc : cellO (K2.get b) 0 = some (.string ⟨l.toArray⟩) := by rw [hget]; rfl
        have hd : decide (l = l) = true := by simp
        simp (disch := first | assumption | omega | (simp only [LN] <;> omega) | (simp (disch := first | assumption | omega | (simp only [LN] <;> omega)) only [row_alloc, row_set]; assumption)) only [W_block, P3, ↓reduceIte, reduceAdd, reduceEqDiff, reduceCtorEq, initFr, reduceLT, clsA, reduceLeDiff, reduceMul, reduceSub, reduceIte, e1, hc, bytes_eq, hd]
        exact k1 _ _ ⟨_, _, _, _, rfl⟩
    · rintro fr K ⟨x2, x3, x12, x13, rfl⟩
      simp (disch := first | assumption | omega | (simp only [LN] <;> omega) | (simp (disch := first | assumption | omega | (simp only [LN] <;> omega)) only [row_alloc, row_set]; assumption)) only [f6, cpost, W_block, P3, ↓reduceIte, reduceAdd, reduceEqDiff, reduceCtorEq, initFr, reduceLT, clsA, reduceLeDiff, reduceMul, reduceSub, reduceIte]
      refine callK (t15 K l (by omega)) ?_
      rintro w K1 ⟨k1, hw⟩
      cases ho : okW (aheadB l) with
      | false =>
        rw [ho] at hw
        simp only [Bool.false_eq_true, if_false] at hw
        subst hw
        simp (disch := first | assumption | omega | (simp only [LN] <;> omega) | (simp (disch := first | assumption | omega | (simp only [LN] <;> omega)) only [row_alloc, row_set]; assumption)) only [W_block, P3, ↓reduceIte, reduceAdd, reduceEqDiff, reduceCtorEq, initFr, reduceLT, clsA, reduceLeDiff, reduceMul, reduceSub, reduceIte]
        refine callK (t12 _) ?_
        rintro _ K ⟨rfl, rfl⟩
        simp (disch := first | assumption | omega | (simp only [LN] <;> omega) | (simp (disch := first | assumption | omega | (simp only [LN] <;> omega)) only [row_alloc, row_set]; assumption)) only [W_block, P3, ↓reduceIte, reduceAdd, reduceEqDiff, reduceCtorEq, initFr, reduceLT, clsA, reduceLeDiff, reduceMul, reduceSub, reduceIte]
        exact hq2 _ _ ⟨_, rfl, rfl⟩
      | true =>
        rw [ho] at hw
        simp only [if_true] at hw
        obtain ⟨vw, rfl, av, _⟩ := hw
        obtain ⟨ag1, ag2⟩ := again ho
        have hwl := wordsB_len (aheadB l)
        have h35 := ahead_no l
        have hmem : ∀ w ∈ wordsB (aheadB l), w ≠ [] ∧ 32 ∉ w ∧ 35 ∉ w := fun w hw => by
          obtain ⟨m1, m2, m3⟩ := words_mem hw
          exact ⟨m1, m2, fun h => h35 (m3 35 h)⟩
        have hrl := rejoin_words (aheadB l)
        obtain ⟨ws, hws⟩ : ∃ ws, wordsB (aheadB l) = ws := ⟨_, rfl⟩
        rw [hws] at av hwl hmem ag1 ag2 hrl
        have htl := AP.tl av
        have ll := htl.len
        have il := Sl.is htl
        simp (disch := first | assumption | omega | (simp only [LN] <;> omega) | (simp (disch := first | assumption | omega | (simp only [LN] <;> omega)) only [row_alloc, row_set]; assumption)) only [ P3, ↓reduceIte, reduceAdd, reduceEqDiff, reduceCtorEq, initFr, reduceLT, clsA, reduceLeDiff, reduceMul, reduceSub, reduceIte]
        rw [W_block]
        refine W_loop2 (fun k fr M => ∃ i x8 x15 x16 x17 x18, fr = [.string ⟨l.toArray⟩, .bool false, x2, x3, vw, .int .i64 0, .string ⟨(rejoin (ws.take i)).toArray⟩, .int .i64 ((i : Nat) : Int), x8, undef, undef, .bool false, x12, x13, .bool false, x15, x16, x17, x18] ∧ M = K1 ∧ i ≤ ws.length ∧ k = ws.length - i) ws.length
          ⟨0, _, _, _, _, _, rfl, rfl, by omega, rfl⟩ ?_
        rintro Q' k fr M ⟨i, x8, x15, x16, x17, x18, rfl, rfl, hi, rfl⟩ hn hx hret
        by_cases hlt : i < ws.length
        · obtain ⟨na, ra⟩ := htl.at_ hlt
          unfold tRow at ra
          have hrt := rejoin_take hlt
          have hle := rejoin_le (ws := ws) (i + 1)
          have c0 : (0 : Int) ≤ ((i : Nat) : Int) := by omega
          have c1 : ((i : Nat) : Int) < ((ws.length : Nat) : Int) := by omega
          have c2 : ((i : Nat) : Int) < ((lenS vw : Nat) : Int) := by omega
          have hwi : IntKind.i64.wrap ((i : Int) + 1) = ((i + 1 : Nat) : Int) := by rw [wrap_i64 (by omega) (by omega)]; simp
          have hmw : ws.getD i [] ∈ ws := by
            simp only [List.getD, List.getElem?_eq_getElem hlt, Option.getD_some]; exact List.getElem_mem hlt
          obtain ⟨w, hw⟩ : ∃ w, ws.getD i [] = w := ⟨_, rfl⟩
          rw [hw] at ra hrt hmw
          obtain ⟨m1, m2, m3⟩ := hmem w hmw
          have hlen : (rejoin (ws.take i)).length + 1 + w.length ≤ 2001 := by
            have h2 := congrArg List.length hrt
            rw [List.length_append, List.length_append] at h2
            simp only [List.length_cons, List.length_nil] at h2
            omega
          simp (disch := first | assumption | omega | (simp only [LN] <;> omega) | (simp (disch := first | assumption | omega | (simp only [LN] <;> omega)) only [row_alloc, row_set]; assumption)) only [ P3, ↓reduceIte, reduceAdd, reduceEqDiff, reduceCtorEq, initFr, reduceLT, clsA, reduceLeDiff, reduceMul, reduceSub, reduceIte, ll]
          rw [W_block]
          simp (disch := first | assumption | omega | (simp only [LN] <;> omega) | (simp (disch := first | assumption | omega | (simp only [LN] <;> omega)) only [row_alloc, row_set]; assumption)) only [ P3, ↓reduceIte, reduceAdd, reduceEqDiff, reduceCtorEq, initFr, reduceLT, clsA, reduceLeDiff, reduceMul, reduceSub, reduceIte]
          rw [W_block]
          refine W_loop2 (fun k fr N => ∃ d y16 y17, fr = [.string ⟨l.toArray⟩, .bool false, x2, x3, vw, .int .i64 0, .string ⟨(rejoin (ws.take i)).toArray⟩, .int .i64 ((i : Nat) : Int), .int .i64 ((d : Nat) : Int), undef, undef, .bool false, x12, x13, .bool false, .bool true, y16, y17, x18] ∧ N = M ∧ d ≤ w.length ∧ k = w.length - d) w.length
            ⟨0, _, _, rfl, rfl, by omega, rfl⟩ ?_
          rintro Q3 k fr N ⟨d, y16, y17, rfl, rfl, hd, rfl⟩ hn3 hx3 hret3
          by_cases hdn : d < w.length
          · have d1 : ((d : Nat) : Int) < ((w.length : Nat) : Int) := by omega
            have hwd : IntKind.i64.wrap ((d : Int) + 1) = ((d + 1 : Nat) : Int) := by rw [wrap_i64 (by omega) (by omega)]; simp
            have hgm := getD_mem hdn
            have e1 : ((((w.getD d 0).toNat : Nat) : Int) == 32) = false := by
              have : ((((w.getD d 0).toNat : Nat) : Int) == 32) = (w.getD d 0 == 32) := u8_eqi (w.getD d 0) 32 (by omega)
              rw [this, beq_eq_false_iff_ne]
              intro e; rw [e] at hgm; exact m2 hgm
            have e2 : ((((w.getD d 0).toNat : Nat) : Int) == 35) = false := by
              have : ((((w.getD d 0).toNat : Nat) : Int) == 35) = (w.getD d 0 == 35) := u8_eqi (w.getD d 0) 35 (by omega)
              rw [this, beq_eq_false_iff_ne]
              intro e; rw [e] at hgm; exact m3 hgm
            simp (disch := first | assumption | omega | (simp only [LN] <;> omega) | (simp (disch := first | assumption | omega | (simp only [LN] <;> omega)) only [row_alloc, row_set]; assumption)) only [W_block, P3, ↓reduceIte, reduceAdd, reduceEqDiff, reduceCtorEq, initFr, reduceLT, clsA, reduceLeDiff, reduceMul, reduceSub, reduceIte, ra, na, a_load1v, a_idxS, e1, e2, hwd]
            exact hn3 _ _ _ ⟨d + 1, _, _, rfl, rfl, by omega, rfl⟩ (by omega)
          · have d1 : ¬ ((d : Nat) : Int) < ((w.length : Nat) : Int) := by omega
            simp (disch := first | assumption | omega | (simp only [LN] <;> omega) | (simp (disch := first | assumption | omega | (simp only [LN] <;> omega)) only [row_alloc, row_set]; assumption)) only [W_block, P3, ↓reduceIte, reduceAdd, reduceEqDiff, reduceCtorEq, initFr, reduceLT, clsA, reduceLeDiff, reduceMul, reduceSub, reduceIte, ra, na, a_load1v]
            refine hx3 2 _ _ ?_
            have e3 : decide (w = []) = false := by simpa using m1
            have hb1 : binA .add (.string ⟨(rejoin (ws.take i)).toArray⟩) (.string ⟨[32].toArray⟩) = some (.string ⟨(rejoin (ws.take i) ++ [32]).toArray⟩) := b_addS (by simp; omega)
            have hb2 : binA .add (.string ⟨(rejoin (ws.take i) ++ [32]).toArray⟩) (.string ⟨w.toArray⟩) = some (.string ⟨(rejoin (ws.take i) ++ [32] ++ w).toArray⟩) := b_addS (by simp; omega)
            simp (disch := first | assumption | omega | (simp only [LN] <;> omega) | (simp (disch := first | assumption | omega | (simp only [LN] <;> omega)) only [row_alloc, row_set]; assumption)) only [W_block, P3, ↓reduceIte, reduceAdd, reduceEqDiff, reduceCtorEq, initFr, reduceLT, clsA, reduceLeDiff, reduceMul, reduceSub, reduceIte, ra, na, a_load1v, str_emp, bytes_eq, e3, hb1, hb2, hwi]
            exact hn _ _ _ ⟨i + 1, _, _, _, _, _, by rw [hrt], rfl, by omega, rfl⟩ (by omega)
        · have c1 : ¬ ((i : Nat) : Int) < ((ws.length : Nat) : Int) := by omega
          simp (disch := first | assumption | omega | (simp only [LN] <;> omega) | (simp (disch := first | assumption | omega | (simp only [LN] <;> omega)) only [row_alloc, row_set]; assumption)) only [W_block, P3, ↓reduceIte, reduceAdd, reduceEqDiff, reduceCtorEq, initFr, reduceLT, clsA, reduceLeDiff, reduceMul, reduceSub, reduceIte, ll]
          refine hx 0 _ _ ?_
          rw [List.take_of_length_le (by omega : ws.length ≤ i)]
          have hb3 : binA .add (.string ⟨(rejoin ws).toArray⟩) (.string ⟨[32, 35, 32, 120].toArray⟩) = some (.string ⟨(rejoin ws ++ [32, 35, 32, 120]).toArray⟩) := b_addS (by simp; omega)
          simp (disch := first | assumption | omega | (simp only [LN] <;> omega) | (simp (disch := first | assumption | omega | (simp only [LN] <;> omega)) only [row_alloc, row_set]; assumption)) only [W_block, P3, ↓reduceIte, reduceAdd, reduceEqDiff, reduceCtorEq, initFr, reduceLT, clsA, reduceLeDiff, reduceMul, reduceSub, reduceIte, hb3]
          refine callK (t15 M (rejoin ws ++ [32, 35, 32, 120]) (by simp; omega)) ?_
          rintro w2 K2 ⟨k2, hw2⟩
          rw [ag1, ag2] at hw2
          simp only [if_true] at hw2
          obtain ⟨v2, rfl, av2, _⟩ := hw2
          simp (disch := first | assumption | omega | (simp only [LN] <;> omega) | (simp (disch := first | assumption | omega | (simp only [LN] <;> omega)) only [row_alloc, row_set]; assumption)) only [W_block, P3, ↓reduceIte, reduceAdd, reduceEqDiff, reduceCtorEq, initFr, reduceLT, clsA, reduceLeDiff, reduceMul, reduceSub, reduceIte]
          refine callK (t17 (htl.keeps k2) (AP.tl av2) (by omega)) ?_
          rintro _ K3 ⟨rfl, rfl⟩
          have he : decide (ws = ws) = true := by simp
          simp (disch := first | assumption | omega | (simp only [LN] <;> omega) | (simp (disch := first | assumption | omega | (simp only [LN] <;> omega)) only [row_alloc, row_set]; assumption)) only [W_block, P3, ↓reduceIte, reduceAdd, reduceEqDiff, reduceCtorEq, initFr, reduceLT, clsA, reduceLeDiff, reduceMul, reduceSub, reduceIte, he]
          refine callK (t12 _) ?_
          rintro _ K4 ⟨rfl, rfl⟩
          simp (disch := first | assumption | omega | (simp only [LN] <;> omega) | (simp (disch := first | assumption | omega | (simp only [LN] <;> omega)) only [row_alloc, row_set]; assumption)) only [W_block, P3, ↓reduceIte, reduceAdd, reduceEqDiff, reduceCtorEq, initFr, reduceLT, clsA, reduceLeDiff, reduceMul, reduceSub, reduceIte]
          exact hq2 _ _ ⟨_, rfl, rfl⟩
end Go.AM.Fd
