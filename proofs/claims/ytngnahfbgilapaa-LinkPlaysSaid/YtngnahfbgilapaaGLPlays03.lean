/- Part of the proof. -/
import Derived.Test.YtngnahfbgilapaaGLPlays02
import Derived.Test.YtngnahfbgilapaaProg
import Derived.KernelRfl
set_option linter.unusedSimpArgs false
set_option linter.unusedVariables false
set_option linter.unusedSimpArgs false
set_option linter.unusedVariables false
namespace Go.AM
theorem ofI (n a : Nat) : BitVec.ofInt n (a : Int) = BitVec.ofNat n a := BitVec.ofInt_natCast ..
theorem bv_xor (n a b : Nat) : (BitVec.ofInt n (a : Int) ^^^ BitVec.ofInt n (b : Int)).toNat = (a ^^^ b) % 2 ^ n := by
  rw [ofI, ofI, BitVec.toNat_xor, BitVec.toNat_ofNat, BitVec.toNat_ofNat, Nat.xor_mod_two_pow]
theorem bv_and (n a b : Nat) : (BitVec.ofInt n (a : Int) &&& BitVec.ofInt n (b : Int)).toNat = (a &&& b) % 2 ^ n := by
  rw [ofI, ofI, BitVec.toNat_and, BitVec.toNat_ofNat, BitVec.toNat_ofNat, Nat.and_mod_two_pow]
def uk (k : IntKind) : Bool := !k.signed
theorem wrapU {k : IntKind} (h : uk k = true) (n : Nat) (hn : n < 2 ^ k.bits) : k.wrap (n : Int) = n := by
  cases k <;> simp [uk, IntKind.signed] at h <;> simp [IntKind.wrap, IntKind.bits, IntKind.signed] at hn ⊢ <;> omega
theorem w_xor {k : IntKind} (hk : uk k = true) {a b : Nat} (ha : a < 2 ^ k.bits) (hb : b < 2 ^ k.bits) : k.wrap ((BitVec.ofInt k.bits (a : Int) ^^^ BitVec.ofInt k.bits (b : Int)).toNat : Int) = ((a ^^^ b : Nat) : Int) := by
  rw [bv_xor, Nat.mod_eq_of_lt (Nat.xor_lt_two_pow ha hb), wrapU hk _ (Nat.xor_lt_two_pow ha hb)]
theorem w_and {k : IntKind} (hk : uk k = true) {a b : Nat} (ha : a < 2 ^ k.bits) : k.wrap ((BitVec.ofInt k.bits (a : Int) &&& BitVec.ofInt k.bits (b : Int)).toNat : Int) = ((a &&& b : Nat) : Int) := by
  have : a &&& b < 2 ^ k.bits := Nat.lt_of_le_of_lt Nat.and_le_left ha
  rw [bv_and, Nat.mod_eq_of_lt this, wrapU hk _ this]
theorem w_xor32 {a b : Nat} (ha : a < 4294967296) (hb : b < 4294967296) : IntKind.u32.wrap ((BitVec.ofInt IntKind.u32.bits (a : Int) ^^^ BitVec.ofInt IntKind.u32.bits (b : Int)).toNat : Int) = ((a ^^^ b : Nat) : Int) := w_xor (k := .u32) rfl ha hb
theorem w_xor8 {a b : Nat} (ha : a < 256) (hb : b < 256) : IntKind.u8.wrap ((BitVec.ofInt IntKind.u8.bits (a : Int) ^^^ BitVec.ofInt IntKind.u8.bits (b : Int)).toNat : Int) = ((a ^^^ b : Nat) : Int) := w_xor (k := .u8) rfl ha hb
theorem w_and1 {k : IntKind} (hk : uk k = true) {a : Nat} (ha : a < 2 ^ k.bits) : k.wrap ((BitVec.ofInt k.bits (a : Int) &&& BitVec.ofInt k.bits 1).toNat : Int) = ((a % 2 : Nat) : Int) := by
  have := w_and hk (b := 1) ha
  rw [Nat.and_one_is_mod] at this; exact this
theorem b_shrN {k k' : IntKind} {n s : Nat} (h : s ≤ k.bits) : binA .shr (.int k (n : Int)) (.int k' (s : Int)) = some (.int k ((n / 2 ^ s : Nat) : Int)) := by
  rw [b_shr _ _ _ _ (Int.natCast_nonneg s), Int.toNat_natCast, Nat.min_eq_left h, Int.fdiv_eq_ediv_of_nonneg _ (Int.le_of_lt (Int.pow_pos (by omega)))]
  simp
theorem a_uxor {H : AHeap} {k : IntKind} {n : Int} : asem (.un .xor (.int k n)) H = some (.int k (k.wrap (BitVec.ofInt k.bits (if k.signed then -1 else k.max) ^^^ BitVec.ofInt k.bits n).toNat), H) := _root_.id rfl
def BQ (H : AHeap) (v : Value) (l : List UInt8) : Prop :=
  (v = .slice none 0 0 ∧ l = []) ∨ (∃ b o z, v = .slice (some ⟨b, o, some z⟩) 0 0 ∧ l = []) ∨
    ∃ b o k own room esz c e, v = slc b o l.length k ∧ l.length ≤ k ∧ H.get b = some (.cells own room esz c e) ∧ (esz = 1 ∨ room = false) ∧ (c.drop o).take l.length = cellsOf l ∧ o + l.length ≤ c.length
theorem BQ.bs {H : AHeap} {v : Value} {l : List UInt8} (h : BQ H v l) : BS H v l := by
  rcases h with ⟨rfl, rfl⟩ | ⟨b, o, z, rfl, rfl⟩ | ⟨b, o, k, own, room, esz, c, e, rfl, h1, h2, h3, h4, h5⟩
  · exact BS.nil H
  · exact ⟨⟨_, _, rfl⟩, by simp [elemsA, cellsOf]⟩
  · refine ⟨⟨_, _, rfl⟩, ?_⟩
    simp only [elemsA, slc, h2, Nat.mul_one]
    rw [if_pos h5, h4]
def tb : Value → List Nat
  | .slice (some ⟨b, _, none⟩) _ _ => [b]
  | _ => []
theorem BQ.tbl {H : AHeap} {v : Value} {l : List UInt8} (h : BQ H v l) : ∀ b ∈ tb v, b < H.n := by
  rcases h with ⟨rfl, rfl⟩ | ⟨b, o, z, rfl, rfl⟩ | ⟨b, o, k, own, room, esz, c, e, rfl, h1, h2, h3, h4, h5⟩
  · simp [tb]
  · simp [tb]
  · intro x hx; simp [tb, slc] at hx; subst hx; exact AHeap.get_lt h2
theorem BQ.chg {H H' : AHeap} {v : Value} {l : List UInt8} {S : List Nat} (h : BQ H v l) (k : Chg S H H') (hS : ∀ b ∈ tb v, b ∉ S) : BQ H' v l := by
  rcases h with h | h | ⟨b, o, kk, own, room, esz, c, e, rfl, h1, h2, h3, h4, h5⟩
  · exact .inl h
  · exact .inr (.inl h)
  · exact .inr (.inr ⟨b, o, kk, own, room, esz, c, e, rfl, h1, k.at_ h2 (hS b (by simp [tb, slc])), h3, h4, h5⟩)
theorem touch_sl (s : Nat) (v : Value) (a b c : Option Value) (X : AHeap) : touchA (.slsl s v a b c) X = tb v := by
  unfold touchA
  have : clsA (.slsl s v a b c) = 1 := rfl
  rw [if_pos this]
  cases v <;> try rfl
  rename_i a n k
  cases a with
  | none => rfl
  | some a =>
    obtain ⟨b, o, z⟩ := a
    cases z <;> rfl
theorem tb_older {v : Value} {H : AHeap} (h : ∀ b ∈ tb v, b < H.n) : olderB (tb v) H := by
  unfold tb at *
  split
  · exact ⟨h _ (by simp), trivial⟩
  · trivial
theorem tb_keeps {v : Value} {S : List Nat} {H H' : AHeap} (h : ∀ b ∈ tb v, b < H.n ∧ b ∉ S) (k : Chg S H H') : keepsB (tb v) H H' := by
  unfold tb at *
  split
  · rename_i b _ _ _
    have := h b (by simp)
    exact ⟨k.get _ this.1 this.2, trivial⟩
  · trivial
theorem BQ.keeps {H H' : AHeap} {v : Value} {l : List UInt8} (h : BQ H v l) (k : Keeps H H') : BQ H' v l := h.chg (k.chg []) (by simp)
theorem AP.bq {H : AHeap} {e : Nat} {v : Value} {n : Nat} {l : List UInt8} (h : AP H e 1 v n (cellsOf l)) : BQ H v l := by
  rcases h with ⟨rfl, rfl, h2⟩ | ⟨b, room, rfl, h1, h2⟩
  · have := congrArg List.length h2
    rw [cellsOf_length] at this
    exact .inl ⟨rfl, List.length_eq_zero_iff.1 this⟩
  · rw [cellsOf_length, Nat.mul_one] at h1
    subst h1
    exact .inr (.inr ⟨b, 0, l.length, true, room, 1, _, e, rfl, Nat.le_refl _, h2, .inl rfl, by rw [List.drop_zero, List.take_of_length_le (by rw [cellsOf_length]; omega)], by rw [cellsOf_length]; omega⟩)
theorem BQ.cut {H : AHeap} {v : Value} {l : List UInt8} (h : BQ H v l) {lo hi : Option Value} {i j : Nat} (hij : i ≤ j) (hj : j ≤ l.length) (h1 : ∀ k, l.length ≤ k → bndA hi l.length k = some j) (h2 : bndA lo 0 j = some i) :
    ∃ w, asem (.slsl 1 v lo hi none) H = some (w, H) ∧ BQ H w ((l.drop i).take (j - i)) := by
  rcases h with ⟨rfl, rfl⟩ | ⟨b, o, z, rfl, rfl⟩ | ⟨b, o, k, own, room, esz, c, e, rfl, p1, p2, p3, p4, p5⟩
  · have hj0 : j = 0 := by simpa using hj
    have hi0 : i = 0 := by omega
    subst hj0; subst hi0
    exact ⟨_, a_slsl_nil ⟨0, 0, 0, bnd_none 0 0, h1 0 (Nat.le_refl _), h2⟩, .inl ⟨rfl, rfl⟩⟩
  · have hj0 : j = 0 := by simpa using hj
    have hi0 : i = 0 := by omega
    subst hj0; subst hi0
    refine ⟨.slice (some ⟨b, o, some z⟩) 0 0, ?_, .inr (.inl ⟨b, o, z, rfl, rfl⟩)⟩
    have := h1 0 (Nat.le_refl _)
    simp only [List.length_nil] at this
    simp only [asem, bnd_none, this, h2]
    simp
  · refine ⟨slc b (o + i) (j - i) (k - i), ?_, ?_⟩
    · have := h1 k p1
      simp only [asem, slc, bnd_none, this, h2, p2, Nat.mul_one]
      rw [if_pos p3]
    · have hl : ((l.drop i).take (j - i)).length = j - i := by rw [List.length_take, List.length_drop]; omega
      refine .inr (.inr ⟨b, o + i, k - i, own, room, esz, c, e, by rw [hl], by rw [hl]; omega, p2, p3, ?_, by rw [hl]; omega⟩)
      rw [hl]
      have e1 : cellsOf ((l.drop i).take (j - i)) = ((cellsOf l).drop i).take (j - i) := by simp [cellsOf, List.map_take, List.map_drop]
      rw [e1, ← p4, ← List.drop_drop, List.drop_take, List.take_take]
      congr 1
      omega
theorem BQ.from_ {H : AHeap} {v : Value} {l : List UInt8} (h : BQ H v l) {k : IntKind} (i : Nat) (hi : i ≤ l.length) : ∃ w, asem (.slsl 1 v (some (.int k (i : Nat))) none none) H = some (w, H) ∧ BQ H w (l.drop i) := by
  obtain ⟨w, h1, h2⟩ := h.cut (hi := none) (lo := some (.int k (i : Nat))) (i := i) (j := l.length) hi (Nat.le_refl _) (fun _ _ => bnd_none _ _) (bnd_some k i 0 l.length hi)
  exact ⟨w, h1, by rwa [List.take_of_length_le (by rw [List.length_drop]; omega)] at h2⟩
theorem BQ.to_ {H : AHeap} {v : Value} {l : List UInt8} (h : BQ H v l) {k : IntKind} (j : Nat) (hj : j ≤ l.length) : ∃ w, asem (.slsl 1 v none (some (.int k (j : Nat))) none) H = some (w, H) ∧ BQ H w (l.take j) := by
  obtain ⟨w, h1, h2⟩ := h.cut (hi := some (.int k (j : Nat))) (lo := none) (i := 0) (j := j) (by omega) hj (fun m hm => bnd_some k j l.length m (by omega)) (bnd_none 0 j)
  exact ⟨w, h1, by simpa using h2⟩
theorem BQ.mid {H : AHeap} {v : Value} {l : List UInt8} (h : BQ H v l) {k k' : IntKind} (i j : Nat) (hi : i ≤ j) (hj : j ≤ l.length) : ∃ w, asem (.slsl 1 v (some (.int k (i : Nat))) (some (.int k' (j : Nat))) none) H = some (w, H) ∧ BQ H w ((l.drop i).take (j - i)) :=
  h.cut (hi := some (.int k' (j : Nat))) (lo := some (.int k (i : Nat))) hi hj (fun m hm => bnd_some k' j l.length m (by omega)) (bnd_some k i 0 j hi)
theorem AR.bq {P : Program} {t e : Nat} {H : AHeap} {v : Value} (hu : P.underlying t = some (.slice e)) (hu5 : P.underlying e = some (.int .u8)) (hz : P.cellsOf e = 1) (h : AR P H.get t [v]) : ∃ l, BQ H v l := by
  rcases h.slice_inv hu with h2 | ⟨x, hx, h2⟩ | ⟨b, n, k, c, u, h2, h3, h4, h5, h6, h7, h8⟩
  · cases h2; exact ⟨[], .inl ⟨rfl, rfl⟩⟩
  · cases h2
    obtain ⟨b, o, s⟩ := x
    cases s with
    | none => simp at hx
    | some s => exact ⟨[], .inr (.inl ⟨_, _, _, rfl, rfl⟩)⟩
  · cases h2
    obtain ⟨l, rfl⟩ := AR.bytes hu5 hz k c h7 h8
    rw [cellsOf_length, hz] at h7
    rw [hz] at h6
    have hl : (l.take n).length = n := by rw [List.length_take]; omega
    exact ⟨l.take n, .inr (.inr ⟨b, 0, k, false, false, 1, _, _, by rw [hl], by rw [hl]; exact h4, h6, .inr rfl, by rw [hl]; simp [cellsOf, List.map_take], by rw [hl, cellsOf_length]; omega⟩)⟩
theorem el_tbl {H : AHeap} {esz : Nat} {v : Value} {l : List Value} (h : elemsA H esz v = some l) : ∀ b ∈ tb v, b < H.n := by
  intro b hb
  unfold tb at hb
  split at hb
  · rename_i x o n k
    simp only [List.mem_singleton] at hb; subst hb
    simp only [elemsA] at h
    cases hg : H.get b with
    | none => rw [hg] at h; cases h
    | some ob => exact AHeap.get_lt hg
  · cases hb
theorem el_get {H H' : AHeap} {esz : Nat} {v : Value} {l : List Value} (h : elemsA H esz v = some l) (k : ∀ b ∈ tb v, b < H.n → H'.get b = H.get b) : elemsA H' esz v = some l := by
  have ht := el_tbl h
  unfold elemsA at h ⊢
  split
  · exact h
  · rename_i b o n k2
    have hb : b ∈ tb (.slice (some ⟨b, o, none⟩) n k2) := by simp [tb]
    rw [k b hb (ht b hb)]; exact h
  · exact h
  · simp at h
theorem Sl.tbl {H : AHeap} {esz : Nat} {v : Value} {rows : List (List Value)} (h : Sl H esz v rows) : ∀ b ∈ tb v, b < H.n := el_tbl h.el
theorem Sl.chgT {H H' : AHeap} {esz : Nat} {v : Value} {rows : List (List Value)} {S : List Nat} (h : Sl H esz v rows) (k : Chg S H H') (hS : ∀ b ∈ tb v, b ∉ S) : Sl H' esz v rows :=
  ⟨h.sh, h.row, el_get h.el fun b hb hn => k.get b hn (hS b hb)⟩
theorem BS.tbl {H : AHeap} {v : Value} {l : List UInt8} (h : BS H v l) : ∀ b ∈ tb v, b < H.n := el_tbl h.el
theorem BS.chgT {H H' : AHeap} {v : Value} {l : List UInt8} {S : List Nat} (h : BS H v l) (k : Chg S H H') (hS : ∀ b ∈ tb v, b ∉ S) : BS H' v l :=
  ⟨h.sh, el_get h.el fun b hb hn => k.get b hn (hS b hb)⟩
theorem resCT {H : AHeap} (n i j : Nat) (fr : List Value) : resO [.cn n i, .t j] fr H = (celln n (fr.getD i undef) H).map fun c => .tuple #[c, fr.getD j undef] := by
  simp only [resO, resVs, RX.get]
  cases celln n (fr.getD i undef) H <;> rfl
theorem Chg1.tr {r : Nat} {A B C : AHeap} (h : Chg [r] A B) (k : Chg [r] B C) : Chg [r] A C := h.trans k (fun x hx => .inl hx)
theorem tb_blk {v : Value} {b : Nat} (h : b ∈ tb v) : blk v = some b := by
  unfold tb at h
  split at h
  · simp only [List.mem_singleton] at h; subst h; rfl
  · cases h
theorem Fresh.tb {n : Nat} {v : Value} (h : Fresh n v) : ∀ b ∈ Go.AM.tb v, n ≤ b := fun b hb => h b (tb_blk hb)
end Go.AM

set_option linter.unusedSimpArgs false
set_option linter.unusedVariables false
namespace Go.AM
def via (ρ : Nat → Option Nat) (σ : Sg) : Sg := fun b => (ρ b).bind σ
theorem via_of {ρ : Nat → Option Nat} {σ : Sg} {b c : Nat} {i : BI} (h : ρ b = some c) (k : σ c = some i) : via ρ σ b = some i := by
  unfold via; rw [h]; exact k
theorem via_inv {ρ : Nat → Option Nat} {σ : Sg} {b : Nat} {i : BI} (h : via ρ σ b = some i) : ∃ c, ρ b = some c ∧ σ c = some i := by
  unfold via at h
  cases hb : ρ b with
  | none => rw [hb] at h; cases h
  | some c => rw [hb] at h; exact ⟨c, rfl, h⟩
inductive NV (ρ : Nat → Option Nat) : Value → Value → Prop
  | bool (b : Bool) : NV ρ (.bool b) (.bool b)
  | int (k : IntKind) (n : Int) : NV ρ (.int k n) (.int k n)
  | string (s : ByteArray) : NV ρ (.string s) (.string s)
  | nilPtr : NV ρ (.pointer none) (.pointer none)
  | ptr {b c o : Nat} (h : ρ b = some c) : NV ρ (.pointer (some ⟨b, o, none⟩)) (.pointer (some ⟨c, o, none⟩))
  | nilSl : NV ρ (.slice none 0 0) (.slice none 0 0)
  | sl {b c o n k : Nat} (h : ρ b = some c) : NV ρ (.slice (some ⟨b, o, none⟩) n k) (.slice (some ⟨c, o, none⟩) n k)
  | slz {x : Addr} (hx : x.spot.isSome = true) : NV ρ (.slice (some x) 0 0) (.slice (some x) 0 0)
  | nilMap : NV ρ (.map none) (.map none)
  | map {b c : Nat} (h : ρ b = some c) : NV ρ (.map (some b)) (.map (some c))
  | func (fn : Fn) (xs xs' ys ys' : Array Value) (h1 : xs.size = xs'.size) (h2 : ∀ i (a : i < xs.size) (b : i < xs'.size), NV ρ xs[i] xs'[i])
      (h3 : ys.size = ys'.size) (h4 : ∀ i (a : i < ys.size) (b : i < ys'.size), NV ρ ys[i] ys'[i]) : NV ρ (.func fn xs ys) (.func fn xs' ys')
  | nilFunc : NV ρ .nilFunc .nilFunc
  | iface (t : TypeId) {v v' : Value} (h : NV ρ v v') : NV ρ (.iface t v) (.iface t v')
  | nilIface : NV ρ .nilIface .nilIface
  | agg (xs xs' : Array Value) (h1 : xs.size = xs'.size) (h2 : ∀ i (a : i < xs.size) (b : i < xs'.size), NV ρ xs[i] xs'[i]) : NV ρ (.agg xs) (.agg xs')
  | tuple (xs xs' : Array Value) (h1 : xs.size = xs'.size) (h2 : ∀ i (a : i < xs.size) (b : i < xs'.size), NV ρ xs[i] xs'[i]) : NV ρ (.tuple xs) (.tuple xs')
inductive NL (ρ : Nat → Option Nat) : List Value → List Value → Prop
  | nil : NL ρ [] []
  | cons {v v' : Value} {l l' : List Value} (h : NV ρ v v') (t : NL ρ l l') : NL ρ (v :: l) (v' :: l')
theorem NV.via {ρ : Nat → Option Nat} {σ : Sg} {a b : Value} (h : NV ρ a b) : ∀ {c : Value}, VR σ b c → VR (AM.via ρ σ) a c := by
  induction h with
  | bool b => intro c k; cases k; exact .bool _
  | int k n => intro c k; cases k; exact .int _ _
  | string s => intro c k; cases k; exact .string _
  | nilPtr => intro c k; cases k; exact .nilPtr
  | ptr e => intro c k; cases k with | ptr e2 => exact .ptr (via_of e e2)
  | nilSl => intro c k; cases k; exact .nilSl
  | sl e =>
    intro c k
    cases k with
    | sl e2 hn2 hk2 => exact .sl (via_of e e2) hn2 hk2
    | sl0 e2 => exact .sl0 (via_of e e2)
    | slz hx => simp at hx
  | slz hx =>
    intro c k
    cases k with
    | sl e2 hn2 hk2 => simp at hx
    | sl0 e2 => exact .slz hx
    | slz _ => exact .slz hx
  | nilMap => intro c k; cases k; exact .nilMap
  | map e => intro c k; cases k with | map e2 => exact .map (via_of e e2)
  | func fn xs xs' ys ys' h1 _ h3 _ i2 i4 =>
    intro c k
    cases k with
    | func _ _ zs _ us g1 g2 g3 g4 => exact .func fn xs zs ys us (by omega) (fun i a b => i2 i a (by omega) (g2 i (by omega) b)) (by omega) (fun i a b => i4 i a (by omega) (g4 i (by omega) b))
  | nilFunc => intro c k; cases k; exact .nilFunc
  | iface t _ ih => intro c k; cases k with | iface _ k => exact .iface t (ih k)
  | nilIface => intro c k; cases k; exact .nilIface
  | agg xs xs' h1 _ ih =>
    intro c k
    cases k with
    | agg _ zs g1 g2 => exact .agg xs zs (by omega) (fun i a b => ih i a (by omega) (g2 i (by omega) b))
  | tuple xs xs' h1 _ ih =>
    intro c k
    cases k with
    | tuple _ zs g1 g2 => exact .tuple xs zs (by omega) (fun i a b => ih i a (by omega) (g2 i (by omega) b))
theorem NL.via {ρ : Nat → Option Nat} {σ : Sg} {a b : List Value} (h : NL ρ a b) : ∀ {c : List Value}, VL σ b c → VL (AM.via ρ σ) a c := by
  induction h with
  | nil => intro c k; cases k; exact .nil
  | cons h _ ih => intro c k; cases k with | cons k1 k2 => exact .cons (h.via k1) (ih k2)
theorem NL.length {ρ : Nat → Option Nat} {a b : List Value} (h : NL ρ a b) : a.length = b.length := by
  induction h with
  | nil => rfl
  | cons _ _ ih => simp [ih]
theorem NL.one {ρ : Nat → Option Nat} {a b : List Value} (h : NL ρ a b) (hb : ∀ v ∈ b, v.oneCell' = true) : ∀ v ∈ a, v.oneCell' = true := by
  induction h with
  | nil => simp
  | cons h _ ih =>
    intro v hv
    rcases List.mem_cons.1 hv with rfl | hv
    · have := hb _ (List.mem_cons_self ..)
      cases h <;> first | exact this | rfl
    · exact ih (fun v hv => hb v (List.mem_cons_of_mem _ hv)) v hv
def AOr (ρ : Nat → Option Nat) (a b : AO) : Prop := match a with
  | .dead => True
  | .cells own room esz c e => ∃ own' c', b = .cells own' room esz c' e ∧ (own = true → own' = true) ∧ NL ρ c c'
  | .obj own o => ∃ own', b = .obj own' o ∧ (own = true → own' = true)
theorem AOr.own {ρ : Nat → Option Nat} {a b : AO} (h : AOr ρ a b) (ha : a.own = true) : b.own = true := by
  cases a with
  | dead => cases ha
  | cells own room esz c e => obtain ⟨own', c', rfl, h1, _⟩ := h; exact h1 ha
  | obj own o => obtain ⟨own', rfl, h1⟩ := h; exact h1 ha
theorem AOr.live {ρ : Nat → Option Nat} {a b : AO} (h : AOr ρ a b) (ha : a.live = true) : b.live = true := by
  cases a with
  | dead => cases ha
  | cells own room esz c e => obtain ⟨own', c', rfl, h1, _⟩ := h; rfl
  | obj own o => obtain ⟨own', rfl, h1⟩ := h; rfl
theorem AOr.or {ρ : Nat → Option Nat} {a b : AO} (h : AOr ρ a b) {σ : Sg} {w : World} {i : BI} (k : OR σ w i b) : OR (AM.via ρ σ) w i a := by
  cases a with
  | dead => trivial
  | cells own room esz c e =>
    obtain ⟨own', c', rfl, h1, h2⟩ := h
    obtain ⟨a1, a2, a3, a4, a9, d, fr, a5, a6, a7, a8⟩ := k
    have hl := h2.length
    exact ⟨by rw [hl]; exact a1, a2, a3, by rw [hl]; exact a4, h2.one a9, d, fr, a5, a6, by rw [hl]; exact h2.via a7, fun ho => a8 (h1 ho)⟩
  | obj own o => obtain ⟨own', rfl, h1⟩ := h; exact k
variable {P : Program} {ng : Nat} {f : FuncId} {args : List Value} {H H' H'' : AHeap} {v v'' : Value}
def Stood (ng : Nat) (args : List Value) (H : AHeap) (v : Value) : Prop := ∀ (σ : Sg) (w : World) (args' : List Value), HR ng σ H.get w → VL σ args args' → ∃ x, VR σ v x
theorem ARun.gc (h : ARun P ng f args H v H') (ρ : Nat → Option Nat) (hn : H.n ≤ H''.n)
    (r0 : ∀ b, b < H.n → ρ b = some b) (r1 : ∀ b c, ρ b = some c → b < H''.n ∧ (H.n ≤ b → H.n ≤ c)) (ri : ∀ b1 b2 c, ρ b1 = some c → ρ b2 = some c → b1 = b2)
    (ro : ∀ b c o', ρ b = some c → H'.get c = some o' → (b = c ∧ b < H.n ∧ H.get b = some o' ∧ H''.get b = some o') ∨ ∃ o'', H''.get b = some o'' ∧ AOr ρ o'' o')
    (rv : (v'' = v ∧ Stood ng args H v) ∨ NV ρ v'' v) : ARun P ng f args H v'' H'' := by
  obtain ⟨h0, h1, h2⟩ := h
  refine ⟨h0, hn, fun σ w args' hr ha => ?_⟩
  refine (h2 σ w args' hr ha).mono ?_
  rintro e w' ⟨v', σ', rfl, k1, k2, k3⟩
  have old : ∀ b i, σ b = some i → b < H.n := fun b i hb => by
    obtain ⟨o, g, _⟩ := hr.obj b i hb
    exact AHeap.get_lt g
  have sub : σ.le (AM.via ρ σ') := fun b i hb => via_of (r0 b (old b i hb)) (k2.sub b i hb)
  have back : ∀ b i, b < H.n → σ' b = some i → σ b = some i := fun b i hb hs => by
    cases hsb : σ b with
    | none => have := (k2.new b i hsb hs).1.1; omega
    | some j => have := k2.sub b j hsb; rw [hs] at this; exact this.symm
  have meet_le : (meet σ' σ).le (AM.via ρ σ') := fun b i hb => by
    unfold meet at hb
    split at hb
    · rename_i hs
      obtain ⟨j, hj⟩ := Option.isSome_iff_exists.1 hs
      exact via_of (r0 b (old b j hj)) hb
    · cases hb
  have obj : ∀ b i, AM.via ρ σ' b = some i → ∃ c o'' o', ρ b = some c ∧ σ' c = some i ∧ H''.get b = some o'' ∧ H'.get c = some o' ∧ OR (AM.via ρ σ') w' i o'' ∧ (o''.own = true → o'.own = true) ∧ (o''.live = true → o'.live = true) := by
    intro b i hb
    obtain ⟨c, hc, hs⟩ := via_inv hb
    obtain ⟨o', g1, g2⟩ := k1.obj c i hs
    rcases ro b c o' hc g1 with ⟨rfl, hlt, e1, e2⟩ | ⟨o'', e1, e2⟩
    · refine ⟨b, o', o', hc, hs, e2, g1, ?_, fun x => x, fun x => x⟩
      have hsb := back b i hlt hs
      obtain ⟨o2, f1, f2⟩ := hr.obj b i hsb
      rw [e1] at f1; cases f1
      exact (g2.meet f2).mono meet_le
    · exact ⟨c, o'', o', hc, hs, e1, g1, e2.or g2, e2.own, e2.live⟩
  refine ⟨v', AM.via ρ σ', rfl, ⟨?_, ?_, ?_, ?_⟩, ⟨sub, ?_, ?_, ?_, k2.keep, k2.size, hn, k2.os, k2.tape, k2.output⟩, ?_⟩
  · intro b i hb
    obtain ⟨c, o'', o', _, _, e1, _, e2, _⟩ := obj b i hb
    exact ⟨o'', e1, e2⟩
  · intro b1 b2 i1 i2 o1 o2 hne hb1 hb2 ho1 ho2 hw hl
    obtain ⟨c1, p1, q1, a1, a2, a3, a4, _, a5, _⟩ := obj b1 i1 hb1
    obtain ⟨c2, p2, q2, d1, d2, d3, d4, _, _, d6⟩ := obj b2 i2 hb2
    rw [ho1] at a3; cases a3
    rw [ho2] at d3; cases d3
    exact k1.inj c1 c2 i1 i2 q1 q2 (fun hc => by subst hc; exact hne (ri b1 b2 c1 a1 d1)) a2 d2 a4 d4 (a5 hw) (d6 hl)
  · intro b i hb
    obtain ⟨c, _, hs⟩ := via_inv hb
    exact k1.lt c i hs
  · intro g hg
    obtain ⟨i, g1, g2, g3⟩ := hr.glob g hg
    exact ⟨i, sub g i g1, g2, g3⟩
  · intro b i hb hs
    obtain ⟨c, hc, hs'⟩ := via_inv hs
    by_cases hlt : b < H.n
    · have := r0 b hlt
      rw [hc] at this; cases this
      rw [back b i hlt hs'] at hb; cases hb
    · have hcn := (r1 b c hc).2 (by omega)
      have hsc : σ c = none := by
        cases hsc : σ c with
        | none => rfl
        | some j => have := old c j hsc; omega
      exact ⟨⟨by omega, (r1 b c hc).1⟩, (k2.new c i hsc hs').2⟩
  · intro b i o'' hb ho hw
    obtain ⟨c, p1, q1, a1, a2, a3, a4, _, a5, _⟩ := obj b i (sub b i hb)
    rw [r0 b (old b i hb)] at a1; cases a1
    rw [ho] at a3; cases a3
    exact k2.own b i q1 hb a4 (a5 hw)
  · intro b i o'' hb ho hw
    obtain ⟨c, p1, q1, a1, a2, a3, a4, _, _, a6⟩ := obj b i (sub b i hb)
    rw [r0 b (old b i hb)] at a1; cases a1
    rw [ho] at a3; cases a3
    exact k2.live b i q1 hb a4 (a6 hw)
  · rcases rv with ⟨rfl, hst⟩ | hrv
    · obtain ⟨x, hx⟩ := hst σ w args' hr ha
      exact (k3.meet hx).mono meet_le
    · exact hrv.via k3
theorem NV.plain {ρ : Nat → Option Nat} {v : Value} (h : plain1 v = true) : NV ρ v v := by
  unfold plain1 at h
  split at h <;> first | constructor | cases h
theorem NL.plain {ρ : Nat → Option Nat} : ∀ {l : List Value}, l.all plain1 = true → NL ρ l l
  | [], _ => .nil
  | v :: l, h => by
    simp only [List.all_cons, Bool.and_eq_true] at h
    exact .cons (NV.plain h.1) (NL.plain h.2)
theorem NL.get {ρ : Nat → Option Nat} {l l' : List Value} (h : NL ρ l l') : ∀ (i : Nat) (a : i < l.length) (b : i < l'.length), NV ρ l[i] l'[i] := by
  induction h with
  | nil => intro i a; simp at a
  | cons h _ ih =>
    intro i a b
    cases i with
    | zero => exact h
    | succ i => exact ih i (by simpa using a) (by simpa using b)
theorem NV.agg_of {ρ : Nat → Option Nat} {l l' : List Value} (h : NL ρ l l') : NV ρ (.agg l.toArray) (.agg l'.toArray) :=
  .agg _ _ (by simpa using h.length) (fun i a b => by simpa using h.get i (by simpa using a) (by simpa using b))
theorem NV.tuple_of {ρ : Nat → Option Nat} {l l' : List Value} (h : NL ρ l l') : NV ρ (.tuple l.toArray) (.tuple l'.toArray) :=
  .tuple _ _ (by simpa using h.length) (fun i a b => by simpa using h.get i (by simpa using a) (by simpa using b))
def rho (n : Nat) (bs : List Nat) : Nat → Option Nat := fun b => if b < n then some b else bs[b - n]?
theorem rho_old {n : Nat} {bs : List Nat} {b : Nat} (h : b < n) : rho n bs b = some b := by unfold rho; rw [if_pos h]
theorem ARun.gc0 (h : ARun P ng f args H v H') (k : Keeps H H') (hv : Stood ng args H v ∨ NV (rho H.n []) v v) : ARun P ng f args H v H := by
  refine h.gc (rho H.n []) (Nat.le_refl _) (fun b hb => rho_old hb) ?_ ?_ ?_ ?_
  · intro b c hb
    unfold rho at hb
    split at hb
    · cases hb; exact ⟨by assumption, by omega⟩
    · simp at hb
  · intro b1 b2 c h1 h2
    unfold rho at h1 h2
    split at h1 <;> split at h2 <;> simp_all
  · intro b c o' hb ho
    unfold rho at hb
    split at hb
    · rename_i hlt
      cases hb
      have := k.get b hlt
      rw [ho] at this
      exact .inl ⟨rfl, hlt, this.symm, this.symm⟩
    · simp at hb
  · rcases hv with hv | hv
    · exact .inl ⟨rfl, hv⟩
    · exact .inr hv
theorem ARun.gcs (h : ARun P ng f args H v H') (bs : List Nat) (hn : H''.n = H.n + bs.length) (hge : ∀ b ∈ bs, H.n ≤ b) (hnd : bs.Nodup)
    (hold : ∀ b o', b < H.n → H'.get b = some o' → (H.get b = some o' ∧ H''.get b = some o') ∨ ∃ o'', H''.get b = some o'' ∧ AOr (rho H.n bs) o'' o')
    (hnew : ∀ i b o', bs[i]? = some b → H'.get b = some o' → ∃ o'', H''.get (H.n + i) = some o'' ∧ AOr (rho H.n bs) o'' o')
    (hv : (v'' = v ∧ Stood ng args H v) ∨ NV (rho H.n bs) v'' v) : ARun P ng f args H v'' H'' := by
  refine h.gc (rho H.n bs) (by omega) (fun b hb => rho_old hb) ?_ ?_ ?_ hv
  · intro b c hb
    unfold rho at hb
    split at hb
    · cases hb; exact ⟨by omega, by omega⟩
    · obtain ⟨h1, h2⟩ := List.getElem?_eq_some_iff.1 hb
      exact ⟨by omega, fun _ => hge c (List.mem_of_getElem? hb)⟩
  · intro b1 b2 c h1 h2
    unfold rho at h1 h2
    split at h1 <;> split at h2
    · cases h1; cases h2; rfl
    · cases h1; have := hge _ (List.mem_of_getElem? h2); omega
    · cases h2; have := hge _ (List.mem_of_getElem? h1); omega
    · obtain ⟨a1, a2⟩ := List.getElem?_eq_some_iff.1 h1
      obtain ⟨d1, d2⟩ := List.getElem?_eq_some_iff.1 h2
      have := (List.getElem_inj hnd).1 (a2.trans d2.symm)
      omega
  · intro b c o' hb ho
    unfold rho at hb
    split at hb
    · rename_i hlt
      cases hb
      rcases hold b o' hlt ho with h | h
      · exact .inl ⟨rfl, hlt, h⟩
      · exact .inr h
    · obtain ⟨o'', e1, e2⟩ := hnew _ c o' hb ho
      exact .inr ⟨o'', by rw [show H.n + (b - H.n) = b by omega] at e1; exact e1, e2⟩
structure OB (e : Nat) (H K : AHeap) (v : Value) (l : List UInt8) : Prop where
  ap : AP K e 1 v l.length (cellsOf l)
  k : Keeps H K
  f : Fresh H.n v
theorem OB.bs {e : Nat} {H K : AHeap} {v : Value} {l : List UInt8} (h : OB e H K v l) : BS K v l := h.ap.bs
theorem OB.bq {e : Nat} {H K : AHeap} {v : Value} {l : List UInt8} (h : OB e H K v l) : BQ K v l := h.ap.bq
theorem OB.keeps {e : Nat} {H K K' : AHeap} {v : Value} {l : List UInt8} (h : OB e H K v l) (k : Keeps K K') : OB e H K' v l := ⟨h.ap.keeps k, h.k.trans k, h.f⟩
theorem OB.base {e : Nat} {H0 H K : AHeap} {v : Value} {l : List UInt8} (h : OB e H K v l) (k : Keeps H0 H) : OB e H0 K v l := ⟨h.ap, k.trans h.k, fun b hb => Nat.le_trans k.n (h.f b hb)⟩
theorem OB.nil (e : Nat) (H : AHeap) : OB e H H (.slice none 0 0) [] := ⟨.inl ⟨rfl, rfl, rfl⟩, Keeps.refl _, fun b hb => by cases hb⟩
theorem OB.lit {e : Nat} {H K : AHeap} (k : Keeps H K) {l : List UInt8} {c : List Value} {n b : Nat} (hc : c = cellsOf l) (hn : n = l.length) (hb : b = K.n) (room : Bool) : OB e H (K.alloc (.cells true room 1 c e)) (slc b 0 n n) l := by
  subst hc; subst hn; subst hb
  exact ⟨.inr ⟨K.n, room, rfl, by rw [cellsOf_length, Nat.mul_one], AHeap.get_alloc_new K _⟩, k.trans ((Keeps.refl K).alloc _), fun b hb => by cases hb; exact k.n⟩
theorem OB.one {e : Nat} {H K : AHeap} {v : Value} {l : List UInt8} (h : OB e H K v l) : v.oneCell' = true := by obtain ⟨a, rfl⟩ := h.ap.shape; rfl
theorem OB.is {e : Nat} {H K : AHeap} {v : Value} {l : List UInt8} (h : OB e H K v l) : isS v = true := by obtain ⟨a, rfl⟩ := h.ap.shape; rfl
theorem OB.len {e : Nat} {H K : AHeap} {v : Value} {l : List UInt8} (h : OB e H K v l) : lenS v = l.length := by obtain ⟨a, rfl⟩ := h.ap.shape; rfl
theorem OB.grow {e : Nat} {H K K' : AHeap} {v v' : Value} {l m : List UInt8} (h : OB e H K v l) (a : AP K' e 1 v' (l.length + m.length) (cellsOf l ++ cellsOf m)) (c : Chg (blkL v) K K') (hb : blk v' = blk v ∨ blk v' = some K.n) : OB e H K' v' (l ++ m) := by
  refine ⟨by rw [List.length_append, cellsOf_append]; exact a, h.k.chg_trans c (fun x hx => h.f x (mem_blkL.1 hx)), fun b hb' => ?_⟩
  rcases hb with e1 | e1
  · exact h.f b (by rw [← e1]; exact hb')
  · rw [e1] at hb'; cases hb'; exact h.k.n
section
variable {KF : List Value → AHeap → Prop} {fr tm : List Value} {tr : List TE} {K : AHeap}
theorem OB.appR {d : D} {r : List AOper} {e : Nat} {s x : Value} {l m : List UInt8} (h : OB e H K s l) (hx : BS K x m) (hs : l.length + m.length ≤ 1000000000)
    (hk : ∀ v' K', OB e H K' v' (l ++ m) → RW P ng r (d.frame v' fr) (d.temps v' tm) K' KF) : goR P ng (asem (.app e 1 1 s x) K) d r fr tm KF :=
  appG h.ap hx.sh hx.el (by rw [cellsOf_length, Nat.mul_one]) (by omega) (fun v' K' a c hb => hk v' K' (h.grow a c hb))
theorem OB.appsR {d : D} {r : List AOper} {e : Nat} {s : Value} {l m : List UInt8} (h : OB e H K s l) (hs : l.length + m.length ≤ 1000000000)
    (hk : ∀ v' K', OB e H K' v' (l ++ m) → RW P ng r (d.frame v' fr) (d.temps v' tm) K' KF) : goR P ng (asem (.apps e 1 s (.string ⟨m.toArray⟩)) K) d r fr tm KF := by
  obtain ⟨v', K', e1, e2, e3, e4⟩ := h.ap.app (m := m.length) (news := cellsOf m) (bytes := 1) (by rw [cellsOf_length, Nat.mul_one]) (by omega)
  exact ⟨v', K', e1, hk v' K' (h.grow e2 e3 e4)⟩
end
theorem cells3 {a b c : Nat} (ha : a < 256) (hb : b < 256) (hc : c < 256) : [Value.int .u8 (a : Nat), .int .u8 (b : Nat), .int .u8 (c : Nat)] = cellsOf [UInt8.ofNat a, UInt8.ofNat b, UInt8.ofNat c] := by
  simp only [cellsOf, List.map_cons, List.map_nil, UInt8.toNat_ofNat']
  rw [Nat.mod_eq_of_lt (by omega), Nat.mod_eq_of_lt (by omega), Nat.mod_eq_of_lt (by omega)]
theorem callP {xs : List Value} {K : Value → AHeap → Prop} (h : ∃ w H', ARun P ng f xs H w H' ∧ w = v ∧ H' = H) (k : K v H) : ∃ v H', ARun P ng f xs H v H' ∧ K v H' := by
  obtain ⟨w, H', h1, rfl, rfl⟩ := h
  exact ⟨_, _, h1, k⟩
end Go.AM

set_option linter.unusedSimpArgs false
set_option linter.unusedVariables false
namespace Go.AM
def AO.unown : AO → AO
  | .dead => .dead
  | .cells _ room esz c e => .cells false room esz c e
  | .obj _ o => .obj false o
def AHeap.unown (H : AHeap) : AHeap := ⟨H.n, H.l.map AO.unown⟩
theorem AHeap.unown_n (H : AHeap) : H.unown.n = H.n := _root_.id rfl
theorem AHeap.unown_get (H : AHeap) (b : Nat) : H.unown.get b = (H.get b).map AO.unown := by
  unfold AHeap.get AHeap.unown
  split <;> simp
theorem AO.unown_own (o : AO) : o.unown.own = false := by cases o <;> rfl
theorem AHeap.unown_no (H : AHeap) : NoOwn H.unown := fun b o h => by
  rw [AHeap.unown_get] at h
  cases hb : H.get b with
  | none => rw [hb] at h; cases h
  | some x => rw [hb] at h; cases h; exact AO.unown_own x
theorem OR.unown {σ : Sg} {w : World} {i : BI} {o : AO} (h : OR σ w i o) : OR σ w i o.unown := by
  cases o with
  | dead => trivial
  | cells own room esz c e =>
    obtain ⟨a1, a2, a3, a4, a5, c', fr, a6, a7, a8, a9⟩ := h
    exact ⟨a1, a2, a3, a4, a5, c', fr, a6, a7, a8, fun h => by cases h⟩
  | obj own o => exact h
theorem HR.unown {ng : Nat} {σ : Sg} {H : AHeap} {w : World} (h : HR ng σ H.get w) : HR ng σ H.unown.get w := by
  refine ⟨fun b i hb => ?_, fun b1 b2 i1 i2 o1 o2 _ _ _ g1 _ hw => ?_, h.lt, h.glob⟩
  · obtain ⟨o, h1, h2⟩ := h.obj b i hb
    exact ⟨o.unown, by rw [AHeap.unown_get, h1]; rfl, h2.unown⟩
  · rw [H.unown_no b1 o1 g1] at hw; cases hw
def over (H H' : AHeap) : AHeap := ⟨H'.n, (List.range (H'.n - H.n)).map (fun i => (H'.l[i]?).getD .dead) ++ H.l⟩
theorem over_old {H H' : AHeap} (hn : H.n ≤ H'.n) {b : Nat} (hb : b < H.n) : (over H H').get b = H.get b := by
  unfold AHeap.get over
  simp only
  rw [if_pos (by omega), if_pos hb, List.getElem?_append_right (by simp; omega)]
  simp only [List.length_map, List.length_range]
  rw [show H'.n - 1 - b - (H'.n - H.n) = H.n - 1 - b by omega]
theorem over_new {H H' : AHeap} {b : Nat} (hb : H.n ≤ b) (hb2 : b < H'.n) {o : AO} (h : H'.get b = some o) : (over H H').get b = some o := by
  unfold AHeap.get over at *
  simp only
  rw [if_pos hb2] at h ⊢
  rw [List.getElem?_append_left (by simp; omega)]
  simp only [List.getElem?_map]
  rw [List.getElem?_range (by omega)]
  simp [h]
theorem over_keeps {H H' : AHeap} (hn : H.n ≤ H'.n) : Keeps H (over H H') := ⟨hn, fun b hb => over_old hn hb⟩
variable {P : Program} {ng : Nat} {f : FuncId} {args : List Value} {H H' : AHeap} {v : Value}
theorem ARun.over (h : ARun P ng f args H.unown v H') : ARun P ng f args H v (AM.over H H') ∧ Keeps H (AM.over H H') := by
  obtain ⟨h0, h1, h2⟩ := h
  rw [AHeap.unown_n] at h1
  refine ⟨⟨h0, h1, fun σ w args' hr ha => ?_⟩, over_keeps h1⟩
  refine (h2 σ w args' hr.unown ha).mono ?_
  rintro e w' ⟨v', σ', rfl, k1, k2, k3⟩
  have hk : ∀ k, k < w.heap.size → w'.heap[k]? = w.heap[k]? := fun k hk => k2.keep k hk (fun b i o hb ho hw => by rw [H.unown_no b o ho] at hw; cases hw)
  have old : ∀ b i, σ b = some i → b < H.n := fun b i hb => by
    obtain ⟨o, g, _⟩ := hr.obj b i hb
    exact AHeap.get_lt g
  have back : ∀ b i, b < H.n → σ' b = some i → σ b = some i := fun b i hb hs => by
    cases hsb : σ b with
    | none =>
      have := (k2.new b i hsb hs).1.1
      rw [AHeap.unown_n] at this; omega
    | some j => have := k2.sub b j hsb; rw [hs] at this; exact this.symm
  have fresh : ∀ b i, H.n ≤ b → σ' b = some i → w.heap.size ≤ i.c := fun b i hb hs => by
    have hsb : σ b = none := by
      cases hsb : σ b with
      | none => rfl
      | some j => have := old b j hsb; omega
    rcases (k2.new b i hsb hs).2 with h | ⟨b0, i0, o0, _, e2, e3, _⟩
    · exact h
    · rw [H.unown_no b0 o0 e2] at e3; cases e3
  have obj : ∀ b i, σ' b = some i → (b < H.n ∧ σ b = some i ∧ i.c < w.heap.size) ∨ (H.n ≤ b ∧ w.heap.size ≤ i.c ∧ ∃ o, H'.get b = some o ∧ (AM.over H H').get b = some o ∧ OR σ' w' i o) := fun b i hs => by
    by_cases hb : b < H.n
    · have := back b i hb hs
      exact .inl ⟨hb, this, hr.lt b i this⟩
    · obtain ⟨o, g1, g2⟩ := k1.obj b i hs
      exact .inr ⟨by omega, fresh b i (by omega) hs, o, g1, over_new (by omega) (AHeap.get_lt g1) g1, g2⟩
  refine ⟨v', σ', rfl, ⟨?_, ?_, k1.lt, k1.glob⟩, ⟨k2.sub, ?_, ?_, ?_, ?_, k2.size, h1, k2.os, k2.tape, k2.output⟩, k3⟩
  · intro b i hs
    rcases obj b i hs with ⟨hb, hs0, _⟩ | ⟨_, _, o, _, g2, g3⟩
    · obtain ⟨o, g1, g2⟩ := hr.obj b i hs0
      exact ⟨o, by rw [over_old h1 hb]; exact g1, (g2.congr (fun _ => hk _ (hr.lt b i hs0))).mono k2.sub⟩
    · exact ⟨o, g2, g3⟩
  · intro b1 b2 i1 i2 o1 o2 hne s1 s2 g1 g2 hw hl
    rcases obj b1 i1 s1 with ⟨hb1, t1, l1⟩ | ⟨hb1, l1, p1, q1, q2, q3⟩
    · rcases obj b2 i2 s2 with ⟨hb2, t2, l2⟩ | ⟨hb2, l2, p2, r1, r2, r3⟩
      · rw [over_old h1 hb1] at g1
        rw [over_old h1 hb2] at g2
        exact hr.inj b1 b2 i1 i2 o1 o2 hne t1 t2 g1 g2 hw hl
      · omega
    · rcases obj b2 i2 s2 with ⟨hb2, t2, l2⟩ | ⟨hb2, l2, p2, r1, r2, r3⟩
      · omega
      · rw [q2] at g1; cases g1
        rw [r2] at g2; cases g2
        exact k1.inj b1 b2 i1 i2 _ _ hne s1 s2 q1 r1 hw hl
  · intro b i hb hs
    have := k2.new b i hb hs
    rw [AHeap.unown_n] at this
    rcases obj b i hs with ⟨_, hs0, _⟩ | ⟨_, l, _⟩
    · rw [hb] at hs0; cases hs0
    · exact ⟨this.1, .inl l⟩
  · intro b i o' hb ho hw
    obtain ⟨o, g1, _⟩ := hr.obj b i hb
    rw [over_old h1 (old b i hb), g1] at ho
    cases ho
    exact ⟨_, g1, hw⟩
  · intro b i o' hb ho hw
    obtain ⟨o, g1, _⟩ := hr.obj b i hb
    rw [over_old h1 (old b i hb), g1] at ho
    cases ho
    exact ⟨_, g1, hw⟩
  · intro k hlt _
    exact hk k hlt
theorem ARun.pure (h : ARun P ng f args H.unown v H') (hv : plain1 v = true) : ARun P ng f args H v H := by
  obtain ⟨h1, h2⟩ := h.over
  exact h1.gc0 h2 (.inr (NV.plain hv))
end Go.AM

set_option linter.unusedSimpArgs false
set_option linter.unusedVariables false
namespace Go.AM
inductive CKd
  | int (k : IntKind)
  | bool
  | str
  | sl (t : TypeId)
def ckFs (P : Program) (f : TypeId → Option (List CKd)) : List Field → Nat → Option (List CKd)
  | [], _ => some []
  | fd :: r, off => if fd.offset = off then match f fd.type with
    | some l => if P.cellsOf fd.type = l.length then (ckFs P f r (off + l.length)).map (l ++ ·) else none
    | none => none
    else none
def ckT (P : Program) : Nat → TypeId → Option (List CKd)
  | 0, _ => none
  | d + 1, t => match P.underlying t with
    | some .bool => some [.bool]
    | some (.int k) => some [.int k]
    | some .string => some [.str]
    | some (.slice _) => some [.sl t]
    | some (.struct fs) => match ckFs P (ckT P d) fs.toList 0 with
      | some l => if P.cellsOf t = l.length then some l else none
      | none => none
    | some (.array n e) => match ckT P d e with
      | some l => if P.cellsOf e = l.length ∧ P.cellsOf t = n * l.length then some (List.replicate n l).flatten else none
      | none => none
    | _ => none
def fits (P : Program) (G : Gf) : CKd → Value → Prop
  | .int k, v => ∃ n, v = .int k n ∧ (Lit.int k n).wf = true
  | .bool, v => ∃ b, v = .bool b
  | .str, v => ∃ s, v = .string s ∧ s.size ≤ maxLen
  | .sl t, v => AR P G t [v]
def fitsL (P : Program) (G : Gf) : List CKd → List Value → Prop
  | [], [] => True
  | k :: ks, v :: vs => fits P G k v ∧ fitsL P G ks vs
  | _, _ => False
section
variable {P : Program} {G : Gf}
theorem fitsL.len : ∀ {ks : List CKd} {cs : List Value}, fitsL P G ks cs → cs.length = ks.length
  | [], [], _ => rfl
  | _ :: ks, _ :: cs, h => by simp [fitsL.len h.2]
theorem fitsL.inv {k : CKd} {ks : List CKd} {cs : List Value} (h : fitsL P G (k :: ks) cs) : ∃ v vs, cs = v :: vs ∧ fits P G k v ∧ fitsL P G ks vs := by
  cases cs with
  | nil => exact h.elim
  | cons v vs => exact ⟨v, vs, rfl, h.1, h.2⟩
theorem fitsL.end_ {cs : List Value} (h : fitsL P G [] cs) : cs = [] := by
  cases cs with
  | nil => rfl
  | cons v vs => exact h.elim
theorem fitsL.app : ∀ {a b : List CKd} {c d : List Value}, fitsL P G a c → fitsL P G b d → fitsL P G (a ++ b) (c ++ d)
  | [], _, [], _, _, h => h
  | _ :: _, _, _ :: _, _, h, k => ⟨h.1, fitsL.app h.2 k⟩
theorem fitsL.split : ∀ {a b : List CKd} {cs : List Value}, fitsL P G (a ++ b) cs → fitsL P G a (cs.take a.length) ∧ fitsL P G b (cs.drop a.length)
  | [], b, cs, h => ⟨by simp [fitsL], by simpa using h⟩
  | k :: a, b, v :: cs, h => by
    have := fitsL.split (a := a) (b := b) (cs := cs) h.2
    exact ⟨⟨h.1, this.1⟩, this.2⟩
theorem fitsL.mono {G' : Gf} (hg : ∀ b o, G b = some o → G' b = some o) : ∀ {ks : List CKd} {cs : List Value}, fitsL P G ks cs → fitsL P G' ks cs
  | [], [], _ => trivial
  | .int _ :: _, _ :: _, h => ⟨h.1, h.2.mono hg⟩
  | .bool :: _, _ :: _, h => ⟨h.1, h.2.mono hg⟩
  | .str :: _, _ :: _, h => ⟨h.1, h.2.mono hg⟩
  | .sl t :: _, v :: _, h => ⟨AR.mono hg (show AR P G t [v] from h.1), h.2.mono hg⟩
theorem fitsL.u8 : ∀ {n : Nat} {cs : List Value}, fitsL P G (List.replicate n (.int .u8)) cs → ∃ l : List UInt8, l.length = n ∧ cs = cellsOf l
  | 0, [], _ => ⟨[], rfl, rfl⟩
  | n + 1, v :: cs, h => by
    obtain ⟨⟨m, rfl, hw⟩, h2⟩ := h
    obtain ⟨l, h3, rfl⟩ := fitsL.u8 h2
    simp only [Lit.wf, Bool.and_eq_true, decide_eq_true_eq, IntKind.min, IntKind.max, IntKind.signed, IntKind.bits] at hw
    obtain ⟨m, rfl⟩ : ∃ k : Nat, m = k := ⟨m.toNat, by simp at hw; omega⟩
    have hm : m % 256 = m := by simp at hw; omega
    exact ⟨UInt8.ofNat m :: l, by simp [h3], by simp [cellsOf, hm]⟩
theorem fits_u {k : IntKind} (hk : k.signed = false) {v : Value} (h : fits P G (.int k) v) : ∃ n : Nat, v = .int k n ∧ n < 2 ^ k.bits := by
  obtain ⟨n, rfl, hw⟩ := h
  simp only [Lit.wf, Bool.and_eq_true, decide_eq_true_eq, IntKind.min, IntKind.max, hk, Bool.false_eq_true, if_false] at hw
  refine ⟨n.toNat, by rw [Int.toNat_of_nonneg hw.1], ?_⟩
  have h1 := hw.1
  have h2 := hw.2
  have : (n.toNat : Int) < ((2 ^ k.bits : Nat) : Int) := by
    rw [Int.toNat_of_nonneg h1]
    push_cast
    omega
  exact Int.ofNat_lt.1 this
theorem fits_u8 {v : Value} (h : fits P G (.int .u8) v) : ∃ n : Nat, v = .int .u8 n ∧ n < 256 := fits_u rfl h
theorem fits_i64 {v : Value} (h : fits P G (.int .i64) v) : ∃ n : Int, v = .int .i64 n ∧ -9223372036854775808 ≤ n ∧ n ≤ 9223372036854775807 := by
  obtain ⟨n, rfl, hw⟩ := h
  simp only [Lit.wf, Bool.and_eq_true, decide_eq_true_eq, IntKind.min, IntKind.max, IntKind.signed, IntKind.bits] at hw
  exact ⟨n, rfl, by simpa using hw.1, by have := hw.2; simp at this; omega⟩
theorem fitsL_fields {f : TypeId → Option (List CKd)} {cs : List Value} : ∀ (fs : List Field) (off : Nat) (ks : List CKd), ckFs P f fs off = some ks → cs.length = off + ks.length →
    (∀ fd ∈ fs, ∀ l, f fd.type = some l → P.cellsOf fd.type = l.length → fitsL P G l ((cs.drop fd.offset).take (P.cellsOf fd.type))) → fitsL P G ks (cs.drop off)
  | [], off, ks, h, hl, _ => by
    simp only [ckFs, Option.some.injEq] at h; subst h
    rw [List.drop_of_length_le (by simp at hl; omega)]; trivial
  | fd :: fs, off, ks, h, hl, hf => by
    simp only [ckFs] at h
    split at h
    · rename_i h1
      split at h
      · rename_i l h2
        split at h
        · rename_i h3
          simp only [Option.map_eq_some_iff] at h
          obtain ⟨r, h4, rfl⟩ := h
          have h5 := hf fd (by simp) l h2 h3
          have h6 := fitsL_fields fs (off + l.length) r h4 (by rw [hl, List.length_append]; omega) (fun x hx => hf x (by simp [hx]))
          rw [h1, h3] at h5
          have := h5.app h6
          rwa [← List.drop_drop, List.take_append_drop] at this
        · cases h
      · cases h
    · cases h
theorem fitsL_rep {l : List CKd} {cs : List Value} : ∀ (n : Nat), (∀ i, i < n → fitsL P G l ((cs.drop (i * l.length)).take l.length)) → fitsL P G (List.replicate n l).flatten (cs.take (n * l.length))
  | 0, _ => by simp [fitsL]
  | n + 1, h => by
    have h1 := fitsL_rep n (fun i hi => h i (by omega))
    rw [List.replicate_succ', List.flatten_append, Nat.add_mul, Nat.one_mul, List.take_add]
    simpa using h1.app (h n (by omega))
theorem AR.flat : ∀ {d : Nat} {t : TypeId} {ks : List CKd} {cs : List Value}, ckT P d t = some ks → AR P G t cs → fitsL P G ks cs
  | 0, t, ks, cs, h, _ => by simp [ckT] at h
  | d + 1, t, ks, cs, h, ha => by
    have ha0 := ha
    cases ha with
    | bool hu => simp only [ckT, hu, Option.some.injEq] at h; subst h; exact ⟨⟨_, rfl⟩, trivial⟩
    | int hu hw => simp only [ckT, hu, Option.some.injEq] at h; subst h; exact ⟨⟨_, rfl, hw⟩, trivial⟩
    | str hu hs => simp only [ckT, hu, Option.some.injEq] at h; subst h; exact ⟨⟨_, rfl, hs⟩, trivial⟩
    | nil hu => simp only [ckT, hu, Option.some.injEq] at h; subst h; exact ⟨ha0, trivial⟩
    | zero hu _ => simp only [ckT, hu, Option.some.injEq] at h; subst h; exact ⟨ha0, trivial⟩
    | sl hu => simp only [ckT, hu, Option.some.injEq] at h; subst h; exact ⟨ha0, trivial⟩
    | struct hu hl hf =>
      rename_i fs
      simp only [ckT, hu] at h
      split at h
      · rename_i l h1
        split at h
        · rename_i h2
          simp only [Option.some.injEq] at h; subst h
          have := fitsL_fields (cs := cs) (G := G) fs.toList 0 _ h1 (by rw [hl, h2]; omega) (fun fd hfd l hl' hz => by
            obtain ⟨i, hi, hfi⟩ := List.mem_iff_getElem.1 hfd
            have hi' : i < fs.size := by simpa using hi
            exact (hf i fd (by rw [Array.getElem?_eq_getElem hi', ← hfi]; simp)).flat hl')
          simpa using this
        · cases h
      · cases h
    | array hu hl hi =>
      rename_i e n
      simp only [ckT, hu] at h
      split at h
      · rename_i l h1
        split at h
        · rename_i h2
          simp only [Option.some.injEq] at h; subst h
          have := fitsL_rep (P := P) (G := G) (l := l) (cs := cs) n (fun i hin => by
            have := hi i hin
            rw [h2.1] at this
            exact this.flat h1)
          rwa [List.take_of_length_le (by rw [hl, h2.2]; omega)] at this
        · cases h
      · cases h
end
end Go.AM

set_option linter.unusedSimpArgs false
set_option linter.unusedVariables false
namespace Go.AM
def cpre : Nat → ACode → ACode
  | 0, _ => .skip
  | 1, .seq a _ => a
  | n + 2, .seq a b => .seq a (cpre (n + 1) b)
  | _ + 1, c => c
def cpost : Nat → ACode → ACode
  | 0, c => c
  | n + 1, .seq _ b => cpost n b
  | _ + 1, _ => .skip
def cok : Nat → ACode → Bool
  | 0, _ => false
  | 1, .seq _ _ => true
  | n + 2, .seq _ b => cok (n + 1) b
  | _ + 1, _ => false
variable {P : Program} {ng : Nat} {H : AHeap} {Q : AQ} {fr : List Value}
theorem andThen2 (Q : AQ) (K K' : List Value → AHeap → Prop) : (Q.andThen K).andThen K' = Q.andThen K' := by
  funext e fr H
  cases e <;> rfl
theorem W_pp : ∀ (n : Nat) (c : ACode) (Q : AQ) (fr : List Value) (H : AHeap), cok n c = true → W P ng c Q fr H = W P ng (cpre n c) (Q.andThen (W P ng (cpost n c) Q)) fr H
  | 0, c, Q, fr, H, h => by simp [cok] at h
  | 1, c, Q, fr, H, h => by
    cases c <;> simp [cok] at h
    rfl
  | n + 2, c, Q, fr, H, h => by
    cases c <;> simp [cok] at h
    rename_i a b
    simp only [cpre, cpost, W_seq]
    rw [andThen2]
    congr 1
    funext e fr H
    cases e
    · exact W_pp (n + 1) b Q fr H h
    all_goals rfl
theorem W_part {c : ACode} (n : Nat) (M : List Value → AHeap → Prop) (hok : cok n c = true)
    (h1 : ∀ Q' : AQ, (∀ fr H, M fr H → Q' .normal fr H) → (∀ i fr H, Q (.exit i) fr H → Q' (.exit i) fr H) → (∀ fr H, Q .ret fr H → Q' .ret fr H) → W P ng (cpre n c) Q' fr H)
    (h2 : ∀ fr H, M fr H → W P ng (cpost n c) Q fr H) : W P ng c Q fr H := by
  rw [W_pp n c Q fr H hok]
  exact h1 _ (fun fr H h => h2 fr H h) (fun _ _ _ h => h) (fun _ _ h => h)
end Go.AM

set_option linter.unusedSimpArgs false
set_option linter.unusedVariables false
namespace Go.AM
namespace Hk
abbrev HF := List Value → Nat → HT → CK → Bool
def HFok (P : Program) (ng k : Nat) (h : HF) : Prop := ∀ xs n t K, h xs n t K = true → ∀ H, Rp n t H → ∃ v H', ARun P ng k xs H v H' ∧ KP K v H'
def EFok (P : Program) (ng k : Nat) (f : EF) : Prop := ∃ af, compF P ng f.sl k = some af ∧ af.sl = f.sl ∧ af.res = f.res ∧ (af.body = f.body ∨ simpC af.body = f.body) ∧ argsOK P k f.na = true
def EFof (na : Nat) (af : AFunc) : EF := ⟨na, af.sl, af.res, af.body⟩
theorem ok_af {P : Program} {ng k na : Nat} {sl : List Nat} {af : AFunc} (h : compF P ng sl k = some af) (hs : af.sl = sl) (ha : argsOK P k na = true) : EFok P ng k (EFof na af) := by
  subst hs
  exact ⟨af, h, rfl, rfl, .inl rfl, ha⟩
inductive FT
  | leaf
  | node (k : Nat) (f : EF) (l r : FT)
  | hook (k : Nat) (h : HF) (l r : FT)
noncomputable def FT.find (T : FT) (k : Nat) (K : EF → Bool) (KH : HF → Bool) : Bool :=
  FT.rec (motive := fun _ => Bool) false (fun k' f _ _ l r => Bool.rec (motive := fun _ => Bool) (Bool.rec (motive := fun _ => Bool) r l (Nat.ble k k')) (K f) (Nat.beq k k'))
    (fun k' h _ _ l r => Bool.rec (motive := fun _ => Bool) (Bool.rec (motive := fun _ => Bool) r l (Nat.ble k k')) (KH h) (Nat.beq k k')) T
def FT.ok (P : Program) (ng : Nat) : FT → Prop
  | .leaf => True
  | .node k f l r => EFok P ng k f ∧ l.ok P ng ∧ r.ok P ng
  | .hook k h l r => HFok P ng k h ∧ l.ok P ng ∧ r.ok P ng
theorem FT.find_true {P : Program} {ng : Nat} {k : Nat} {K : EF → Bool} {KH : HF → Bool} : ∀ {T : FT}, T.ok P ng → T.find k K KH = true → (∃ f, EFok P ng k f ∧ K f = true) ∨ ∃ h, HFok P ng k h ∧ KH h = true
  | .leaf, _, h => by cases h
  | .node k' f l r, hT, h => by
    have e : (FT.node k' f l r).find k K KH = Bool.rec (motive := fun _ => Bool) (Bool.rec (motive := fun _ => Bool) (r.find k K KH) (l.find k K KH) (Nat.ble k k')) (K f) (Nat.beq k k') := rfl
    rw [e] at h
    cases e1 : Nat.beq k k'
    · rw [e1] at h
      cases e2 : Nat.ble k k'
      · rw [e2] at h; exact FT.find_true hT.2.2 h
      · rw [e2] at h; exact FT.find_true hT.2.1 h
    · rw [e1] at h
      have := Nat.eq_of_beq_eq_true e1
      subst this
      exact .inl ⟨f, hT.1, h⟩
  | .hook k' f l r, hT, h => by
    have e : (FT.hook k' f l r).find k K KH = Bool.rec (motive := fun _ => Bool) (Bool.rec (motive := fun _ => Bool) (r.find k K KH) (l.find k K KH) (Nat.ble k k')) (KH f) (Nat.beq k k') := rfl
    rw [e] at h
    cases e1 : Nat.beq k k'
    · rw [e1] at h
      cases e2 : Nat.ble k k'
      · rw [e2] at h; exact FT.find_true hT.2.2 h
      · rw [e2] at h; exact FT.find_true hT.2.1 h
    · rw [e1] at h
      have := Nat.eq_of_beq_eq_true e1
      subst this
      exact .inr ⟨f, hT.1, h⟩
noncomputable def callE (T : FT) (rec : ACode → List Value → Nat → HT → EK → Bool) : Caller := fun f xs n t K => T.find f (fun ef => asT (Nat.beq xs.length ef.na) (initK ef.sl xs fun fr => rec ef.body fr n t fun e fr n t => match e with
  | .normal => resK ef.res fr t fun v => K v n t
  | .ret => resK ef.res fr t fun v => K v n t
  | _ => false)) (fun h => h xs n t K)
noncomputable def runS (T : FT) (rec : ACode → List Value → Nat → HT → EK → Bool) (c : ACode) : List Value → Nat → HT → EK → Bool :=
  ACode.rec (motive := fun _ => List Value → Nat → HT → EK → Bool)
    (fun fr n t K => K .normal fr n t)
    (fun ops fr n t K => runOps (callE T rec) ops fr [] n t fun fr n t => K .normal fr n t)
    (fun ops fr n t K => runD (callE T rec) ops fr [] n t [] fun fr n t => K .normal fr n t)
    (fun _ _ iha ihb fr n t K => iha fr n t (seqK ihb K))
    (fun c _ _ iht ihe fr n t K => evX c fr [] fun v => condK v (iht fr n t K) (ihe fr n t K))
    (fun id _ ih fr n t K => ih fr n t (blockK id K))
    (fun c ih fr n t K => ih fr n t (seqK (rec (.loop c)) K))
    (fun id fr n t K => K (.exit id) fr n t)
    (fun fr n t K => K .ret fr n t) c
noncomputable def run (T : FT) (fuel : Nat) : ACode → List Value → Nat → HT → EK → Bool :=
  Nat.rec (motive := fun _ => ACode → List Value → Nat → HT → EK → Bool) (fun _ _ _ _ _ => false) (fun _ ih => runS T ih) fuel
theorem callE_ok {P : Program} {ng : Nat} {T : FT} (hT : T.ok P ng) {rec : ACode → List Value → Nat → HT → EK → Bool} (hr : ∀ c fr n t K, rec c fr n t K = true → ∀ H, Rp n t H → W P ng c (QP K) fr H) : CallOK P ng (callE T rec) := by
  intro f xs n t K h H r
  rcases FT.find_true hT h with ⟨ef, ⟨af, h1, h2, h3, h4, h5⟩, h6⟩ | ⟨hf, h1, h2⟩
  case inr => exact h1 xs n t K h2 H r
  obtain ⟨h7, h8⟩ := asT_true h6
  have hlen := Nat.eq_of_beq_eq_true h7
  rw [initK_eq] at h8
  have hw := hr _ _ _ _ _ h8 H r
  have hw2 : W P ng af.body (QP fun e fr n t => match e with
    | .normal => resK ef.res fr t fun v => K v n t
    | .ret => resK ef.res fr t fun v => K v n t
    | _ => false) (initFr ef.sl xs) H := by
    rcases h4 with h4 | h4
    · rw [h4]; exact hw
    · rw [← h4] at hw; exact W_simp af.body hw
  refine walk h1 (by rw [hlen]; exact h5) ?_
  rw [h2]
  refine W_mono ?_ hw2
  rintro e fr H' ⟨n', t', r', h'⟩
  cases e with
  | normal => obtain ⟨v, h9, h10⟩ := resK_true r' h'; rw [h3]; exact ⟨v, h9, n', t', r', h10⟩
  | ret => obtain ⟨v, h9, h10⟩ := resK_true r' h'; rw [h3]; exact ⟨v, h9, n', t', r', h10⟩
  | exit id => cases h'
  | goto l => cases h'
  | panic ch => cases h'
  | outgrown => cases h'
theorem runS_sound {P : Program} {ng : Nat} {T : FT} (hT : T.ok P ng) {rec : ACode → List Value → Nat → HT → EK → Bool} (hr : ∀ c fr n t K, rec c fr n t K = true → ∀ H, Rp n t H → W P ng c (QP K) fr H) :
    ∀ c fr n t K, runS T rec c fr n t K = true → ∀ H, Rp n t H → W P ng c (QP K) fr H := by
  have hcall := callE_ok hT hr
  intro c
  induction c with
  | skip => intro fr n t K h H r; exact ⟨n, t, r, h⟩
  | reg ops => intro fr n t K h H r; exact runOps_sound hcall (K := fun fr n t => K .normal fr n t) h r
  | dreg ops => intro fr n t K h H r; exact runD_sound hcall (K := fun fr n t => K .normal fr n t) h .nil r
  | seq a b iha ihb =>
    intro fr n t K h H r
    show W P ng a (AQ.andThen (QP K) (W P ng b (QP K))) fr H
    exact W_mono (QP_seq (fun fr n t h H r => ihb fr n t K h H r)) (iha fr n t _ h H r)
  | cond c a b iha ihb =>
    intro fr n t K h H r
    have e : runS T rec (.cond c a b) fr n t K = evX c fr [] fun v => condK v (runS T rec a fr n t K) (runS T rec b fr n t K) := rfl
    rw [e, evX_eq] at h
    simp only [W]
    unfold condK at h
    split at h
    · rename_i tt ht
      rw [ht]
      cases tt
      · exact ihb fr n t K h H r
      · exact iha fr n t K h H r
    · cases h
  | block id c ih =>
    intro fr n t K h H r
    show W P ng c (AQ.inBlock (QP K) id) fr H
    refine W_mono ?_ (ih fr n t _ h H r)
    rintro e fr' H' ⟨n', t', r', h'⟩
    cases e with
    | exit id' =>
      simp only [blockK] at h'
      simp only [AQ.inBlock]
      cases e : Nat.beq id' id
      · rw [e] at h'
        rw [if_neg (fun hh => by subst hh; rw [Nat.beq_refl] at e; cases e)]
        exact ⟨n', t', r', h'⟩
      · rw [e] at h'
        rw [if_pos (Nat.eq_of_beq_eq_true e)]
        exact ⟨n', t', r', h'⟩
    | normal => exact ⟨n', t', r', h'⟩
    | ret => exact ⟨n', t', r', h'⟩
    | goto l => exact ⟨n', t', r', h'⟩
    | panic ch => exact ⟨n', t', r', h'⟩
    | outgrown => exact ⟨n', t', r', h'⟩
  | loop c ih =>
    intro fr n t K h H r
    exact W_again (W_mono (QP_seq (c := .loop c) (fun fr n t h H r => hr (.loop c) fr n t K h H r)) (ih fr n t _ h H r))
  | exit id => intro fr n t K h H r; exact ⟨n, t, r, h⟩
  | ret => intro fr n t K h H r; exact ⟨n, t, r, h⟩
theorem run_sound {P : Program} {ng : Nat} {T : FT} (hT : T.ok P ng) : ∀ (fuel : Nat) (c : ACode) (fr : List Value) (n : Nat) (t : HT) (K : EK), run T fuel c fr n t K = true → ∀ H, Rp n t H → W P ng c (QP K) fr H
  | 0, c, fr, n, t, K, h => by cases h
  | m + 1, c, fr, n, t, K, h => runS_sound hT (rec := run T m) (run_sound hT m) c fr n t K h
noncomputable def runF (T : FT) (fuel : Nat) (f : FuncId) (xs : List Value) (n : Nat) (t : HT) (K : CK) : Bool := callE T (run T fuel) f xs n t K
theorem runF_sound {P : Program} {ng : Nat} {T : FT} (hT : T.ok P ng) {fuel : Nat} {f : FuncId} {xs : List Value} {n : Nat} {t : HT} {K : CK} (h : runF T fuel f xs n t K = true) {H : AHeap} (r : Rp n t H) : ∃ v H', ARun P ng f xs H v H' ∧ KP K v H' :=
  callE_ok hT (run_sound hT fuel) f xs n t K h H r
theorem closed_any {P : Program} {T : FT} (hT : T.ok P 0) {fuel : Nat} {f : FuncId} (h : runF T fuel f [] 0 .leaf isTrue = true) (H : AHeap) : ARun P 0 f [] H (.bool true) H := by
  obtain ⟨v, H', ⟨h0, _, h1⟩, h2⟩ := runF_sound hT h Rp.empty
  have hv := isTrue_spec h2
  subst hv
  refine ⟨h0, Nat.le_refl _, fun σ w args' hr ha => ?_⟩
  cases ha
  refine (h1 (fun _ => none) w [] (HR.empty w) .nil).mono ?_
  rintro e w' ⟨v', σ', rfl, k1, k2, k3⟩
  have hk : ∀ k, k < w.heap.size → w'.heap[k]? = w.heap[k]? := fun k hk => k2.keep k hk (fun b i o hb => by cases hb)
  have hsz := k2.size
  refine ⟨v', σ, rfl, ⟨fun b i hb => ?_, hr.inj, fun b i hb => Nat.lt_of_lt_of_le (hr.lt b i hb) hsz, hr.glob⟩, ⟨Sg.le.refl σ, (fun b i h1 h2 => by rw [h1] at h2; cases h2), fun _ _ o' _ a b => ⟨o', a, b⟩, fun _ _ o' _ a b => ⟨o', a, b⟩, fun k a _ => hk k a, hsz, Nat.le_refl _, k2.os, k2.tape, k2.output⟩, ?_⟩
  · obtain ⟨o, a1, a2⟩ := hr.obj b i hb
    exact ⟨o, a1, a2.congr (fun _ => hk _ (hr.lt b i hb))⟩
  · rw [k3.bool_inv]; exact .bool _
theorem HFok.of {P : Program} {ng k : Nat} {h : HF} (hk : ∀ xs n t K, h xs n t K = true → ∀ H, Rp n t H → ∃ v, ARun P ng k xs H v H ∧ K v n t = true) : HFok P ng k h := fun xs n t K h1 H r => by
  obtain ⟨v, h2, h3⟩ := hk xs n t K h1 H r
  exact ⟨v, H, h2, n, t, r, h3⟩
noncomputable def byK (c : List Value) : (List UInt8 → Bool) → Bool :=
  List.rec (motive := fun _ => (List UInt8 → Bool) → Bool) (fun K => K []) (fun x _ ih K => match x with
    | .int .u8 (.ofNat n) => forceB (Nat.ble n 255) fun b => Bool.rec (motive := fun _ => Bool) false (ih fun l => K (UInt8.ofNat n :: l)) b
    | _ => false) c
theorem byK_cons (x : Value) (c : List Value) (K : List UInt8 → Bool) : byK (x :: c) K = match x with
      | .int .u8 (.ofNat n) => forceB (Nat.ble n 255) fun b => Bool.rec (motive := fun _ => Bool) false (byK c fun l => K (UInt8.ofNat n :: l)) b
      | _ => false := rfl
theorem byK_true : ∀ {c : List Value} {K : List UInt8 → Bool}, byK c K = true → ∃ l, c = cellsOf l ∧ K l = true
  | [], K, h => ⟨[], rfl, h⟩
  | x :: c, K, h => by
    rw [byK_cons] at h
    split at h
    · rename_i n
      rw [forceB_eq] at h
      cases e : Nat.ble n 255
      · rw [e] at h; cases h
      · rw [e] at h
        have hn := Nat.le_of_ble_eq_true e
        obtain ⟨l, rfl, h2⟩ := byK_true h
        exact ⟨UInt8.ofNat n :: l, by simp [cellsOf]; omega, h2⟩
    · cases h
noncomputable def dropK (l : List Value) : Nat → (List Value → Bool) → Bool :=
  List.rec (motive := fun _ => Nat → (List Value → Bool) → Bool) (fun _ K => K []) (fun x r ih n K => Nat.rec (motive := fun _ => Bool) (K (x :: r)) (fun m _ => ih m K) n) l
theorem dropK_eq : ∀ (l : List Value) (n : Nat) (K : List Value → Bool), dropK l n K = K (l.drop n)
  | [], n, K => by simp [dropK]
  | x :: l, 0, K => rfl
  | x :: l, n + 1, K => (dropK_eq l n K).trans (by simp)
noncomputable def takeK (l : List Value) : Nat → (List Value → Bool) → Bool :=
  List.rec (motive := fun _ => Nat → (List Value → Bool) → Bool) (fun _ K => K []) (fun x _ ih n K => Nat.rec (motive := fun _ => Bool) (K []) (fun m _ => ih m fun r => K (x :: r)) n) l
theorem takeK_eq : ∀ (l : List Value) (n : Nat) (K : List Value → Bool), takeK l n K = K (l.take n)
  | [], n, K => by simp [takeK]
  | x :: l, 0, K => rfl
  | x :: l, n + 1, K => (takeK_eq l n _).trans (by simp)
noncomputable def bqK (v : Value) (t : HT) (K : List UInt8 → Bool) : Bool := match v with
  | .slice none n k => asT (Nat.beq n 0) (asT (Nat.beq k 0) (K []))
  | .slice (some ⟨b, o, none⟩) n k => t.getK b fun x => match x with
    | .cells own room esz c e => asT (Nat.beq esz 1) (asT (Nat.ble n k) (asT (Nat.ble (Nat.add o n) c.length) (dropK c o fun c => takeK c n fun c => byK c K)))
    | _ => false
  | _ => false
theorem bqK_true {n : Nat} {t : HT} {H : AHeap} (r : Rp n t H) {v : Value} {K : List UInt8 → Bool} (h : bqK v t K = true) : ∃ l, BQ H v l ∧ K l = true := by
  unfold bqK at h
  split at h
  · obtain ⟨h1, h2⟩ := asT_true h
    obtain ⟨h3, h4⟩ := asT_true h2
    have := Nat.eq_of_beq_eq_true h1
    have := Nat.eq_of_beq_eq_true h3
    subst_vars
    exact ⟨[], .inl ⟨rfl, rfl⟩, h4⟩
  · rename_i b o n k
    obtain ⟨ob, h1, h2⟩ := r.getK h
    split at h2
    · rename_i own room esz c e
      obtain ⟨h3, h4⟩ := asT_true h2
      obtain ⟨h5, h6⟩ := asT_true h4
      obtain ⟨h7, h8⟩ := asT_true h6
      rw [dropK_eq, takeK_eq] at h8
      obtain ⟨l, h9, h10⟩ := byK_true h8
      have h3 := Nat.eq_of_beq_eq_true h3
      have h5 := Nat.le_of_ble_eq_true h5
      have h7 : o + n ≤ c.length := Nat.le_of_ble_eq_true h7
      have hl : l.length = n := by
        have := congrArg List.length h9
        rw [cellsOf_length, List.length_take, List.length_drop] at this; omega
      subst hl
      exact ⟨l, .inr (.inr ⟨b, o, k, own, room, esz, c, e, rfl, h5, h1, .inl h3, h9, h7⟩), h10⟩
    · cases h2
  · cases h
end Hk
theorem BQ.unown {H : AHeap} {v : Value} {l : List UInt8} (h : BQ H v l) : BQ H.unown v l := by
  rcases h with h | h | ⟨b, o, k, own, room, esz, c, e, rfl, h1, h2, h3, h4, h5⟩
  · exact .inl h
  · exact .inr (.inl h)
  · exact .inr (.inr ⟨b, o, k, false, room, esz, c, e, rfl, h1, by rw [AHeap.unown_get, h2]; rfl, h3, h4, h5⟩)
theorem elems_unown (H : AHeap) (esz : Nat) (v : Value) : elemsA H.unown esz v = elemsA H esz v := by
  unfold elemsA
  split
  · rfl
  · rename_i b o n k
    rw [AHeap.unown_get]
    cases H.get b with
    | none => rfl
    | some o => cases o <;> rfl
  · rfl
  · rfl
theorem BS.unown {H : AHeap} {v : Value} {l : List UInt8} (h : BS H v l) : BS H.unown v l := ⟨h.sh, by rw [elems_unown]; exact h.el⟩
theorem Sl.unown {H : AHeap} {esz : Nat} {v : Value} {rows : List (List Value)} (h : Sl H esz v rows) : Sl H.unown esz v rows := ⟨h.sh, h.row, by rw [elems_unown]; exact h.el⟩
end Go.AM

set_option maxRecDepth 100000
namespace Go.AM.F
def f63 : AFunc := ⟨[0, 2],
 .seq (.reg [
 ⟨.mov (.c (.int .u8 0)), .fr 1, none⟩]) <|
 .seq (.reg [
 ⟨.mov (.fr 0), .tm, none⟩,
 ⟨.callf 98 [(.tm 0), (.c (.int .i64 1))], .tm, none⟩,
 ⟨.assert 5 (.int .u8 0) false (.tm 0), .tm, none⟩,
 ⟨.mov (.tm 0), .fr 1, none⟩]) <|
 .ret, [.t 1]⟩
def f64 : AFunc := ⟨[0, 2],
 .seq (.reg [
 ⟨.mov (.c (.int .u64 0)), .fr 1, none⟩]) <|
 .seq (.reg [
 ⟨.mov (.fr 0), .tm, none⟩,
 ⟨.callf 98 [(.tm 0), (.c (.int .i64 8))], .tm, none⟩,
 ⟨.assert 24 (.int .u64 0) false (.tm 0), .tm, none⟩,
 ⟨.mov (.tm 0), .fr 1, none⟩]) <|
 .ret, [.t 1]⟩
def f65 : AFunc := ⟨[0, 2],
 .seq (.reg [
 ⟨.mov (.c (.int .u32 0)), .fr 1, none⟩]) <|
 .seq (.reg [
 ⟨.mov (.fr 0), .tm, none⟩,
 ⟨.callf 98 [(.tm 0), (.c (.int .i64 4))], .tm, none⟩,
 ⟨.assert 25 (.int .u32 0) false (.tm 0), .tm, none⟩,
 ⟨.mov (.tm 0), .fr 1, none⟩]) <|
 .ret, [.t 1]⟩
def f73 : AFunc := ⟨[0, 2, 4],
 .seq (.reg [
 ⟨.mov (.c (.slice none 0 0)), .fr 1, none⟩]) <|
 .seq (.seq (.reg [
 ⟨.mov (.fr 0), .tm, none⟩,
 ⟨.eqv 2 false (.tm 0) (.c (.slice none 0 0)), .fr 2, none⟩]) <|
 .cond (.fr 2)
 (.seq (.reg [
 ⟨.mov (.c (.slice none 0 0)), .fr 1, none⟩]) <|
 .ret)
 (.skip)) <|
 .seq (.reg [
 ⟨.bslice 5 1 0 [] [], .tm, none⟩,
 ⟨.mov (.fr 0), .tm, none⟩,
 ⟨.app 5 1 1 (.tm 1) (.tm 0), .tm, none⟩,
 ⟨.mov (.tm 0), .fr 1, none⟩]) <|
 .ret, [.t 1]⟩
def f74 : AFunc := ⟨[0, 1, 4],
 .seq (.reg [
 ⟨.mov (.c (.slice none 0 0)), .fr 2, none⟩]) <|
 .seq (.reg [
 ⟨.mov (.fr 0), .tm, none⟩,
 ⟨.mov (.fr 1), .tm, none⟩,
 ⟨.callf 103 [(.tm 1), (.tm 0)], .tm, none⟩,
 ⟨.mov (.tm 0), .fr 2, none⟩]) <|
 .ret, [.t 2]⟩
def f75 : AFunc := ⟨[0, 2],
 .seq (.reg [
 ⟨.mov (.c (.int .u16 0)), .fr 1, none⟩]) <|
 .seq (.reg [
 ⟨.mov (.fr 0), .tm, none⟩,
 ⟨.callf 98 [(.tm 0), (.c (.int .i64 2))], .tm, none⟩,
 ⟨.assert 111 (.int .u16 0) false (.tm 0), .tm, none⟩,
 ⟨.mov (.tm 0), .fr 1, none⟩]) <|
 .ret, [.t 1]⟩
def f79 : AFunc := ⟨[0, 1],
 .reg [
 ⟨.mov (.fr 0), .tm, none⟩,
 ⟨.mov (.fr 1), .tm, none⟩,
 ⟨.iface 5 (.tm 0), .tm, none⟩,
 ⟨.callf 105 [(.tm 2), (.tm 0)], .tm, none⟩], []⟩
def f81 : AFunc := ⟨[0, 1],
 .reg [
 ⟨.mov (.fr 0), .tm, none⟩,
 ⟨.mov (.fr 1), .tm, none⟩,
 ⟨.iface 111 (.tm 0), .tm, none⟩,
 ⟨.callf 105 [(.tm 2), (.tm 0)], .tm, none⟩], []⟩
def f82 : AFunc := ⟨[0, 1, 5],
 .seq (.reg [
 ⟨.mov (.fr 0), .tm, none⟩,
 ⟨.eqv 1 true (.tm 0) (.c (.pointer none)), .fr 2, none⟩]) <|
 .cond (.fr 2)
 (.reg [
 ⟨.mov (.fr 0), .tm, none⟩,
 ⟨.mov (.fr 0), .tm, none⟩,
 ⟨.nilck (.tm 0), .tm, none⟩,
 ⟨.faddr 0 (.tm 0), .tm, none⟩,
 ⟨.load1 (.tm 0), .tm, none⟩,
 ⟨.mov (.fr 1), .tm, none⟩,
 ⟨.app 5 1 1 (.tm 1) (.tm 0), .tm, none⟩,
 ⟨.nilck (.tm 6), .tm, none⟩,
 ⟨.faddr 0 (.tm 0), .tm, none⟩,
 ⟨.store1 (.tm 0) (.tm 2), .no, none⟩])
 (.skip), []⟩
def f84 : AFunc := ⟨[0, 1],
 .reg [
 ⟨.mov (.fr 0), .tm, none⟩,
 ⟨.mov (.fr 1), .tm, none⟩,
 ⟨.iface 24 (.tm 0), .tm, none⟩,
 ⟨.callf 105 [(.tm 2), (.tm 0)], .tm, none⟩], []⟩
def f85 : AFunc := ⟨[0, 1],
 .reg [
 ⟨.mov (.fr 0), .tm, none⟩,
 ⟨.mov (.fr 1), .tm, none⟩,
 ⟨.iface 25 (.tm 0), .tm, none⟩,
 ⟨.callf 105 [(.tm 2), (.tm 0)], .tm, none⟩], []⟩
def f96 : AFunc := ⟨[0, 2],
 .seq (.reg [
 ⟨.mov (.c (.pointer none)), .fr 1, none⟩]) <|
 .seq (.reg [
 ⟨.mov (.fr 0), .tm, none⟩,
 ⟨.callf 73 [(.tm 0)], .tm, none⟩,
 ⟨.build [(.slice none 0 0), (.bool false)] [(0, 1, (.tm 0))], .tm, none⟩,
 ⟨.box 171 2 (.tm 0), .tm, none⟩,
 ⟨.mov (.tm 0), .fr 1, none⟩]) <|
 .ret, [.t 1]⟩
def f98 : AFunc := ⟨[0, 1, 4],
 .seq (.reg [
 ⟨.mov (.c .nilIface), .fr 2, none⟩]) <|
 .seq (.reg [
 ⟨.mov (.fr 0), .tm, none⟩,
 ⟨.mov (.fr 1), .tm, none⟩,
 ⟨.callf 103 [(.tm 1), (.tm 0)], .tm, none⟩,
 ⟨.mov (.fr 1), .tm, none⟩,
 ⟨.callf 110 [(.tm 1), (.tm 0)], .tm, none⟩,
 ⟨.mov (.tm 0), .fr 2, none⟩]) <|
 .ret, [.t 2]⟩
def f99 : AFunc := ⟨[0, 2],
 .seq (.reg [
 ⟨.mov (.c (.bool false)), .fr 1, none⟩]) <|
 .seq (.reg [
 ⟨.mov (.fr 0), .tm, none⟩,
 ⟨.eqv 1 false (.tm 0) (.c (.pointer none)), .tm, none⟩,
 ⟨.mov (.tm 0), .tm, none⟩,
 ⟨.mov (.fr 0), .tm, some ((.tm 0), false)⟩,
 ⟨.nilck (.tm 0), .tm, some ((.tm 1), false)⟩,
 ⟨.faddr 1 (.tm 0), .tm, some ((.tm 2), false)⟩,
 ⟨.load1 (.tm 0), .tm, some ((.tm 3), false)⟩,
 ⟨.pick (.tm 4) (.c (.bool true)) (.tm 0), .tm, none⟩,
 ⟨.mov (.tm 0), .fr 1, none⟩]) <|
 .ret, [.t 1]⟩
def f100 : AFunc := ⟨[0, 2, 4],
 .seq (.reg [
 ⟨.mov (.c (.int .i64 0)), .fr 1, none⟩]) <|
 .seq (.seq (.reg [
 ⟨.mov (.fr 0), .tm, none⟩,
 ⟨.eqv 1 false (.tm 0) (.c (.pointer none)), .fr 2, none⟩]) <|
 .cond (.fr 2)
 (.seq (.reg [
 ⟨.mov (.c (.int .i64 0)), .fr 1, none⟩]) <|
 .ret)
 (.skip)) <|
 .seq (.reg [
 ⟨.mov (.fr 0), .tm, none⟩,
 ⟨.nilck (.tm 0), .tm, none⟩,
 ⟨.faddr 0 (.tm 0), .tm, none⟩,
 ⟨.load1 (.tm 0), .tm, none⟩,
 ⟨.len false (.tm 0), .tm, none⟩,
 ⟨.mov (.tm 0), .fr 1, none⟩]) <|
 .ret, [.t 1]⟩
def f102 : AFunc := ⟨[0, 2, 3, 4, 8],
 .seq (.reg [
 ⟨.mov (.c (.int .u64 0)), .fr 1, none⟩]) <|
 .seq (.reg [
 ⟨.mov (.c (.int .u64 0)), .fr 2, none⟩]) <|
 .seq (.seq (.reg [
 ⟨.mov (.c (.int .i64 0)), .fr 3, none⟩]) <|
 .block 0 (.loop (.seq (.seq (.reg [
 ⟨.mov (.fr 3), .tm, none⟩,
 ⟨.mov (.fr 0), .tm, none⟩,
 ⟨.len false (.tm 0), .tm, none⟩,
 ⟨.bin .lss (.tm 2) (.tm 0), .fr 4, none⟩]) <|
 .cond (.fr 4)
 (.skip)
 (.exit 0)) <|
 .seq (.block 1 (.reg [
 ⟨.mov (.fr 2), .tm, none⟩,
 ⟨.bin .shl (.tm 0) (.c (.int .u64 8)), .tm, none⟩,
 ⟨.mov (.fr 0), .tm, none⟩,
 ⟨.mov (.fr 3), .tm, none⟩,
 ⟨.iaddr 1 (.tm 1) (.tm 0), .tm, none⟩,
 ⟨.load1 (.tm 0), .tm, none⟩,
 ⟨.i2i .u64 (.tm 0), .tm, none⟩,
 ⟨.bin .or (.tm 5) (.tm 0), .tm, none⟩,
 ⟨.mov (.tm 0), .fr 2, none⟩])) <|
 .reg [
 ⟨.mov (.fr 3), .tm, none⟩,
 ⟨.bin .add (.tm 0) (.c (.int .i64 1)), .tm, none⟩,
 ⟨.mov (.tm 0), .fr 3, none⟩]))) <|
 .seq (.reg [
 ⟨.mov (.fr 2), .tm, none⟩,
 ⟨.mov (.tm 0), .fr 1, none⟩]) <|
 .ret, [.t 1]⟩
def f103 : AFunc := ⟨[0, 1, 4, 5, 6, 9],
 .seq (.reg [
 ⟨.mov (.c (.slice none 0 0)), .fr 2, none⟩]) <|
 .seq (.block 0 (.seq (.reg [
 ⟨.mov (.fr 0), .tm, none⟩,
 ⟨.eqv 1 false (.tm 0) (.c (.pointer none)), .tm, none⟩,
 ⟨.mov (.tm 0), .fr 4, none⟩]) <|
 .cond (.fr 4)
 (.seq (.reg [
 ⟨.mov (.c (.slice none 0 0)), .fr 2, none⟩]) <|
 .ret)
 (.seq (.reg [
 ⟨.mov (.fr 0), .tm, none⟩,
 ⟨.nilck (.tm 0), .tm, none⟩,
 ⟨.faddr 1 (.tm 0), .tm, none⟩,
 ⟨.load1 (.tm 0), .tm, none⟩,
 ⟨.mov (.tm 0), .tm, none⟩,
 ⟨.mov (.fr 1), .tm, some ((.tm 0), false)⟩,
 ⟨.bin .lss (.tm 0) (.c (.int .i64 0)), .tm, some ((.tm 1), false)⟩,
 ⟨.pick (.tm 2) (.c (.bool true)) (.tm 0), .tm, none⟩,
 ⟨.mov (.tm 0), .tm, none⟩,
 ⟨.mov (.fr 1), .tm, some ((.tm 0), false)⟩,
 ⟨.mov (.fr 0), .tm, some ((.tm 1), false)⟩,
 ⟨.nilck (.tm 0), .tm, some ((.tm 2), false)⟩,
 ⟨.faddr 0 (.tm 0), .tm, some ((.tm 3), false)⟩,
 ⟨.load1 (.tm 0), .tm, some ((.tm 4), false)⟩,
 ⟨.len false (.tm 0), .tm, some ((.tm 5), false)⟩,
 ⟨.bin .gtr (.tm 5) (.tm 0), .tm, some ((.tm 6), false)⟩,
 ⟨.pick (.tm 7) (.c (.bool true)) (.tm 0), .tm, none⟩,
 ⟨.mov (.tm 0), .fr 5, none⟩]) <|
 .cond (.fr 5)
 (.seq (.reg [
 ⟨.mov (.fr 0), .tm, none⟩,
 ⟨.mov (.fr 0), .tm, none⟩,
 ⟨.nilck (.tm 1), .tm, none⟩,
 ⟨.faddr 0 (.tm 0), .tm, none⟩,
 ⟨.store1 (.tm 0) (.c (.slice none 0 0)), .no, none⟩,
 ⟨.nilck (.tm 2), .tm, none⟩,
 ⟨.faddr 1 (.tm 0), .tm, none⟩,
 ⟨.store1 (.tm 0) (.c (.bool true)), .no, none⟩]) <|
 .seq (.reg [
 ⟨.mov (.c (.slice none 0 0)), .fr 2, none⟩]) <|
 .ret)
 (.skip)))) <|
 .seq (.reg [
 ⟨.mov (.fr 0), .tm, none⟩,
 ⟨.nilck (.tm 0), .tm, none⟩,
 ⟨.faddr 0 (.tm 0), .tm, none⟩,
 ⟨.load1 (.tm 0), .tm, none⟩,
 ⟨.mov (.fr 1), .tm, none⟩,
 ⟨.mov (.fr 1), .tm, none⟩,
 ⟨.slsl 1 (.tm 2) none (some (.tm 1)) (some (.tm 0)), .tm, none⟩,
 ⟨.mov (.tm 0), .fr 3, none⟩]) <|
 .seq (.reg [
 ⟨.mov (.fr 0), .tm, none⟩,
 ⟨.mov (.fr 0), .tm, none⟩,
 ⟨.nilck (.tm 0), .tm, none⟩,
 ⟨.faddr 0 (.tm 0), .tm, none⟩,
 ⟨.load1 (.tm 0), .tm, none⟩,
 ⟨.mov (.fr 1), .tm, none⟩,
 ⟨.slsl 1 (.tm 1) (some (.tm 0)) none none, .tm, none⟩,
 ⟨.nilck (.tm 6), .tm, none⟩,
 ⟨.faddr 0 (.tm 0), .tm, none⟩,
 ⟨.store1 (.tm 0) (.tm 2), .no, none⟩]) <|
 .seq (.reg [
 ⟨.mov (.fr 3), .tm, none⟩,
 ⟨.mov (.tm 0), .fr 2, none⟩]) <|
 .ret, [.t 2]⟩
def f104 : AFunc := ⟨[0, 2, 4],
 .seq (.reg [
 ⟨.mov (.c (.slice none 0 0)), .fr 1, none⟩]) <|
 .seq (.seq (.reg [
 ⟨.mov (.fr 0), .tm, none⟩,
 ⟨.eqv 1 false (.tm 0) (.c (.pointer none)), .fr 2, none⟩]) <|
 .cond (.fr 2)
 (.seq (.reg [
 ⟨.mov (.c (.slice none 0 0)), .fr 1, none⟩]) <|
 .ret)
 (.skip)) <|
 .seq (.reg [
 ⟨.mov (.fr 0), .tm, none⟩,
 ⟨.nilck (.tm 0), .tm, none⟩,
 ⟨.faddr 0 (.tm 0), .tm, none⟩,
 ⟨.load1 (.tm 0), .tm, none⟩,
 ⟨.callf 73 [(.tm 0)], .tm, none⟩,
 ⟨.mov (.tm 0), .fr 1, none⟩]) <|
 .ret, [.t 1]⟩
def f105 : AFunc := ⟨[0, 1, 4, 5, 6, 8, 18],
 .seq (.seq (.reg [
 ⟨.mov (.fr 0), .tm, none⟩,
 ⟨.eqv 1 false (.tm 0) (.c (.pointer none)), .fr 5, none⟩]) <|
 .cond (.fr 5)
 (.ret)
 (.skip)) <|
 .seq (.reg [
 ⟨.mov (.fr 1), .tm, none⟩,
 ⟨.callf 114 [(.tm 0)], .tm, none⟩,
 ⟨.mov (.tm 0), .tm, none⟩,
 ⟨.extract (.tm 0) 0, .tm, none⟩,
 ⟨.extract (.tm 1) 1, .tm, none⟩,
 ⟨.mov (.tm 1), .fr 2, none⟩,
 ⟨.mov (.tm 0), .fr 3, none⟩]) <|
 .seq (.reg [
 ⟨.mov (.fr 3), .tm, none⟩,
 ⟨.bin .sub (.tm 0) (.c (.int .i64 1)), .tm, none⟩,
 ⟨.bin .mul (.c (.int .i64 8)) (.tm 0), .tm, none⟩,
 ⟨.mov (.tm 0), .fr 4, none⟩]) <|
 .block 0 (.loop (.seq (.seq (.reg [
 ⟨.mov (.fr 4), .tm, none⟩,
 ⟨.bin .geq (.tm 0) (.c (.int .i64 0)), .fr 6, none⟩]) <|
 .cond (.fr 6)
 (.skip)
 (.exit 0)) <|
 .seq (.block 1 (.dreg [
 (⟨.mov (.fr 0), .tm, none⟩, []),
 (⟨.mov (.fr 0), .tm, none⟩, []),
 (⟨.nilck (.tm 0), .tm, none⟩, []),
 (⟨.faddr 0 (.tm 0), .tm, none⟩, []),
 (⟨.load1 (.tm 0), .tm, none⟩, []),
 (⟨.mov (.fr 2), .tm, none⟩, []),
 (⟨.mov (.fr 4), .tm, none⟩, []),
 (⟨.bin .shr (.tm 1) (.tm 0), .tm, none⟩, []),
 (⟨.i2i .u8 (.tm 0), .tm, none⟩, []),
 (⟨.bslice 5 1 1 [(.int .u8 0)] [(0, 1, (.tm 0))], .tm, none⟩, []),
 (⟨.app 5 1 1 (.tm 5) (.tm 0), .tm, none⟩, []),
 (⟨.nilck (.tm 10), .tm, none⟩, []),
 (⟨.faddr 0 (.tm 0), .tm, none⟩, []),
 (⟨.store1 (.tm 0) (.tm 2), .no, none⟩, [])])) <|
 .reg [
 ⟨.mov (.fr 4), .tm, none⟩,
 ⟨.bin .sub (.tm 0) (.c (.int .i64 8)), .tm, none⟩,
 ⟨.mov (.tm 0), .fr 4, none⟩])), []⟩
def f106 : AFunc := ⟨[0, 1, 4, 5, 6, 10],
 .seq (.reg [
 ⟨.mov (.c (.slice none 0 0)), .fr 2, none⟩]) <|
 .seq (.reg [
 ⟨.mov (.c (.slice none 0 0)), .fr 3, none⟩]) <|
 .seq (.seq (.reg [
 ⟨.mov (.fr 1), .tm, none⟩,
 ⟨.bin .sub (.tm 0) (.c (.int .i64 1)), .tm, none⟩,
 ⟨.mov (.tm 0), .fr 4, none⟩]) <|
 .block 0 (.loop (.seq (.seq (.reg [
 ⟨.mov (.fr 4), .tm, none⟩,
 ⟨.bin .geq (.tm 0) (.c (.int .i64 0)), .fr 5, none⟩]) <|
 .cond (.fr 5)
 (.skip)
 (.exit 0)) <|
 .seq (.block 1 (.reg [
 ⟨.mov (.fr 3), .tm, none⟩,
 ⟨.mov (.fr 0), .tm, none⟩,
 ⟨.mov (.fr 4), .tm, none⟩,
 ⟨.bin .mul (.c (.int .i64 8)) (.tm 0), .tm, none⟩,
 ⟨.bin .shr (.tm 2) (.tm 0), .tm, none⟩,
 ⟨.i2i .u8 (.tm 0), .tm, none⟩,
 ⟨.bslice 5 1 1 [(.int .u8 0)] [(0, 1, (.tm 0))], .tm, none⟩,
 ⟨.app 5 1 1 (.tm 6) (.tm 0), .tm, none⟩,
 ⟨.mov (.tm 0), .fr 3, none⟩])) <|
 .reg [
 ⟨.mov (.fr 4), .tm, none⟩,
 ⟨.bin .sub (.tm 0) (.c (.int .i64 1)), .tm, none⟩,
 ⟨.mov (.tm 0), .fr 4, none⟩]))) <|
 .seq (.reg [
 ⟨.mov (.fr 3), .tm, none⟩,
 ⟨.mov (.tm 0), .fr 2, none⟩]) <|
 .ret, [.t 2]⟩
def f110 : AFunc := ⟨[0, 1, 4, 5, 7, 8, 9, 10, 11, 20, 21, 26, 31],
 .seq (.reg [
 ⟨.mov (.c .nilIface), .fr 2, none⟩]) <|
 .seq (.reg [
 ⟨.mov (.c (.int .u64 0)), .fr 3, none⟩]) <|
 .seq (.seq (.reg [
 ⟨.mov (.fr 0), .fr 5, none⟩,
 ⟨.len false (.fr 5), .fr 6, none⟩,
 ⟨.mov (.c (.int .i64 0)), .fr 7, none⟩]) <|
 .block 0 (.loop (.seq (.reg [
 ⟨.bin .lss (.fr 7) (.fr 6), .fr 8, none⟩]) <|
 .seq (.cond (.fr 8)
 (.skip)
 (.exit 0)) <|
 .seq (.block 1 (.seq (.reg [
 ⟨.iaddr 1 (.fr 5) (.fr 7), .tm, none⟩,
 ⟨.load1 (.tm 0), .tm, none⟩,
 ⟨.mov (.tm 0), .fr 4, none⟩]) <|
 .reg [
 ⟨.mov (.fr 3), .tm, none⟩,
 ⟨.bin .shl (.tm 0) (.c (.int .u64 8)), .tm, none⟩,
 ⟨.mov (.fr 4), .tm, none⟩,
 ⟨.i2i .u64 (.tm 0), .tm, none⟩,
 ⟨.bin .or (.tm 2) (.tm 0), .tm, none⟩,
 ⟨.mov (.tm 0), .fr 3, none⟩])) <|
 .reg [
 ⟨.bin .add (.fr 7) (.c (.int .i64 1)), .tm, none⟩,
 ⟨.mov (.tm 0), .fr 7, none⟩]))) <|
 .seq (.seq (.reg [
 ⟨.mov (.fr 1), .fr 9, none⟩]) <|
 .block 2 (.seq (.reg [
 ⟨.bin .eql (.fr 9) (.c (.int .i64 1)), .tm, none⟩,
 ⟨.mov (.tm 0), .fr 10, none⟩]) <|
 .cond (.fr 10)
 (.seq (.reg [
 ⟨.mov (.fr 3), .tm, none⟩,
 ⟨.i2i .u8 (.tm 0), .tm, none⟩,
 ⟨.iface 5 (.tm 0), .tm, none⟩,
 ⟨.mov (.tm 0), .fr 2, none⟩]) <|
 .ret)
 (.seq (.reg [
 ⟨.bin .eql (.fr 9) (.c (.int .i64 2)), .tm, none⟩,
 ⟨.mov (.tm 0), .fr 11, none⟩]) <|
 .cond (.fr 11)
 (.seq (.reg [
 ⟨.mov (.fr 3), .tm, none⟩,
 ⟨.i2i .u16 (.tm 0), .tm, none⟩,
 ⟨.iface 111 (.tm 0), .tm, none⟩,
 ⟨.mov (.tm 0), .fr 2, none⟩]) <|
 .ret)
 (.seq (.reg [
 ⟨.bin .eql (.fr 9) (.c (.int .i64 4)), .tm, none⟩,
 ⟨.mov (.tm 0), .fr 12, none⟩]) <|
 .cond (.fr 12)
 (.seq (.reg [
 ⟨.mov (.fr 3), .tm, none⟩,
 ⟨.i2i .u32 (.tm 0), .tm, none⟩,
 ⟨.iface 25 (.tm 0), .tm, none⟩,
 ⟨.mov (.tm 0), .fr 2, none⟩]) <|
 .ret)
 (.skip))))) <|
 .seq (.reg [
 ⟨.mov (.fr 3), .tm, none⟩,
 ⟨.iface 24 (.tm 0), .tm, none⟩,
 ⟨.mov (.tm 0), .fr 2, none⟩]) <|
 .ret, [.t 2]⟩
def f114 : AFunc := ⟨[0, 2, 3, 4, 5, 6, 7, 8, 9, 15, 23, 31],
 .seq (.reg [
 ⟨.mov (.c (.int .u64 0)), .fr 1, none⟩,
 ⟨.mov (.c (.int .i64 0)), .fr 2, none⟩]) <|
 .seq (.seq (.reg [
 ⟨.mov (.fr 0), .tm, none⟩,
 ⟨.assert 5 (.int .u8 0) true (.tm 0), .tm, none⟩,
 ⟨.mov (.tm 0), .tm, none⟩,
 ⟨.extract (.tm 0) 0, .tm, none⟩,
 ⟨.extract (.tm 1) 1, .tm, none⟩,
 ⟨.mov (.tm 1), .fr 3, none⟩,
 ⟨.mov (.tm 0), .fr 4, none⟩]) <|
 .seq (.reg [
 ⟨.mov (.fr 4), .fr 9, none⟩]) <|
 .cond (.fr 9)
 (.seq (.reg [
 ⟨.mov (.fr 3), .tm, none⟩,
 ⟨.i2i .u64 (.tm 0), .tm, none⟩,
 ⟨.mov (.tm 0), .fr 1, none⟩,
 ⟨.mov (.c (.int .i64 1)), .fr 2, none⟩]) <|
 .ret)
 (.skip)) <|
 .seq (.seq (.reg [
 ⟨.mov (.fr 0), .tm, none⟩,
 ⟨.assert 111 (.int .u16 0) true (.tm 0), .tm, none⟩,
 ⟨.mov (.tm 0), .tm, none⟩,
 ⟨.extract (.tm 0) 0, .tm, none⟩,
 ⟨.extract (.tm 1) 1, .tm, none⟩,
 ⟨.mov (.tm 1), .fr 5, none⟩,
 ⟨.mov (.tm 0), .fr 6, none⟩]) <|
 .seq (.reg [
 ⟨.mov (.fr 6), .fr 10, none⟩]) <|
 .cond (.fr 10)
 (.seq (.reg [
 ⟨.mov (.fr 5), .tm, none⟩,
 ⟨.i2i .u64 (.tm 0), .tm, none⟩,
 ⟨.mov (.tm 0), .fr 1, none⟩,
 ⟨.mov (.c (.int .i64 2)), .fr 2, none⟩]) <|
 .ret)
 (.skip)) <|
 .seq (.seq (.reg [
 ⟨.mov (.fr 0), .tm, none⟩,
 ⟨.assert 25 (.int .u32 0) true (.tm 0), .tm, none⟩,
 ⟨.mov (.tm 0), .tm, none⟩,
 ⟨.extract (.tm 0) 0, .tm, none⟩,
 ⟨.extract (.tm 1) 1, .tm, none⟩,
 ⟨.mov (.tm 1), .fr 7, none⟩,
 ⟨.mov (.tm 0), .fr 8, none⟩]) <|
 .seq (.reg [
 ⟨.mov (.fr 8), .fr 11, none⟩]) <|
 .cond (.fr 11)
 (.seq (.reg [
 ⟨.mov (.fr 7), .tm, none⟩,
 ⟨.i2i .u64 (.tm 0), .tm, none⟩,
 ⟨.mov (.tm 0), .fr 1, none⟩,
 ⟨.mov (.c (.int .i64 4)), .fr 2, none⟩]) <|
 .ret)
 (.skip)) <|
 .seq (.reg [
 ⟨.mov (.fr 0), .tm, none⟩,
 ⟨.assert 24 (.int .u64 0) false (.tm 0), .tm, none⟩,
 ⟨.mov (.tm 0), .fr 1, none⟩,
 ⟨.mov (.c (.int .i64 8)), .fr 2, none⟩]) <|
 .ret, [.t 1, .t 2]⟩
theorem f63_ok : compF Go.Proofs.Try.prog 0 [0, 2] 63 = some f63 := by kernel_rfl
theorem f63_n : argsOK Go.Proofs.Try.prog 63 1 = true := by kernel_rfl
theorem f64_ok : compF Go.Proofs.Try.prog 0 [0, 2] 64 = some f64 := by kernel_rfl
theorem f64_n : argsOK Go.Proofs.Try.prog 64 1 = true := by kernel_rfl
theorem f65_ok : compF Go.Proofs.Try.prog 0 [0, 2] 65 = some f65 := by kernel_rfl
theorem f65_n : argsOK Go.Proofs.Try.prog 65 1 = true := by kernel_rfl
theorem f73_ok : compF Go.Proofs.Try.prog 0 [0, 2, 4] 73 = some f73 := by kernel_rfl
theorem f73_n : argsOK Go.Proofs.Try.prog 73 1 = true := by kernel_rfl
theorem f74_ok : compF Go.Proofs.Try.prog 0 [0, 1, 4] 74 = some f74 := by kernel_rfl
theorem f74_n : argsOK Go.Proofs.Try.prog 74 2 = true := by kernel_rfl
theorem f75_ok : compF Go.Proofs.Try.prog 0 [0, 2] 75 = some f75 := by kernel_rfl
theorem f75_n : argsOK Go.Proofs.Try.prog 75 1 = true := by kernel_rfl
theorem f79_ok : compF Go.Proofs.Try.prog 0 [0, 1] 79 = some f79 := by kernel_rfl
theorem f79_n : argsOK Go.Proofs.Try.prog 79 2 = true := by kernel_rfl
theorem f81_ok : compF Go.Proofs.Try.prog 0 [0, 1] 81 = some f81 := by kernel_rfl
theorem f81_n : argsOK Go.Proofs.Try.prog 81 2 = true := by kernel_rfl
theorem f82_ok : compF Go.Proofs.Try.prog 0 [0, 1, 5] 82 = some f82 := by kernel_rfl
theorem f82_n : argsOK Go.Proofs.Try.prog 82 2 = true := by kernel_rfl
theorem f84_ok : compF Go.Proofs.Try.prog 0 [0, 1] 84 = some f84 := by kernel_rfl
theorem f84_n : argsOK Go.Proofs.Try.prog 84 2 = true := by kernel_rfl
theorem f85_ok : compF Go.Proofs.Try.prog 0 [0, 1] 85 = some f85 := by kernel_rfl
theorem f85_n : argsOK Go.Proofs.Try.prog 85 2 = true := by kernel_rfl
theorem f96_ok : compF Go.Proofs.Try.prog 0 [0, 2] 96 = some f96 := by kernel_rfl
theorem f96_n : argsOK Go.Proofs.Try.prog 96 1 = true := by kernel_rfl
theorem f98_ok : compF Go.Proofs.Try.prog 0 [0, 1, 4] 98 = some f98 := by kernel_rfl
theorem f98_n : argsOK Go.Proofs.Try.prog 98 2 = true := by kernel_rfl
theorem f99_ok : compF Go.Proofs.Try.prog 0 [0, 2] 99 = some f99 := by kernel_rfl
theorem f99_n : argsOK Go.Proofs.Try.prog 99 1 = true := by kernel_rfl
theorem f100_ok : compF Go.Proofs.Try.prog 0 [0, 2, 4] 100 = some f100 := by kernel_rfl
theorem f100_n : argsOK Go.Proofs.Try.prog 100 1 = true := by kernel_rfl
theorem f102_ok : compF Go.Proofs.Try.prog 0 [0, 2, 3, 4, 8] 102 = some f102 := by kernel_rfl
theorem f102_n : argsOK Go.Proofs.Try.prog 102 1 = true := by kernel_rfl
theorem f103_ok : compF Go.Proofs.Try.prog 0 [0, 1, 4, 5, 6, 9] 103 = some f103 := by kernel_rfl
theorem f103_n : argsOK Go.Proofs.Try.prog 103 2 = true := by kernel_rfl
theorem f104_ok : compF Go.Proofs.Try.prog 0 [0, 2, 4] 104 = some f104 := by kernel_rfl
theorem f104_n : argsOK Go.Proofs.Try.prog 104 1 = true := by kernel_rfl
theorem f105_ok : compF Go.Proofs.Try.prog 0 [0, 1, 4, 5, 6, 8, 18] 105 = some f105 := by kernel_rfl
theorem f105_n : argsOK Go.Proofs.Try.prog 105 2 = true := by kernel_rfl
theorem f106_ok : compF Go.Proofs.Try.prog 0 [0, 1, 4, 5, 6, 10] 106 = some f106 := by kernel_rfl
theorem f106_n : argsOK Go.Proofs.Try.prog 106 2 = true := by kernel_rfl
theorem f110_ok : compF Go.Proofs.Try.prog 0 [0, 1, 4, 5, 7, 8, 9, 10, 11, 20, 21, 26, 31] 110 = some f110 := by kernel_rfl
theorem f110_n : argsOK Go.Proofs.Try.prog 110 2 = true := by kernel_rfl
theorem f114_ok : compF Go.Proofs.Try.prog 0 [0, 2, 3, 4, 5, 6, 7, 8, 9, 15, 23, 31] 114 = some f114 := by kernel_rfl
theorem f114_n : argsOK Go.Proofs.Try.prog 114 1 = true := by kernel_rfl
end Go.AM.F

set_option maxRecDepth 100000
namespace Go.AM.F
def f97 : AFunc := ⟨[0, 2, 3, 5, 6, 7, 8, 9],
 .seq (.reg [
 ⟨.mov (.c (.int .u32 0)), .fr 1, none⟩]) <|
 .seq (.reg [
 ⟨.mov (.c (.int .u32 4294967295)), .fr 2, none⟩]) <|
 .seq (.seq (.reg [
 ⟨.mov (.fr 0), .fr 4, none⟩,
 ⟨.len false (.fr 4), .fr 5, none⟩,
 ⟨.mov (.c (.int .i64 0)), .fr 6, none⟩]) <|
 .block 0 (.loop (.seq (.reg [
 ⟨.bin .lss (.fr 6) (.fr 5), .fr 7, none⟩]) <|
 .seq (.cond (.fr 7)
 (.skip)
 (.exit 0)) <|
 .seq (.block 1 (.seq (.reg [
 ⟨.iaddr 1 (.fr 4) (.fr 6), .tm, none⟩,
 ⟨.load1 (.tm 0), .tm, none⟩,
 ⟨.mov (.tm 0), .fr 3, none⟩]) <|
 .reg [
 ⟨.mov (.fr 2), .tm, none⟩,
 ⟨.mov (.fr 3), .tm, none⟩,
 ⟨.i2i .u32 (.tm 0), .tm, none⟩,
 ⟨.bin .xor (.tm 2) (.tm 0), .tm, none⟩,
 ⟨.callf 108 [(.tm 0), (.fn 109)], .tm, none⟩,
 ⟨.mov (.tm 0), .fr 2, none⟩])) <|
 .reg [
 ⟨.bin .add (.fr 6) (.c (.int .i64 1)), .tm, none⟩,
 ⟨.mov (.tm 0), .fr 6, none⟩]))) <|
 .seq (.reg [
 ⟨.mov (.fr 2), .tm, none⟩,
 ⟨.un .xor (.tm 0), .tm, none⟩,
 ⟨.mov (.tm 0), .fr 1, none⟩]) <|
 .ret, [.t 1]⟩
def f107 : AFunc := ⟨[0, 2],
 .seq (.reg [
 ⟨.mov (.c (.int .u32 0)), .fr 1, none⟩]) <|
 .seq (.reg [
 ⟨.mov (.fr 0), .tm, none⟩,
 ⟨.callf 115 [(.c (.int .u32 4294967295)), (.tm 0)], .tm, none⟩,
 ⟨.un .xor (.tm 0), .tm, none⟩,
 ⟨.mov (.tm 0), .fr 1, none⟩]) <|
 .ret, [.t 1]⟩
def f108 : AFunc := ⟨[0, 1, 4, 5, 6],
 .seq (.reg [
 ⟨.mov (.c (.int .u32 0)), .fr 2, none⟩]) <|
 .seq (.seq (.reg [
 ⟨.mov (.c (.int .i64 0)), .fr 3, none⟩]) <|
 .block 0 (.loop (.seq (.reg [
 ⟨.bin .lss (.fr 3) (.c (.int .i64 8)), .fr 4, none⟩]) <|
 .seq (.cond (.fr 4)
 (.skip)
 (.exit 0)) <|
 .seq (.block 1 (.reg [
 ⟨.mov (.fr 1), .tm, none⟩,
 ⟨.mov (.fr 0), .tm, none⟩,
 ⟨.callv (.tm 1) [(.tm 0)], .tm, none⟩,
 ⟨.mov (.tm 0), .fr 0, none⟩])) <|
 .reg [
 ⟨.bin .add (.fr 3) (.c (.int .i64 1)), .tm, none⟩,
 ⟨.mov (.tm 0), .fr 3, none⟩]))) <|
 .seq (.reg [
 ⟨.mov (.fr 0), .tm, none⟩,
 ⟨.mov (.tm 0), .fr 2, none⟩]) <|
 .ret, [.t 2]⟩
def f109 : AFunc := ⟨[0, 2, 5],
 .seq (.reg [
 ⟨.mov (.c (.int .u32 0)), .fr 1, none⟩]) <|
 .seq (.seq (.reg [
 ⟨.mov (.fr 0), .tm, none⟩,
 ⟨.bin .and (.tm 0) (.c (.int .u32 1)), .tm, none⟩,
 ⟨.bin .gtr (.tm 0) (.c (.int .u32 0)), .fr 2, none⟩]) <|
 .cond (.fr 2)
 (.seq (.reg [
 ⟨.mov (.fr 0), .tm, none⟩,
 ⟨.bin .shr (.tm 0) (.c (.int .u64 1)), .tm, none⟩,
 ⟨.bin .xor (.tm 0) (.c (.int .u32 3988292384)), .tm, none⟩,
 ⟨.mov (.tm 0), .fr 1, none⟩]) <|
 .ret)
 (.skip)) <|
 .seq (.reg [
 ⟨.mov (.fr 0), .tm, none⟩,
 ⟨.bin .shr (.tm 0) (.c (.int .u64 1)), .tm, none⟩,
 ⟨.mov (.tm 0), .fr 1, none⟩]) <|
 .ret, [.t 1]⟩
def f115 : AFunc := ⟨[0, 1, 4, 5, 6, 7, 8, 13, 26, 33],
 .seq (.reg [
 ⟨.mov (.c (.int .u32 0)), .fr 2, none⟩]) <|
 .seq (.reg [
 ⟨.bslice 25 1 8 [(.int .u32 0), (.int .u32 0), (.int .u32 0), (.int .u32 0), (.int .u32 0), (.int .u32 0), (.int .u32 0), (.int .u32 0)] [(0, 1, (.c (.int .u32 1996959894))), (1, 1, (.c (.int .u32 3993919788))), (2, 1, (.c (.int .u32 124634137))), (3, 1, (.c (.int .u32 249268274))), (4, 1, (.c (.int .u32 498536548))), (5, 1, (.c (.int .u32 997073096))), (6, 1, (.c (.int .u32 1994146192))), (7, 1, (.c (.int .u32 3988292384)))], .tm, none⟩,
 ⟨.mov (.tm 0), .fr 3, none⟩]) <|
 .seq (.seq (.reg [
 ⟨.mov (.c (.int .i64 0)), .fr 4, none⟩]) <|
 .block 0 (.loop (.seq (.seq (.reg [
 ⟨.mov (.fr 4), .tm, none⟩,
 ⟨.mov (.fr 1), .tm, none⟩,
 ⟨.len false (.tm 0), .tm, none⟩,
 ⟨.bin .lss (.tm 2) (.tm 0), .fr 7, none⟩]) <|
 .cond (.fr 7)
 (.skip)
 (.exit 0)) <|
 .seq (.block 1 (.seq (.reg [
 ⟨.mov (.fr 0), .tm, none⟩,
 ⟨.i2i .u8 (.tm 0), .tm, none⟩,
 ⟨.mov (.fr 1), .tm, none⟩,
 ⟨.mov (.fr 4), .tm, none⟩,
 ⟨.iaddr 1 (.tm 1) (.tm 0), .tm, none⟩,
 ⟨.load1 (.tm 0), .tm, none⟩,
 ⟨.bin .xor (.tm 4) (.tm 0), .tm, none⟩,
 ⟨.mov (.tm 0), .fr 5, none⟩]) <|
 .seq (.reg [
 ⟨.mov (.fr 0), .tm, none⟩,
 ⟨.bin .shr (.tm 0) (.c (.int .u64 8)), .tm, none⟩,
 ⟨.mov (.tm 0), .fr 0, none⟩]) <|
 .seq (.reg [
 ⟨.mov (.c (.int .i64 0)), .fr 6, none⟩]) <|
 .block 2 (.loop (.seq (.seq (.reg [
 ⟨.mov (.fr 6), .tm, none⟩,
 ⟨.bin .lss (.tm 0) (.c (.int .i64 8)), .fr 8, none⟩]) <|
 .cond (.fr 8)
 (.skip)
 (.exit 2)) <|
 .seq (.block 3 (.seq (.reg [
 ⟨.mov (.fr 5), .tm, none⟩,
 ⟨.mov (.fr 6), .tm, none⟩,
 ⟨.bin .shr (.tm 1) (.tm 0), .tm, none⟩,
 ⟨.bin .and (.tm 0) (.c (.int .u8 1)), .tm, none⟩,
 ⟨.bin .eql (.tm 0) (.c (.int .u8 1)), .fr 9, none⟩]) <|
 .cond (.fr 9)
 (.reg [
 ⟨.mov (.fr 0), .tm, none⟩,
 ⟨.mov (.fr 3), .tm, none⟩,
 ⟨.mov (.fr 6), .tm, none⟩,
 ⟨.iaddr 1 (.tm 1) (.tm 0), .tm, none⟩,
 ⟨.load1 (.tm 0), .tm, none⟩,
 ⟨.bin .xor (.tm 4) (.tm 0), .tm, none⟩,
 ⟨.mov (.tm 0), .fr 0, none⟩])
 (.skip))) <|
 .reg [
 ⟨.mov (.fr 6), .tm, none⟩,
 ⟨.bin .add (.tm 0) (.c (.int .i64 1)), .tm, none⟩,
 ⟨.mov (.tm 0), .fr 6, none⟩])))) <|
 .reg [
 ⟨.mov (.fr 4), .tm, none⟩,
 ⟨.bin .add (.tm 0) (.c (.int .i64 1)), .tm, none⟩,
 ⟨.mov (.tm 0), .fr 4, none⟩]))) <|
 .seq (.reg [
 ⟨.mov (.fr 0), .tm, none⟩,
 ⟨.mov (.tm 0), .fr 2, none⟩]) <|
 .ret, [.t 2]⟩
theorem f97_ok : compF Go.Proofs.Try.prog 0 [0, 2, 3, 5, 6, 7, 8, 9] 97 = some f97 := by kernel_rfl
theorem f97_n : argsOK Go.Proofs.Try.prog 97 1 = true := by kernel_rfl
theorem f107_ok : compF Go.Proofs.Try.prog 0 [0, 2] 107 = some f107 := by kernel_rfl
theorem f107_n : argsOK Go.Proofs.Try.prog 107 1 = true := by kernel_rfl
theorem f108_ok : compF Go.Proofs.Try.prog 0 [0, 1, 4, 5, 6] 108 = some f108 := by kernel_rfl
theorem f108_n : argsOK Go.Proofs.Try.prog 108 2 = true := by kernel_rfl
theorem f109_ok : compF Go.Proofs.Try.prog 0 [0, 2, 5] 109 = some f109 := by kernel_rfl
theorem f109_n : argsOK Go.Proofs.Try.prog 109 1 = true := by kernel_rfl
theorem f115_ok : compF Go.Proofs.Try.prog 0 [0, 1, 4, 5, 6, 7, 8, 13, 26, 33] 115 = some f115 := by kernel_rfl
theorem f115_n : argsOK Go.Proofs.Try.prog 115 2 = true := by kernel_rfl
end Go.AM.F

set_option maxRecDepth 100000
namespace Go.AM.F
def Z68 : List Value := [(.int .u64 0), (.int .u64 0), (.int .u64 0), (.int .u8 0), (.int .u8 0), (.int .u8 0), (.int .u8 0), (.int .u8 0), (.int .u8 0), (.int .u8 0), (.int .u8 0), (.int .u8 0), (.int .u8 0), (.int .u8 0), (.int .u8 0), (.int .u8 0), (.int .u8 0), (.int .u8 0), (.int .u8 0), (.int .u8 0), (.int .u8 0), (.int .u8 0), (.int .u8 0), (.int .u8 0), (.int .u8 0), (.int .u8 0), (.int .u8 0), (.int .u8 0), (.int .u8 0), (.int .u8 0), (.int .u8 0), (.int .u8 0), (.int .u8 0), (.int .u8 0), (.int .u8 0), (.int .u8 0), (.int .u8 0), (.int .u8 0), (.int .u8 0), (.int .u8 0), (.int .u8 0), (.int .u8 0), (.int .u8 0), (.int .u8 0), (.int .u8 0), (.int .u8 0), (.int .u8 0), (.int .u8 0), (.int .u8 0), (.int .u8 0), (.int .u8 0), (.int .u8 0), (.int .u8 0), (.int .u8 0), (.int .u8 0), (.int .u8 0), (.int .u8 0), (.int .u8 0), (.int .u8 0), (.int .u8 0), (.int .u8 0), (.int .u8 0), (.int .u8 0), (.int .u8 0), (.int .u8 0), (.int .u8 0), (.int .u8 0), (.int .u32 0)]
def Z70 : List Value := [(.int .i64 0), (.int .i64 0), (.int .u64 0), (.int .u64 0), (.int .u64 0), (.int .u8 0), (.int .u8 0), (.int .u8 0), (.int .u8 0), (.int .u8 0), (.int .u8 0), (.int .u8 0), (.int .u8 0), (.int .u8 0), (.int .u8 0), (.int .u8 0), (.int .u8 0), (.int .u8 0), (.int .u8 0), (.int .u8 0), (.int .u8 0), (.int .u8 0), (.int .u8 0), (.int .u8 0), (.int .u8 0), (.int .u8 0), (.int .u8 0), (.int .u8 0), (.int .u8 0), (.int .u8 0), (.int .u8 0), (.int .u8 0), (.int .u8 0), (.int .u8 0), (.int .u8 0), (.int .u8 0), (.int .u8 0), (.int .u8 0), (.int .u8 0), (.int .u8 0), (.int .u8 0), (.int .u8 0), (.int .u8 0), (.int .u8 0), (.int .u8 0), (.int .u8 0), (.int .u8 0), (.int .u8 0), (.int .u8 0), (.int .u8 0), (.int .u8 0), (.int .u8 0), (.int .u8 0), (.int .u8 0), (.int .u8 0), (.int .u8 0), (.int .u8 0), (.int .u8 0), (.int .u8 0), (.int .u8 0), (.int .u8 0), (.int .u8 0), (.int .u8 0), (.int .u8 0), (.int .u8 0), (.int .u8 0), (.int .u8 0), (.int .u8 0), (.int .u8 0), (.int .u32 0)]
def f24 : AFunc := ⟨[0, 2, 3, 4, 5, 6],
 .seq (.reg [
 ⟨.new 65 5 [(.int .u8 0), (.int .u8 0), (.int .i64 0), (.int .i64 0), (.slice none 0 0)], .fr 1, none⟩,
 ⟨.mov (.c (.int .i64 0)), .fr 2, none⟩]) <|
 .seq (.reg [
 ⟨.mov (.fr 0), .tm, none⟩,
 ⟨.callf 62 [(.c (.int .u8 5)), (.tm 0)], .tm, none⟩,
 ⟨.mov (.tm 0), .tm, none⟩,
 ⟨.extract (.tm 0) 0, .tm, none⟩,
 ⟨.extract (.tm 1) 1, .tm, none⟩,
 ⟨.mov (.tm 1), .fr 3, none⟩,
 ⟨.mov (.tm 0), .fr 4, none⟩]) <|
 .seq (.reg [
 ⟨.mov (.fr 3), .tm, none⟩,
 ⟨.callf 63 [(.tm 0)], .tm, none⟩,
 ⟨.mov (.fr 3), .tm, none⟩,
 ⟨.callf 63 [(.tm 0)], .tm, none⟩,
 ⟨.mov (.fr 3), .tm, none⟩,
 ⟨.callf 64 [(.tm 0)], .tm, none⟩,
 ⟨.i2i .i64 (.tm 0), .tm, none⟩,
 ⟨.mov (.fr 3), .tm, none⟩,
 ⟨.callf 64 [(.tm 0)], .tm, none⟩,
 ⟨.i2i .i64 (.tm 0), .tm, none⟩,
 ⟨.build [(.int .u8 0), (.int .u8 0), (.int .i64 0), (.int .i64 0), (.slice none 0 0)] [(0, 1, (.tm 8)), (1, 1, (.tm 6)), (2, 1, (.tm 3)), (3, 1, (.tm 0))], .tm, none⟩,
 ⟨.new 65 5 [(.int .u8 0), (.int .u8 0), (.int .i64 0), (.int .i64 0), (.slice none 0 0)], .fr 5, none⟩,
 ⟨.storen 5 (.fr 5) (.tm 0), .no, none⟩]) <|
 .seq (.reg [
 ⟨.mov (.fr 3), .tm, none⟩,
 ⟨.mov (.fr 3), .tm, none⟩,
 ⟨.callf 75 [(.tm 0)], .tm, none⟩,
 ⟨.i2i .i64 (.tm 0), .tm, none⟩,
 ⟨.callf 74 [(.tm 3), (.tm 0)], .tm, none⟩,
 ⟨.callf 73 [(.tm 0)], .tm, none⟩,
 ⟨.faddr 4 (.fr 5), .tm, none⟩,
 ⟨.store1 (.tm 0) (.tm 1), .no, none⟩]) <|
 .seq (.reg [
 ⟨.mov (.fr 3), .tm, none⟩,
 ⟨.mov (.fr 4), .tm, none⟩,
 ⟨.loadn 5 (.fr 5), .tm, none⟩,
 ⟨.callf 76 [(.tm 2), (.tm 1), (.tm 0)], .tm, none⟩,
 ⟨.extract (.tm 0) 0, .tm, none⟩,
 ⟨.extract (.tm 1) 1, .tm, none⟩,
 ⟨.storen 5 (.fr 1) (.tm 1), .no, none⟩,
 ⟨.mov (.tm 0), .fr 2, none⟩]) <|
 .ret, [.cn 5 1, .t 2]⟩
def f25 : AFunc := ⟨[0, 2, 3, 4, 7, 33],
 .seq (.reg [
 ⟨.new 69 5 [(.int .u8 0), (.int .u8 0), (.int .i64 0), (.int .i64 0), (.string ByteArray.empty)], .fr 1, none⟩,
 ⟨.mov (.c (.bool false)), .fr 2, none⟩]) <|
 .seq (.seq (.reg [
 ⟨.mov (.fr 0), .tm, none⟩,
 ⟨.len false (.tm 0), .tm, none⟩,
 ⟨.bin .lss (.tm 0) (.c (.int .i64 25)), .fr 4, none⟩]) <|
 .cond (.fr 4)
 (.seq (.reg [
 ⟨.build [(.int .u8 0), (.int .u8 0), (.int .i64 0), (.int .i64 0), (.string ByteArray.empty)] [], .tm, none⟩,
 ⟨.storen 5 (.fr 1) (.tm 0), .no, none⟩,
 ⟨.mov (.c (.bool false)), .fr 2, none⟩]) <|
 .ret)
 (.skip)) <|
 .seq (.dreg [
 (⟨.mov (.fr 0), .tm, none⟩, []),
 (⟨.iaddr 1 (.tm 0) (.c (.int .i64 1)), .tm, none⟩, []),
 (⟨.load1 (.tm 0), .tm, none⟩, []),
 (⟨.mov (.fr 0), .tm, none⟩, []),
 (⟨.iaddr 1 (.tm 0) (.c (.int .i64 2)), .tm, none⟩, []),
 (⟨.load1 (.tm 0), .tm, none⟩, []),
 (⟨.mov (.fr 0), .tm, none⟩, []),
 (⟨.callf 67 [(.tm 0), (.c (.int .i64 3)), (.c (.int .i64 8))], .tm, none⟩, [2, 5]),
 (⟨.i2i .i64 (.tm 0), .tm, none⟩, []),
 (⟨.mov (.fr 0), .tm, none⟩, []),
 (⟨.callf 67 [(.tm 0), (.c (.int .i64 11)), (.c (.int .i64 8))], .tm, none⟩, [2, 5]),
 (⟨.i2i .i64 (.tm 0), .tm, none⟩, []),
 (⟨.mov (.fr 0), .tm, none⟩, []),
 (⟨.mov (.fr 0), .tm, none⟩, []),
 (⟨.len false (.tm 0), .tm, none⟩, []),
 (⟨.bin .sub (.tm 0) (.c (.int .i64 4)), .tm, none⟩, []),
 (⟨.slsl 1 (.tm 3) (some (.c (.int .i64 21))) (some (.tm 0)) none, .tm, none⟩, [7, 10]),
 (⟨.b2s (.tm 0), .tm, none⟩, [7, 10]),
 (⟨.build [(.int .u8 0), (.int .u8 0), (.int .i64 0), (.int .i64 0), (.string ByteArray.empty)] [(0, 1, (.tm 15)), (1, 1, (.tm 12)), (2, 1, (.tm 9)), (3, 1, (.tm 6)), (4, 1, (.tm 0))], .tm, none⟩, []),
 (⟨.new 69 5 [(.int .u8 0), (.int .u8 0), (.int .i64 0), (.int .i64 0), (.string ByteArray.empty)], .fr 3, none⟩, []),
 (⟨.storen 5 (.fr 3) (.tm 0), .no, none⟩, [])]) <|
 .seq (.seq (.dreg [
 (⟨.loadn 5 (.fr 3), .tm, none⟩, []),
 (⟨.callf 52 [(.tm 0)], .tm, none⟩, []),
 (⟨.b2s (.tm 0), .tm, none⟩, []),
 (⟨.mov (.fr 0), .tm, none⟩, []),
 (⟨.b2s (.tm 0), .tm, none⟩, [1]),
 (⟨.bin .neq (.tm 2) (.tm 0), .fr 5, none⟩, [])]) <|
 .cond (.fr 5)
 (.seq (.reg [
 ⟨.build [(.int .u8 0), (.int .u8 0), (.int .i64 0), (.int .i64 0), (.string ByteArray.empty)] [], .tm, none⟩,
 ⟨.storen 5 (.fr 1) (.tm 0), .no, none⟩,
 ⟨.mov (.c (.bool false)), .fr 2, none⟩]) <|
 .ret)
 (.skip)) <|
 .seq (.reg [
 ⟨.loadn 5 (.fr 3), .tm, none⟩,
 ⟨.storen 5 (.fr 1) (.tm 0), .no, none⟩,
 ⟨.mov (.c (.bool true)), .fr 2, none⟩]) <|
 .ret, [.cn 5 1, .t 2]⟩
def f36 : AFunc := ⟨[0, 1, 2],
 .seq (.reg [
 ⟨.box 65 5 (.fr 0), .fr 1, none⟩,
 ⟨.mov (.c (.slice none 0 0)), .fr 2, none⟩]) <|
 .seq (.reg [
 ⟨.loadn 5 (.fr 1), .tm, none⟩,
 ⟨.iface 65 (.tm 0), .tm, none⟩,
 ⟨.mkfn (.func 78) [] [(.fr 1)], .tm, none⟩,
 ⟨.callf 77 [(.c (.int .u8 5)), (.tm 1), (.tm 0)], .tm, none⟩,
 ⟨.mov (.tm 0), .fr 2, none⟩]) <|
 .ret, [.t 2]⟩
def f52 : AFunc := ⟨[0, 1, 2, 3, 27],
 .seq (.reg [
 ⟨.box 69 5 (.fr 0), .fr 1, none⟩,
 ⟨.mov (.c (.slice none 0 0)), .fr 2, none⟩]) <|
 .seq (.seq (.reg [
 ⟨.faddr 2 (.fr 1), .tm, none⟩,
 ⟨.load1 (.tm 0), .tm, none⟩,
 ⟨.bin .lss (.tm 0) (.c (.int .i64 0)), .tm, none⟩,
 ⟨.mov (.tm 0), .tm, none⟩,
 ⟨.faddr 2 (.fr 1), .tm, some ((.tm 0), false)⟩,
 ⟨.load1 (.tm 0), .tm, some ((.tm 1), false)⟩,
 ⟨.bin .gtr (.tm 0) (.c (.int .i64 4611686018427387904)), .tm, some ((.tm 2), false)⟩,
 ⟨.pick (.tm 3) (.c (.bool true)) (.tm 0), .tm, none⟩,
 ⟨.mov (.tm 0), .tm, none⟩,
 ⟨.faddr 3 (.fr 1), .tm, some ((.tm 0), false)⟩,
 ⟨.load1 (.tm 0), .tm, some ((.tm 1), false)⟩,
 ⟨.bin .lss (.tm 0) (.c (.int .i64 0)), .tm, some ((.tm 2), false)⟩,
 ⟨.pick (.tm 3) (.c (.bool true)) (.tm 0), .tm, none⟩,
 ⟨.mov (.tm 0), .tm, none⟩,
 ⟨.faddr 3 (.fr 1), .tm, some ((.tm 0), false)⟩,
 ⟨.load1 (.tm 0), .tm, some ((.tm 1), false)⟩,
 ⟨.bin .gtr (.tm 0) (.c (.int .i64 4611686018427387904)), .tm, some ((.tm 2), false)⟩,
 ⟨.pick (.tm 3) (.c (.bool true)) (.tm 0), .tm, none⟩,
 ⟨.mov (.tm 0), .tm, none⟩,
 ⟨.faddr 4 (.fr 1), .tm, some ((.tm 0), false)⟩,
 ⟨.load1 (.tm 0), .tm, some ((.tm 1), false)⟩,
 ⟨.len true (.tm 0), .tm, some ((.tm 2), false)⟩,
 ⟨.bin .gtr (.tm 0) (.c (.int .i64 2048)), .tm, some ((.tm 3), false)⟩,
 ⟨.pick (.tm 4) (.c (.bool true)) (.tm 0), .fr 4, none⟩]) <|
 .cond (.fr 4)
 (.seq (.reg [
 ⟨.mov (.c (.slice none 0 0)), .fr 2, none⟩]) <|
 .ret)
 (.skip)) <|
 .seq (.reg [
 ⟨.faddr 0 (.fr 1), .tm, none⟩,
 ⟨.load1 (.tm 0), .tm, none⟩,
 ⟨.faddr 1 (.fr 1), .tm, none⟩,
 ⟨.load1 (.tm 0), .tm, none⟩,
 ⟨.bslice 5 1 3 [(.int .u8 0), (.int .u8 0), (.int .u8 0)] [(0, 1, (.c (.int .u8 5))), (1, 1, (.tm 2)), (2, 1, (.tm 0))], .tm, none⟩,
 ⟨.mov (.tm 0), .fr 3, none⟩]) <|
 .seq (.reg [
 ⟨.mov (.fr 3), .tm, none⟩,
 ⟨.faddr 2 (.fr 1), .tm, none⟩,
 ⟨.load1 (.tm 0), .tm, none⟩,
 ⟨.i2i .u64 (.tm 0), .tm, none⟩,
 ⟨.callf 91 [(.tm 0), (.c (.int .i64 8))], .tm, none⟩,
 ⟨.app 5 1 1 (.tm 4) (.tm 0), .tm, none⟩,
 ⟨.mov (.tm 0), .fr 3, none⟩]) <|
 .seq (.reg [
 ⟨.mov (.fr 3), .tm, none⟩,
 ⟨.faddr 3 (.fr 1), .tm, none⟩,
 ⟨.load1 (.tm 0), .tm, none⟩,
 ⟨.i2i .u64 (.tm 0), .tm, none⟩,
 ⟨.callf 91 [(.tm 0), (.c (.int .i64 8))], .tm, none⟩,
 ⟨.app 5 1 1 (.tm 4) (.tm 0), .tm, none⟩,
 ⟨.mov (.tm 0), .fr 3, none⟩]) <|
 .seq (.reg [
 ⟨.mov (.fr 3), .tm, none⟩,
 ⟨.faddr 4 (.fr 1), .tm, none⟩,
 ⟨.load1 (.tm 0), .tm, none⟩,
 ⟨.len true (.tm 0), .tm, none⟩,
 ⟨.i2i .u64 (.tm 0), .tm, none⟩,
 ⟨.callf 91 [(.tm 0), (.c (.int .i64 2))], .tm, none⟩,
 ⟨.app 5 1 1 (.tm 5) (.tm 0), .tm, none⟩,
 ⟨.mov (.tm 0), .fr 3, none⟩]) <|
 .seq (.reg [
 ⟨.mov (.fr 3), .tm, none⟩,
 ⟨.faddr 4 (.fr 1), .tm, none⟩,
 ⟨.load1 (.tm 0), .tm, none⟩,
 ⟨.apps 5 1 (.tm 2) (.tm 0), .tm, none⟩,
 ⟨.callf 92 [(.tm 0)], .tm, none⟩,
 ⟨.mov (.tm 0), .fr 2, none⟩]) <|
 .ret, [.t 2]⟩
def f62 : AFunc := ⟨[0, 1, 4, 5, 6, 16],
 .seq (.reg [
 ⟨.mov (.c (.pointer none)), .fr 2, none⟩,
 ⟨.mov (.c (.bool false)), .fr 3, none⟩]) <|
 .seq (.seq (.reg [
 ⟨.mov (.fr 1), .tm, none⟩,
 ⟨.len false (.tm 0), .tm, none⟩,
 ⟨.bin .lss (.tm 0) (.c (.int .i64 5)), .tm, none⟩,
 ⟨.mov (.tm 0), .tm, none⟩,
 ⟨.mov (.fr 1), .tm, some ((.tm 0), false)⟩,
 ⟨.iaddr 1 (.tm 0) (.c (.int .i64 0)), .tm, some ((.tm 1), false)⟩,
 ⟨.load1 (.tm 0), .tm, some ((.tm 2), false)⟩,
 ⟨.mov (.fr 0), .tm, some ((.tm 3), false)⟩,
 ⟨.bin .neq (.tm 1) (.tm 0), .tm, some ((.tm 4), false)⟩,
 ⟨.pick (.tm 5) (.c (.bool true)) (.tm 0), .fr 5, none⟩]) <|
 .cond (.fr 5)
 (.seq (.reg [
 ⟨.mov (.c (.pointer none)), .fr 2, none⟩,
 ⟨.mov (.c (.bool false)), .fr 3, none⟩]) <|
 .ret)
 (.skip)) <|
 .seq (.reg [
 ⟨.mov (.fr 1), .tm, none⟩,
 ⟨.mov (.fr 1), .tm, none⟩,
 ⟨.len false (.tm 0), .tm, none⟩,
 ⟨.bin .sub (.tm 0) (.c (.int .i64 4)), .tm, none⟩,
 ⟨.slsl 1 (.tm 3) (some (.tm 0)) none none, .tm, none⟩,
 ⟨.callf 96 [(.tm 0)], .tm, none⟩,
 ⟨.mov (.tm 0), .fr 4, none⟩]) <|
 .seq (.dreg [
 (⟨.mov (.fr 1), .tm, none⟩, []),
 (⟨.mov (.fr 1), .tm, none⟩, []),
 (⟨.len false (.tm 0), .tm, none⟩, []),
 (⟨.bin .sub (.tm 0) (.c (.int .i64 4)), .tm, none⟩, []),
 (⟨.slsl 1 (.tm 3) (some (.c (.int .i64 1))) (some (.tm 0)) none, .tm, none⟩, []),
 (⟨.callf 96 [(.tm 0)], .tm, none⟩, []),
 (⟨.mov (.fr 4), .tm, none⟩, []),
 (⟨.callf 65 [(.tm 0)], .tm, none⟩, []),
 (⟨.mov (.fr 1), .tm, none⟩, []),
 (⟨.mov (.fr 1), .tm, none⟩, []),
 (⟨.len false (.tm 0), .tm, none⟩, []),
 (⟨.bin .sub (.tm 0) (.c (.int .i64 4)), .tm, none⟩, []),
 (⟨.slsl 1 (.tm 3) none (some (.tm 0)) none, .tm, none⟩, [5, 7]),
 (⟨.callf 97 [(.tm 0)], .tm, none⟩, []),
 (⟨.bin .eql (.tm 6) (.tm 0), .tm, none⟩, []),
 (⟨.mov (.tm 9), .fr 2, none⟩, []),
 (⟨.mov (.tm 0), .fr 3, none⟩, [])]) <|
 .ret, [.t 2, .t 3]⟩
def f67 : AFunc := ⟨[0, 1, 2, 6, 12],
 .seq (.reg [
 ⟨.mov (.c (.int .u64 0)), .fr 3, none⟩]) <|
 .seq (.seq (.reg [
 ⟨.mov (.fr 1), .tm, none⟩,
 ⟨.mov (.fr 2), .tm, none⟩,
 ⟨.bin .add (.tm 1) (.tm 0), .tm, none⟩,
 ⟨.mov (.fr 0), .tm, none⟩,
 ⟨.len false (.tm 0), .tm, none⟩,
 ⟨.bin .gtr (.tm 2) (.tm 0), .fr 4, none⟩]) <|
 .cond (.fr 4)
 (.seq (.reg [
 ⟨.mov (.c (.int .u64 0)), .fr 3, none⟩]) <|
 .ret)
 (.skip)) <|
 .seq (.reg [
 ⟨.mov (.fr 0), .tm, none⟩,
 ⟨.mov (.fr 1), .tm, none⟩,
 ⟨.mov (.fr 1), .tm, none⟩,
 ⟨.mov (.fr 2), .tm, none⟩,
 ⟨.bin .add (.tm 1) (.tm 0), .tm, none⟩,
 ⟨.slsl 1 (.tm 4) (some (.tm 3)) (some (.tm 0)) none, .tm, none⟩,
 ⟨.callf 102 [(.tm 0)], .tm, none⟩,
 ⟨.mov (.tm 0), .fr 3, none⟩]) <|
 .ret, [.t 3]⟩
def f76 : AFunc := ⟨[0, 1, 2, 5, 6, 7, 8, 25],
 .seq (.reg [
 ⟨.box 65 5 (.fr 2), .fr 3, none⟩,
 ⟨.new 65 5 [(.int .u8 0), (.int .u8 0), (.int .i64 0), (.int .i64 0), (.slice none 0 0)], .fr 4, none⟩,
 ⟨.mov (.c (.int .i64 0)), .fr 5, none⟩]) <|
 .seq (.reg [
 ⟨.new 65 5 [(.int .u8 0), (.int .u8 0), (.int .i64 0), (.int .i64 0), (.slice none 0 0)], .fr 6, none⟩]) <|
 .seq (.seq (.reg [
 ⟨.mov (.fr 1), .tm, none⟩,
 ⟨.un .not (.tm 0), .tm, none⟩,
 ⟨.mov (.tm 0), .tm, none⟩,
 ⟨.mov (.fr 0), .tm, some ((.tm 0), false)⟩,
 ⟨.callf 99 [(.tm 0)], .tm, some ((.tm 1), false)⟩,
 ⟨.pick (.tm 2) (.c (.bool true)) (.tm 0), .tm, none⟩,
 ⟨.mov (.tm 0), .tm, none⟩,
 ⟨.mov (.fr 0), .tm, some ((.tm 0), false)⟩,
 ⟨.callf 100 [(.tm 0)], .tm, some ((.tm 1), false)⟩,
 ⟨.bin .gtr (.tm 0) (.c (.int .i64 0)), .tm, some ((.tm 2), false)⟩,
 ⟨.pick (.tm 3) (.c (.bool true)) (.tm 0), .tm, none⟩,
 ⟨.mov (.tm 0), .tm, none⟩,
 ⟨.loadn 5 (.fr 3), .tm, some ((.tm 0), false)⟩,
 ⟨.iface 65 (.tm 0), .tm, some ((.tm 1), false)⟩,
 ⟨.callf 101 [(.tm 0)], .tm, some ((.tm 2), false)⟩,
 ⟨.un .not (.tm 0), .tm, some ((.tm 3), false)⟩,
 ⟨.pick (.tm 4) (.c (.bool true)) (.tm 0), .fr 7, none⟩]) <|
 .cond (.fr 7)
 (.seq (.reg [
 ⟨.loadn 5 (.fr 6), .tm, none⟩,
 ⟨.storen 5 (.fr 4) (.tm 0), .no, none⟩,
 ⟨.mov (.c (.int .i64 130)), .fr 5, none⟩]) <|
 .ret)
 (.skip)) <|
 .seq (.reg [
 ⟨.loadn 5 (.fr 3), .tm, none⟩,
 ⟨.storen 5 (.fr 4) (.tm 0), .no, none⟩,
 ⟨.mov (.c (.int .i64 0)), .fr 5, none⟩]) <|
 .ret, [.cn 5 4, .t 5]⟩
def f77 : AFunc := ⟨[0, 1, 2, 6, 7, 10],
 .seq (.reg [
 ⟨.mov (.c (.slice none 0 0)), .fr 3, none⟩]) <|
 .seq (.seq (.reg [
 ⟨.mov (.fr 1), .tm, none⟩,
 ⟨.callf 101 [(.tm 0)], .tm, none⟩,
 ⟨.un .not (.tm 0), .fr 5, none⟩]) <|
 .cond (.fr 5)
 (.seq (.reg [
 ⟨.mov (.c (.slice none 0 0)), .fr 3, none⟩]) <|
 .ret)
 (.skip)) <|
 .seq (.reg [
 ⟨.new 166 1 [(.slice none 0 0)], .fr 4, none⟩]) <|
 .seq (.reg [
 ⟨.mov (.fr 0), .tm, none⟩,
 ⟨.callf 79 [(.fr 4), (.tm 0)], .tm, none⟩]) <|
 .seq (.reg [
 ⟨.mov (.fr 2), .tm, none⟩,
 ⟨.callv (.tm 0) [(.fr 4)], .tm, none⟩]) <|
 .seq (.reg [
 ⟨.callf 104 [(.fr 4)], .tm, none⟩,
 ⟨.callf 97 [(.tm 0)], .tm, none⟩,
 ⟨.callf 85 [(.fr 4), (.tm 0)], .tm, none⟩]) <|
 .seq (.reg [
 ⟨.callf 104 [(.fr 4)], .tm, none⟩,
 ⟨.mov (.tm 0), .fr 3, none⟩]) <|
 .ret, [.t 3]⟩
def f78 : AFunc := ⟨[0, 1],
 .seq (.reg [
 ⟨.mov (.fr 0), .tm, none⟩,
 ⟨.faddr 0 (.fr 1), .tm, none⟩,
 ⟨.load1 (.tm 0), .tm, none⟩,
 ⟨.callf 79 [(.tm 2), (.tm 0)], .tm, none⟩]) <|
 .seq (.reg [
 ⟨.mov (.fr 0), .tm, none⟩,
 ⟨.faddr 1 (.fr 1), .tm, none⟩,
 ⟨.load1 (.tm 0), .tm, none⟩,
 ⟨.callf 79 [(.tm 2), (.tm 0)], .tm, none⟩]) <|
 .seq (.reg [
 ⟨.mov (.fr 0), .tm, none⟩,
 ⟨.faddr 2 (.fr 1), .tm, none⟩,
 ⟨.load1 (.tm 0), .tm, none⟩,
 ⟨.faddr 3 (.fr 1), .tm, none⟩,
 ⟨.load1 (.tm 0), .tm, none⟩,
 ⟨.bslice 2 1 2 [(.int .i64 0), (.int .i64 0)] [(0, 1, (.tm 2)), (1, 1, (.tm 0))], .tm, none⟩,
 ⟨.callf 80 [(.tm 5), (.tm 0)], .tm, none⟩]) <|
 .seq (.reg [
 ⟨.mov (.fr 0), .tm, none⟩,
 ⟨.faddr 4 (.fr 1), .tm, none⟩,
 ⟨.load1 (.tm 0), .tm, none⟩,
 ⟨.len false (.tm 0), .tm, none⟩,
 ⟨.i2i .u16 (.tm 0), .tm, none⟩,
 ⟨.callf 81 [(.tm 4), (.tm 0)], .tm, none⟩]) <|
 .reg [
 ⟨.mov (.fr 0), .tm, none⟩,
 ⟨.faddr 4 (.fr 1), .tm, none⟩,
 ⟨.load1 (.tm 0), .tm, none⟩,
 ⟨.callf 82 [(.tm 2), (.tm 0)], .tm, none⟩], []⟩
def f80 : AFunc := ⟨[0, 1, 5, 6, 7, 8, 9],
 .seq (.reg [
 ⟨.mov (.fr 1), .fr 3, none⟩,
 ⟨.len false (.fr 3), .fr 4, none⟩,
 ⟨.mov (.c (.int .i64 0)), .fr 5, none⟩]) <|
 .block 0 (.loop (.seq (.reg [
 ⟨.bin .lss (.fr 5) (.fr 4), .fr 6, none⟩]) <|
 .seq (.cond (.fr 6)
 (.skip)
 (.exit 0)) <|
 .seq (.block 1 (.seq (.reg [
 ⟨.iaddr 1 (.fr 3) (.fr 5), .tm, none⟩,
 ⟨.load1 (.tm 0), .tm, none⟩,
 ⟨.mov (.tm 0), .fr 2, none⟩]) <|
 .reg [
 ⟨.mov (.fr 0), .tm, none⟩,
 ⟨.mov (.fr 2), .tm, none⟩,
 ⟨.i2i .u64 (.tm 0), .tm, none⟩,
 ⟨.callf 84 [(.tm 2), (.tm 0)], .tm, none⟩])) <|
 .reg [
 ⟨.bin .add (.fr 5) (.c (.int .i64 1)), .tm, none⟩,
 ⟨.mov (.tm 0), .fr 5, none⟩])), []⟩
def f91 : AFunc := ⟨[0, 1, 4],
 .seq (.reg [
 ⟨.mov (.c (.slice none 0 0)), .fr 2, none⟩]) <|
 .seq (.reg [
 ⟨.mov (.fr 0), .tm, none⟩,
 ⟨.mov (.fr 1), .tm, none⟩,
 ⟨.callf 106 [(.tm 1), (.tm 0)], .tm, none⟩,
 ⟨.mov (.tm 0), .fr 2, none⟩]) <|
 .ret, [.t 2]⟩
def f92 : AFunc := ⟨[0, 2],
 .seq (.reg [
 ⟨.mov (.c (.slice none 0 0)), .fr 1, none⟩]) <|
 .seq (.reg [
 ⟨.mov (.fr 0), .tm, none⟩,
 ⟨.mov (.fr 0), .tm, none⟩,
 ⟨.callf 107 [(.tm 0)], .tm, none⟩,
 ⟨.i2i .u64 (.tm 0), .tm, none⟩,
 ⟨.callf 91 [(.tm 0), (.c (.int .i64 4))], .tm, none⟩,
 ⟨.app 5 1 1 (.tm 4) (.tm 0), .tm, none⟩,
 ⟨.mov (.tm 0), .fr 1, none⟩]) <|
 .ret, [.t 1]⟩
def f101 : AFunc := ⟨[0, 2, 3, 4, 5, 6, 7, 8, 9, 10, 16, 40, 52],
 .seq (.reg [
 ⟨.mov (.c (.bool false)), .fr 1, none⟩]) <|
 .seq (.seq (.reg [
 ⟨.mov (.fr 0), .tm, none⟩,
 ⟨.assert 30 (.agg #[(.int .u8 0), (.int .i64 0), (.int .u64 0), (.int .u32 0), (.int .u32 0), (.slice none 0 0)]) true (.tm 0), .tm, none⟩,
 ⟨.mov (.tm 0), .tm, none⟩,
 ⟨.extract (.tm 0) 0, .tm, none⟩,
 ⟨.extract (.tm 1) 1, .tm, none⟩,
 ⟨.new 30 6 [(.int .u8 0), (.int .i64 0), (.int .u64 0), (.int .u32 0), (.int .u32 0), (.slice none 0 0)], .fr 2, none⟩,
 ⟨.storen 6 (.fr 2) (.tm 1), .no, none⟩,
 ⟨.mov (.tm 0), .fr 3, none⟩]) <|
 .seq (.reg [
 ⟨.mov (.fr 3), .fr 10, none⟩]) <|
 .cond (.fr 10)
 (.seq (.reg [
 ⟨.faddr 1 (.fr 2), .tm, none⟩,
 ⟨.load1 (.tm 0), .tm, none⟩,
 ⟨.bslice 2 1 1 [(.int .i64 0)] [(0, 1, (.tm 0))], .tm, none⟩,
 ⟨.callf 111 [(.tm 0)], .tm, none⟩,
 ⟨.mov (.tm 0), .tm, none⟩,
 ⟨.faddr 2 (.fr 2), .tm, some ((.tm 0), true)⟩,
 ⟨.faddr 3 (.tm 0), .tm, some ((.tm 1), true)⟩,
 ⟨.load1 (.tm 0), .tm, some ((.tm 2), true)⟩,
 ⟨.len false (.tm 0), .tm, some ((.tm 3), true)⟩,
 ⟨.bin .leq (.tm 0) (.c (.int .i64 8)), .tm, some ((.tm 4), true)⟩,
 ⟨.pick (.tm 5) (.tm 0) (.c (.bool false)), .tm, none⟩,
 ⟨.mov (.tm 0), .tm, none⟩,
 ⟨.faddr 2 (.fr 2), .tm, some ((.tm 0), true)⟩,
 ⟨.faddr 3 (.tm 0), .tm, some ((.tm 1), true)⟩,
 ⟨.load1 (.tm 0), .tm, some ((.tm 2), true)⟩,
 ⟨.callf 112 [(.tm 0), (.fn 113)], .tm, some ((.tm 3), true)⟩,
 ⟨.un .not (.tm 0), .tm, some ((.tm 4), true)⟩,
 ⟨.pick (.tm 5) (.tm 0) (.c (.bool false)), .tm, none⟩,
 ⟨.mov (.tm 0), .fr 1, none⟩]) <|
 .ret)
 (.skip)) <|
 .seq (.seq (.reg [
 ⟨.mov (.fr 0), .tm, none⟩,
 ⟨.assert 42 (.agg #[(.int .u8 0), (.int .i64 0), (.int .i64 0), (.int .u64 0), (.int .u32 0)]) true (.tm 0), .tm, none⟩,
 ⟨.mov (.tm 0), .tm, none⟩,
 ⟨.extract (.tm 0) 0, .tm, none⟩,
 ⟨.extract (.tm 1) 1, .tm, none⟩,
 ⟨.new 42 5 [(.int .u8 0), (.int .i64 0), (.int .i64 0), (.int .u64 0), (.int .u32 0)], .fr 4, none⟩,
 ⟨.storen 5 (.fr 4) (.tm 1), .no, none⟩,
 ⟨.mov (.tm 0), .fr 5, none⟩]) <|
 .seq (.reg [
 ⟨.mov (.fr 5), .fr 11, none⟩]) <|
 .cond (.fr 11)
 (.seq (.reg [
 ⟨.faddr 1 (.fr 4), .tm, none⟩,
 ⟨.load1 (.tm 0), .tm, none⟩,
 ⟨.faddr 2 (.fr 4), .tm, none⟩,
 ⟨.load1 (.tm 0), .tm, none⟩,
 ⟨.bslice 2 1 2 [(.int .i64 0), (.int .i64 0)] [(0, 1, (.tm 2)), (1, 1, (.tm 0))], .tm, none⟩,
 ⟨.callf 111 [(.tm 0)], .tm, none⟩,
 ⟨.mov (.tm 0), .fr 1, none⟩]) <|
 .ret)
 (.skip)) <|
 .seq (.seq (.reg [
 ⟨.mov (.fr 0), .tm, none⟩,
 ⟨.assert 57 (.agg Z70.toArray) true (.tm 0), .tm, none⟩,
 ⟨.mov (.tm 0), .tm, none⟩,
 ⟨.extract (.tm 0) 0, .tm, none⟩,
 ⟨.extract (.tm 1) 1, .tm, none⟩,
 ⟨.new 57 70 Z70, .fr 6, none⟩,
 ⟨.storen 70 (.fr 6) (.tm 1), .no, none⟩,
 ⟨.mov (.tm 0), .fr 7, none⟩]) <|
 .seq (.reg [
 ⟨.mov (.fr 7), .fr 12, none⟩]) <|
 .cond (.fr 12)
 (.seq (.reg [
 ⟨.faddr 0 (.fr 6), .tm, none⟩,
 ⟨.load1 (.tm 0), .tm, none⟩,
 ⟨.faddr 1 (.fr 6), .tm, none⟩,
 ⟨.load1 (.tm 0), .tm, none⟩,
 ⟨.bslice 2 1 2 [(.int .i64 0), (.int .i64 0)] [(0, 1, (.tm 2)), (1, 1, (.tm 0))], .tm, none⟩,
 ⟨.callf 111 [(.tm 0)], .tm, none⟩,
 ⟨.mov (.tm 0), .fr 1, none⟩]) <|
 .ret)
 (.skip)) <|
 .seq (.reg [
 ⟨.mov (.fr 0), .tm, none⟩,
 ⟨.assert 65 (.agg #[(.int .u8 0), (.int .u8 0), (.int .i64 0), (.int .i64 0), (.slice none 0 0)]) true (.tm 0), .tm, none⟩,
 ⟨.mov (.tm 0), .tm, none⟩,
 ⟨.extract (.tm 0) 0, .tm, none⟩,
 ⟨.extract (.tm 1) 1, .tm, none⟩,
 ⟨.new 65 5 [(.int .u8 0), (.int .u8 0), (.int .i64 0), (.int .i64 0), (.slice none 0 0)], .fr 8, none⟩,
 ⟨.storen 5 (.fr 8) (.tm 1), .no, none⟩,
 ⟨.mov (.tm 0), .fr 9, none⟩]) <|
 .seq (.reg [
 ⟨.mov (.fr 9), .tm, none⟩,
 ⟨.un .not (.tm 0), .tm, none⟩,
 ⟨.mov (.tm 0), .tm, none⟩,
 ⟨.faddr 2 (.fr 8), .tm, some ((.tm 0), false)⟩,
 ⟨.load1 (.tm 0), .tm, some ((.tm 1), false)⟩,
 ⟨.bin .geq (.tm 0) (.c (.int .i64 0)), .tm, some ((.tm 2), false)⟩,
 ⟨.mov (.tm 0), .tm, some ((.tm 3), false)⟩,
 ⟨.faddr 2 (.fr 8), .tm, some ((.tm 0), true)⟩,
 ⟨.load1 (.tm 0), .tm, some ((.tm 1), true)⟩,
 ⟨.bin .leq (.tm 0) (.c (.int .i64 4611686018427387904)), .tm, some ((.tm 2), true)⟩,
 ⟨.pick (.tm 3) (.tm 0) (.c (.bool false)), .tm, some ((.tm 7), false)⟩,
 ⟨.mov (.tm 0), .tm, some ((.tm 8), false)⟩,
 ⟨.faddr 3 (.fr 8), .tm, some ((.tm 0), true)⟩,
 ⟨.load1 (.tm 0), .tm, some ((.tm 1), true)⟩,
 ⟨.bin .geq (.tm 0) (.c (.int .i64 0)), .tm, some ((.tm 2), true)⟩,
 ⟨.pick (.tm 3) (.tm 0) (.c (.bool false)), .tm, some ((.tm 12), false)⟩,
 ⟨.mov (.tm 0), .tm, some ((.tm 13), false)⟩,
 ⟨.faddr 3 (.fr 8), .tm, some ((.tm 0), true)⟩,
 ⟨.load1 (.tm 0), .tm, some ((.tm 1), true)⟩,
 ⟨.bin .leq (.tm 0) (.c (.int .i64 4611686018427387904)), .tm, some ((.tm 2), true)⟩,
 ⟨.pick (.tm 3) (.tm 0) (.c (.bool false)), .tm, some ((.tm 17), false)⟩,
 ⟨.mov (.tm 0), .tm, some ((.tm 18), false)⟩,
 ⟨.faddr 4 (.fr 8), .tm, some ((.tm 0), true)⟩,
 ⟨.load1 (.tm 0), .tm, some ((.tm 1), true)⟩,
 ⟨.len false (.tm 0), .tm, some ((.tm 2), true)⟩,
 ⟨.bin .leq (.tm 0) (.c (.int .i64 2048)), .tm, some ((.tm 3), true)⟩,
 ⟨.pick (.tm 4) (.tm 0) (.c (.bool false)), .tm, some ((.tm 23), false)⟩,
 ⟨.pick (.tm 24) (.c (.bool true)) (.tm 0), .tm, none⟩,
 ⟨.mov (.tm 0), .fr 1, none⟩]) <|
 .ret, [.t 1]⟩
def f111 : AFunc := ⟨[0, 2],
 .seq (.reg [
 ⟨.mov (.c (.bool false)), .fr 1, none⟩]) <|
 .seq (.reg [
 ⟨.mov (.fr 0), .tm, none⟩,
 ⟨.callf 116 [(.tm 0), (.fn 117)], .tm, none⟩,
 ⟨.un .not (.tm 0), .tm, none⟩,
 ⟨.mov (.tm 0), .fr 1, none⟩]) <|
 .ret, [.t 1]⟩
def f112 : AFunc := ⟨[0, 1, 4],
 .seq (.reg [
 ⟨.mov (.c (.bool false)), .fr 2, none⟩]) <|
 .seq (.reg [
 ⟨.mov (.fr 0), .tm, none⟩,
 ⟨.mov (.fr 1), .tm, none⟩,
 ⟨.callf 118 [(.tm 1), (.tm 0)], .tm, none⟩,
 ⟨.bin .geq (.tm 0) (.c (.int .i64 0)), .tm, none⟩,
 ⟨.mov (.tm 0), .fr 2, none⟩]) <|
 .ret, [.t 2]⟩
def f113 : AFunc := ⟨[0, 1, 2],
 .seq (.reg [
 ⟨.box 108 2 (.fr 0), .fr 1, none⟩,
 ⟨.mov (.c (.bool false)), .fr 2, none⟩]) <|
 .seq (.reg [
 ⟨.faddr 0 (.fr 1), .tm, none⟩,
 ⟨.load1 (.tm 0), .tm, none⟩,
 ⟨.bin .lss (.tm 0) (.c (.int .u8 1)), .tm, none⟩,
 ⟨.mov (.tm 0), .tm, none⟩,
 ⟨.faddr 0 (.fr 1), .tm, some ((.tm 0), false)⟩,
 ⟨.load1 (.tm 0), .tm, some ((.tm 1), false)⟩,
 ⟨.bin .gtr (.tm 0) (.c (.int .u8 3)), .tm, some ((.tm 2), false)⟩,
 ⟨.pick (.tm 3) (.c (.bool true)) (.tm 0), .tm, none⟩,
 ⟨.mov (.tm 0), .tm, none⟩,
 ⟨.faddr 1 (.fr 1), .tm, some ((.tm 0), false)⟩,
 ⟨.load1 (.tm 0), .tm, some ((.tm 1), false)⟩,
 ⟨.bin .lss (.tm 0) (.c (.int .i64 0)), .tm, some ((.tm 2), false)⟩,
 ⟨.pick (.tm 3) (.c (.bool true)) (.tm 0), .tm, none⟩,
 ⟨.mov (.tm 0), .tm, none⟩,
 ⟨.faddr 1 (.fr 1), .tm, some ((.tm 0), false)⟩,
 ⟨.load1 (.tm 0), .tm, some ((.tm 1), false)⟩,
 ⟨.bin .gtr (.tm 0) (.c (.int .i64 63)), .tm, some ((.tm 2), false)⟩,
 ⟨.pick (.tm 3) (.c (.bool true)) (.tm 0), .tm, none⟩,
 ⟨.mov (.tm 0), .fr 2, none⟩]) <|
 .ret, [.t 2]⟩
def f116 : AFunc := ⟨[0, 1, 4],
 .seq (.reg [
 ⟨.mov (.c (.bool false)), .fr 2, none⟩]) <|
 .seq (.reg [
 ⟨.mov (.fr 0), .tm, none⟩,
 ⟨.mov (.fr 1), .tm, none⟩,
 ⟨.callf 119 [(.tm 1), (.tm 0)], .tm, none⟩,
 ⟨.bin .geq (.tm 0) (.c (.int .i64 0)), .tm, none⟩,
 ⟨.mov (.tm 0), .fr 2, none⟩]) <|
 .ret, [.t 2]⟩
def f117 : AFunc := ⟨[0, 2],
 .seq (.reg [
 ⟨.mov (.c (.bool false)), .fr 1, none⟩]) <|
 .seq (.reg [
 ⟨.mov (.fr 0), .tm, none⟩,
 ⟨.bin .lss (.tm 0) (.c (.int .i64 0)), .tm, none⟩,
 ⟨.mov (.tm 0), .tm, none⟩,
 ⟨.mov (.fr 0), .tm, some ((.tm 0), false)⟩,
 ⟨.bin .gtr (.tm 0) (.c (.int .i64 1099511627776)), .tm, some ((.tm 1), false)⟩,
 ⟨.pick (.tm 2) (.c (.bool true)) (.tm 0), .tm, none⟩,
 ⟨.mov (.tm 0), .fr 1, none⟩]) <|
 .ret, [.t 1]⟩
def f118 : AFunc := ⟨[0, 1, 4, 5, 7, 8, 9, 16],
 .seq (.reg [
 ⟨.mov (.c (.int .i64 0)), .fr 2, none⟩]) <|
 .seq (.seq (.reg [
 ⟨.mov (.fr 0), .tm, none⟩,
 ⟨.len false (.tm 0), .fr 4, none⟩,
 ⟨.mov (.c (.int .i64 0)), .fr 5, none⟩]) <|
 .block 0 (.loop (.seq (.reg [
 ⟨.bin .lss (.fr 5) (.fr 4), .fr 6, none⟩]) <|
 .seq (.cond (.fr 6)
 (.skip)
 (.exit 0)) <|
 .seq (.block 1 (.seq (.reg [
 ⟨.mov (.fr 5), .tm, none⟩,
 ⟨.mov (.tm 0), .fr 3, none⟩]) <|
 .seq (.reg [
 ⟨.mov (.fr 1), .tm, none⟩,
 ⟨.mov (.fr 0), .tm, none⟩,
 ⟨.mov (.fr 3), .tm, none⟩,
 ⟨.iaddr 2 (.tm 1) (.tm 0), .tm, none⟩,
 ⟨.loadn 2 (.tm 0), .tm, none⟩,
 ⟨.callv (.tm 4) [(.tm 0)], .fr 7, none⟩]) <|
 .cond (.fr 7)
 (.seq (.reg [
 ⟨.mov (.fr 3), .tm, none⟩,
 ⟨.mov (.tm 0), .fr 2, none⟩]) <|
 .ret)
 (.skip))) <|
 .reg [
 ⟨.bin .add (.fr 5) (.c (.int .i64 1)), .tm, none⟩,
 ⟨.mov (.tm 0), .fr 5, none⟩]))) <|
 .seq (.reg [
 ⟨.mov (.c (.int .i64 (-1))), .fr 2, none⟩]) <|
 .ret, [.t 2]⟩
def f119 : AFunc := ⟨[0, 1, 4, 5, 7, 8, 9, 16],
 .seq (.reg [
 ⟨.mov (.c (.int .i64 0)), .fr 2, none⟩]) <|
 .seq (.seq (.reg [
 ⟨.mov (.fr 0), .tm, none⟩,
 ⟨.len false (.tm 0), .fr 4, none⟩,
 ⟨.mov (.c (.int .i64 0)), .fr 5, none⟩]) <|
 .block 0 (.loop (.seq (.reg [
 ⟨.bin .lss (.fr 5) (.fr 4), .fr 6, none⟩]) <|
 .seq (.cond (.fr 6)
 (.skip)
 (.exit 0)) <|
 .seq (.block 1 (.seq (.reg [
 ⟨.mov (.fr 5), .tm, none⟩,
 ⟨.mov (.tm 0), .fr 3, none⟩]) <|
 .seq (.reg [
 ⟨.mov (.fr 1), .tm, none⟩,
 ⟨.mov (.fr 0), .tm, none⟩,
 ⟨.mov (.fr 3), .tm, none⟩,
 ⟨.iaddr 1 (.tm 1) (.tm 0), .tm, none⟩,
 ⟨.load1 (.tm 0), .tm, none⟩,
 ⟨.callv (.tm 4) [(.tm 0)], .fr 7, none⟩]) <|
 .cond (.fr 7)
 (.seq (.reg [
 ⟨.mov (.fr 3), .tm, none⟩,
 ⟨.mov (.tm 0), .fr 2, none⟩]) <|
 .ret)
 (.skip))) <|
 .reg [
 ⟨.bin .add (.fr 5) (.c (.int .i64 1)), .tm, none⟩,
 ⟨.mov (.tm 0), .fr 5, none⟩]))) <|
 .seq (.reg [
 ⟨.mov (.c (.int .i64 (-1))), .fr 2, none⟩]) <|
 .ret, [.t 2]⟩
theorem f24_ok : compF Go.Proofs.Try.prog 0 [0, 2, 3, 4, 5, 6] 24 = some f24 := by kernel_rfl
theorem f24_n : argsOK Go.Proofs.Try.prog 24 1 = true := by kernel_rfl
theorem f25_ok : compF Go.Proofs.Try.prog 0 [0, 2, 3, 4, 7, 33] 25 = some f25 := by kernel_rfl
theorem f25_n : argsOK Go.Proofs.Try.prog 25 1 = true := by kernel_rfl
theorem f36_ok : compF Go.Proofs.Try.prog 0 [0, 1, 2] 36 = some f36 := by kernel_rfl
theorem f36_n : argsOK Go.Proofs.Try.prog 36 1 = true := by kernel_rfl
theorem f52_ok : compF Go.Proofs.Try.prog 0 [0, 1, 2, 3, 27] 52 = some f52 := by kernel_rfl
theorem f52_n : argsOK Go.Proofs.Try.prog 52 1 = true := by kernel_rfl
theorem f62_ok : compF Go.Proofs.Try.prog 0 [0, 1, 4, 5, 6, 16] 62 = some f62 := by kernel_rfl
theorem f62_n : argsOK Go.Proofs.Try.prog 62 2 = true := by kernel_rfl
theorem f67_ok : compF Go.Proofs.Try.prog 0 [0, 1, 2, 6, 12] 67 = some f67 := by kernel_rfl
theorem f67_n : argsOK Go.Proofs.Try.prog 67 3 = true := by kernel_rfl
theorem f76_ok : compF Go.Proofs.Try.prog 0 [0, 1, 2, 5, 6, 7, 8, 25] 76 = some f76 := by kernel_rfl
theorem f76_n : argsOK Go.Proofs.Try.prog 76 3 = true := by kernel_rfl
theorem f77_ok : compF Go.Proofs.Try.prog 0 [0, 1, 2, 6, 7, 10] 77 = some f77 := by kernel_rfl
theorem f77_n : argsOK Go.Proofs.Try.prog 77 3 = true := by kernel_rfl
theorem f78_ok : compF Go.Proofs.Try.prog 0 [0, 1] 78 = some f78 := by kernel_rfl
theorem f78_n : argsOK Go.Proofs.Try.prog 78 2 = true := by kernel_rfl
theorem f80_ok : compF Go.Proofs.Try.prog 0 [0, 1, 5, 6, 7, 8, 9] 80 = some f80 := by kernel_rfl
theorem f80_n : argsOK Go.Proofs.Try.prog 80 2 = true := by kernel_rfl
theorem f91_ok : compF Go.Proofs.Try.prog 0 [0, 1, 4] 91 = some f91 := by kernel_rfl
theorem f91_n : argsOK Go.Proofs.Try.prog 91 2 = true := by kernel_rfl
theorem f92_ok : compF Go.Proofs.Try.prog 0 [0, 2] 92 = some f92 := by kernel_rfl
theorem f92_n : argsOK Go.Proofs.Try.prog 92 1 = true := by kernel_rfl
theorem f101_ok : compF Go.Proofs.Try.prog 0 [0, 2, 3, 4, 5, 6, 7, 8, 9, 10, 16, 40, 52] 101 = some f101 := by kernel_rfl
theorem f101_n : argsOK Go.Proofs.Try.prog 101 1 = true := by kernel_rfl
theorem f111_ok : compF Go.Proofs.Try.prog 0 [0, 2] 111 = some f111 := by kernel_rfl
theorem f111_n : argsOK Go.Proofs.Try.prog 111 1 = true := by kernel_rfl
theorem f112_ok : compF Go.Proofs.Try.prog 0 [0, 1, 4] 112 = some f112 := by kernel_rfl
theorem f112_n : argsOK Go.Proofs.Try.prog 112 2 = true := by kernel_rfl
theorem f113_ok : compF Go.Proofs.Try.prog 0 [0, 1, 2] 113 = some f113 := by kernel_rfl
theorem f113_n : argsOK Go.Proofs.Try.prog 113 1 = true := by kernel_rfl
theorem f116_ok : compF Go.Proofs.Try.prog 0 [0, 1, 4] 116 = some f116 := by kernel_rfl
theorem f116_n : argsOK Go.Proofs.Try.prog 116 2 = true := by kernel_rfl
theorem f117_ok : compF Go.Proofs.Try.prog 0 [0, 2] 117 = some f117 := by kernel_rfl
theorem f117_n : argsOK Go.Proofs.Try.prog 117 1 = true := by kernel_rfl
theorem f118_ok : compF Go.Proofs.Try.prog 0 [0, 1, 4, 5, 7, 8, 9, 16] 118 = some f118 := by kernel_rfl
theorem f118_n : argsOK Go.Proofs.Try.prog 118 2 = true := by kernel_rfl
theorem f119_ok : compF Go.Proofs.Try.prog 0 [0, 1, 4, 5, 7, 8, 9, 16] 119 = some f119 := by kernel_rfl
theorem f119_n : argsOK Go.Proofs.Try.prog 119 2 = true := by kernel_rfl
end Go.AM.F

set_option linter.unusedSimpArgs false
set_option linter.unusedVariables false
namespace Go.AM.Fd
open Nat (reduceAdd reduceEqDiff reduceLT reduceLeDiff reduceMul reduceSub)
open Go.Proofs Go.AM.F
def be : Nat → Nat → List UInt8
  | 0, _ => []
  | w + 1, n => UInt8.ofNat (n / 256 ^ w) :: be w n
theorem be_length : ∀ w n, (be w n).length = w
  | 0, _ => rfl
  | w + 1, n => by simp [be, be_length w n]
theorem pow8 (i : Nat) : (2 : Nat) ^ (8 * i) = 256 ^ i := by rw [Nat.pow_mul]
theorem byte_cell (n i : Nat) : (((n : Int).fdiv (2 ^ (8 * i))) % 256 : Int) = ((UInt8.ofNat (n / 256 ^ i)).toNat : Int) := by
  have h1 : ((2 : Int) ^ (8 * i)) = ((256 ^ i : Nat) : Int) := by rw [← pow8]; push_cast; rfl
  rw [h1, Int.fdiv_eq_ediv_of_nonneg _ (Int.natCast_nonneg _)]
  simp only [UInt8.toNat_ofNat']
  omega
theorem t106 (n w : Nat) (hw : w ≤ 8) (H : AHeap) : ∃ v H', ARun Go.Proofs.Try.prog 0 106 [.int .u64 n, .int .i64 w] H v H' ∧
    AP H' 5 1 v w (cellsOf (be w n)) ∧ Keeps H H' ∧ Fresh H.n v := by
  refine walk f106_ok f106_n ?_
  simp only [f106, initFr, ↓reduceIte, RD_nil, RD_cons, RD_consg, W_dreg, obl_nil, Nat.reduceAdd, Nat.add_zero, Nat.zero_add, Nat.mul_one, Int.toNat_natCast, W_skip, W_reg, W_seq, W_cond, W_block, W_exit, W_ret, getD_nil', RW_nil, RW_cons, RW_consg, AOp.map, AX_fr, AX_tm, AX_c, AX_fn, AX_g, D_no, D_no', D_tm, D_tm', D_fr, D_fr', List.getD_cons_zero, List.getD_cons_succ, List.set_cons_zero, List.set_cons_succ, List.map_cons, List.map_nil, Option.map_some, Option.map_none, wantA, beq_self_eq_true, if_true, Bool.false_eq_true, if_false, Bool.not_true, Bool.not_false, s_mov, s_pick, s_new, s_box, s_build, s_bslice, s_load1, s_loadn, s_nilck, s_bin, s_eqv, s_not, s_neg, s_i2i, s_s2s, s_s2b, s_iface, s_mkfn, s_faddr, s_fld1, s_iaddr, s_idxs, s_assert, s_extract, s_len, s_lens, s_lenc, s_callf, resO0, resO1, resO2, resO3, List.getElem?_cons_zero, List.getElem?_cons_succ, Nat.reduceEqDiff, true_and, and_true, false_and, e_sn, e_ss, e_pn, e_ps, e_bb, fill0, fill1, b_add, b_sub, b_mul, b_eql, b_neq, b_lss, b_leq, b_gtr, b_geq, b_and, b_or, b_xor, b_seql, b_sneq, b_slss, AQ.andThen, AQ.inBlock, Option.some.injEq, exists_eq_left', exists_eq_left, reduceCtorEq, Exit.exit.injEq]
  rw [wrap_i64 (by omega) (by omega)]
  refine W_loop (fun k fr H1 => ∃ (i : Int) (x v : Value) (l : List UInt8), fr = [.int .u64 n, .int .i64 w, .slice none 0 0, v, .int .i64 i, x] ∧ -1 ≤ i ∧ i < w ∧ k = (i + 1).toNat ∧
    l ++ be (i + 1).toNat n = be w n ∧ AP H1 5 1 v l.length (cellsOf l) ∧ Keeps H H1 ∧ Fresh H.n v) (w) ?_ ?_
  · refine ⟨_, undef, _, [], rfl, by omega, by omega, by omega, ?_, .inl ⟨rfl, rfl, rfl⟩, Keeps.refl H, fun b hb => by cases hb⟩
    simp [show ((w : Int) - 1 + 1).toNat = w by omega]
  · rintro k fr H1 ⟨i, x, v, l, rfl, h1, h2, rfl, h3, h4, h5, h6⟩
    simp only [↓reduceIte, RD_nil, RD_cons, RD_consg, W_dreg, obl_nil, Nat.reduceAdd, Nat.add_zero, Nat.zero_add, Nat.mul_one, Int.toNat_natCast, W_skip, W_reg, W_seq, W_cond, W_block, W_exit, W_ret, getD_nil', RW_nil, RW_cons, RW_consg, AOp.map, AX_fr, AX_tm, AX_c, AX_fn, AX_g, D_no, D_no', D_tm, D_tm', D_fr, D_fr', List.getD_cons_zero, List.getD_cons_succ, List.set_cons_zero, List.set_cons_succ, List.map_cons, List.map_nil, Option.map_some, Option.map_none, wantA, beq_self_eq_true, if_true, Bool.false_eq_true, if_false, Bool.not_true, Bool.not_false, s_mov, s_pick, s_new, s_box, s_build, s_bslice, s_load1, s_loadn, s_nilck, s_bin, s_eqv, s_not, s_neg, s_i2i, s_s2s, s_s2b, s_iface, s_mkfn, s_faddr, s_fld1, s_iaddr, s_idxs, s_assert, s_extract, s_len, s_lens, s_lenc, s_callf, resO0, resO1, resO2, resO3, List.getElem?_cons_zero, List.getElem?_cons_succ, Nat.reduceEqDiff, true_and, and_true, false_and, e_sn, e_ss, e_pn, e_ps, e_bb, fill0, fill1, b_add, b_sub, b_mul, b_eql, b_neq, b_lss, b_leq, b_gtr, b_geq, b_and, b_or, b_xor, b_seql, b_sneq, b_slss, AQ.andThen, AQ.inBlock, Option.some.injEq, exists_eq_left', exists_eq_left, reduceCtorEq, Exit.exit.injEq]
    by_cases hi : 0 ≤ i
    · simp only [hi, decide_true, ↓reduceIte, RD_nil, RD_cons, RD_consg, W_dreg, obl_nil, Nat.reduceAdd, Nat.add_zero, Nat.zero_add, Nat.mul_one, Int.toNat_natCast, W_skip, W_reg, W_seq, W_cond, W_block, W_exit, W_ret, getD_nil', RW_nil, RW_cons, RW_consg, AOp.map, AX_fr, AX_tm, AX_c, AX_fn, AX_g, D_no, D_no', D_tm, D_tm', D_fr, D_fr', List.getD_cons_zero, List.getD_cons_succ, List.set_cons_zero, List.set_cons_succ, List.map_cons, List.map_nil, Option.map_some, Option.map_none, wantA, beq_self_eq_true, if_true, Bool.false_eq_true, if_false, Bool.not_true, Bool.not_false, s_mov, s_pick, s_new, s_box, s_build, s_bslice, s_load1, s_loadn, s_nilck, s_bin, s_eqv, s_not, s_neg, s_i2i, s_s2s, s_s2b, s_iface, s_mkfn, s_faddr, s_fld1, s_iaddr, s_idxs, s_assert, s_extract, s_len, s_lens, s_lenc, s_callf, resO0, resO1, resO2, resO3, List.getElem?_cons_zero, List.getElem?_cons_succ, Nat.reduceEqDiff, true_and, and_true, false_and, e_sn, e_ss, e_pn, e_ps, e_bb, fill0, fill1, b_add, b_sub, b_mul, b_eql, b_neq, b_lss, b_leq, b_gtr, b_geq, b_and, b_or, b_xor, b_seql, b_sneq, b_slss, AQ.andThen, AQ.inBlock, Option.some.injEq, exists_eq_left', exists_eq_left, reduceCtorEq, Exit.exit.injEq]
      rw [wrap_i64 (by omega) (by omega)]
      obtain ⟨j, rfl⟩ : ∃ j : Nat, i = j := ⟨i.toNat, by omega⟩
      simp only [b_shr _ _ _ _ (show (0 : Int) ≤ 8 * (j : Int) by omega), fill1, ↓reduceIte, RD_nil, RD_cons, RD_consg, W_dreg, obl_nil, Nat.reduceAdd, Nat.add_zero, Nat.zero_add, Nat.mul_one, Int.toNat_natCast, W_skip, W_reg, W_seq, W_cond, W_block, W_exit, W_ret, getD_nil', RW_nil, RW_cons, RW_consg, AOp.map, AX_fr, AX_tm, AX_c, AX_fn, AX_g, D_no, D_no', D_tm, D_tm', D_fr, D_fr', List.getD_cons_zero, List.getD_cons_succ, List.set_cons_zero, List.set_cons_succ, List.map_cons, List.map_nil, Option.map_some, Option.map_none, wantA, beq_self_eq_true, if_true, Bool.false_eq_true, if_false, Bool.not_true, Bool.not_false, s_mov, s_pick, s_new, s_box, s_build, s_bslice, s_load1, s_loadn, s_nilck, s_bin, s_eqv, s_not, s_neg, s_i2i, s_s2s, s_s2b, s_iface, s_mkfn, s_faddr, s_fld1, s_iaddr, s_idxs, s_assert, s_extract, s_len, s_lens, s_lenc, s_callf, resO0, resO1, resO2, resO3, List.getElem?_cons_zero, List.getElem?_cons_succ, Nat.reduceEqDiff, true_and, and_true, false_and, e_sn, e_ss, e_pn, e_ps, e_bb, fill0, fill1, b_add, b_sub, b_mul, b_eql, b_neq, b_lss, b_leq, b_gtr, b_geq, b_and, b_or, b_xor, b_seql, b_sneq, b_slss, AQ.andThen, AQ.inBlock, Option.some.injEq, exists_eq_left', exists_eq_left, reduceCtorEq, Exit.exit.injEq]
      have hmin : min (8 * (j : Int)).toNat IntKind.u64.bits = 8 * j := by simp only [IntKind.bits]; omega
      rw [hmin, wrap_u8, byte_cell]
      have hj : ((j : Int) + 1).toNat = j + 1 := by omega
      rw [hj] at h3
      have hlen : l.length + (j + 1) = w := by
        have := congrArg List.length h3
        simpa [be_length] using this
      refine ⟨⟨rfl, rfl⟩, s_appAP (h4.keeps ((Keeps.refl H1).alloc _)) ⟨_, _, rfl⟩ (elems_own (AHeap.get_alloc_new H1 _) rfl) rfl (by omega) ?_⟩
      intro v' H' k1 k2 k3
      have hk := (h5.alloc _).chg_trans k2 (Fresh.L h6)
      refine ⟨j, by omega, j - 1, .bool true, v', l ++ [UInt8.ofNat (n / 256 ^ j)], ?_, by omega, by omega, by omega, ?_, ?_, hk, h6.app (by rw [alloc_n]; have := h5.n; omega) k3⟩
      · rw [wrap_i64 (by omega) (by omega)]
      · rw [show ((j : Int) - 1 + 1).toNat = j by omega, ← h3]
        simp [be]
      · rw [cellsOf_append, List.length_append]
        exact k1
    · simp only [hi, decide_false, ↓reduceIte, RD_nil, RD_cons, RD_consg, W_dreg, obl_nil, Nat.reduceAdd, Nat.add_zero, Nat.zero_add, Nat.mul_one, Int.toNat_natCast, W_skip, W_reg, W_seq, W_cond, W_block, W_exit, W_ret, getD_nil', RW_nil, RW_cons, RW_consg, AOp.map, AX_fr, AX_tm, AX_c, AX_fn, AX_g, D_no, D_no', D_tm, D_tm', D_fr, D_fr', List.getD_cons_zero, List.getD_cons_succ, List.set_cons_zero, List.set_cons_succ, List.map_cons, List.map_nil, Option.map_some, Option.map_none, wantA, beq_self_eq_true, if_true, Bool.false_eq_true, if_false, Bool.not_true, Bool.not_false, s_mov, s_pick, s_new, s_box, s_build, s_bslice, s_load1, s_loadn, s_nilck, s_bin, s_eqv, s_not, s_neg, s_i2i, s_s2s, s_s2b, s_iface, s_mkfn, s_faddr, s_fld1, s_iaddr, s_idxs, s_assert, s_extract, s_len, s_lens, s_lenc, s_callf, resO0, resO1, resO2, resO3, List.getElem?_cons_zero, List.getElem?_cons_succ, Nat.reduceEqDiff, true_and, and_true, false_and, e_sn, e_ss, e_pn, e_ps, e_bb, fill0, fill1, b_add, b_sub, b_mul, b_eql, b_neq, b_lss, b_leq, b_gtr, b_geq, b_and, b_or, b_xor, b_seql, b_sneq, b_slss, AQ.andThen, AQ.inBlock, Option.some.injEq, exists_eq_left', exists_eq_left, reduceCtorEq, Exit.exit.injEq]
      have : (i + 1).toNat = 0 := by omega
      rw [this] at h3
      simp only [be, List.append_nil] at h3
      subst h3
      rw [be_length] at h4
      exact ⟨h4, h5, h6⟩
theorem t73 {H : AHeap} {x : Value} {l : List UInt8} (hx : BS H x l) (hl : l.length ≤ 1000000000) : ∃ v H', ARun Go.Proofs.Try.prog 0 73 [x] H v H' ∧
    AP H' 5 1 v l.length (cellsOf l) ∧ Keeps H H' ∧ Fresh H.n v := by
  refine walk f73_ok f73_n ?_
  obtain ⟨a, k, rfl⟩ := hx.sh
  cases a with
  | none =>
    have hl0 : l = [] := by
      have := hx.el
      simp only [elemsA, Option.some.injEq] at this
      have := congrArg List.length this
      rw [cellsOf_length] at this
      exact List.length_eq_zero_iff.1 this.symm
    subst hl0
    simp only [f73, initFr, ↓reduceIte, RD_nil, RD_cons, RD_consg, W_dreg, obl_nil, Nat.reduceAdd, Nat.add_zero, Nat.zero_add, Nat.mul_one, Int.toNat_natCast, W_skip, W_reg, W_seq, W_cond, W_block, W_exit, W_ret, getD_nil', RW_nil, RW_cons, RW_consg, AOp.map, AX_fr, AX_tm, AX_c, AX_fn, AX_g, D_no, D_no', D_tm, D_tm', D_fr, D_fr', List.getD_cons_zero, List.getD_cons_succ, List.set_cons_zero, List.set_cons_succ, List.map_cons, List.map_nil, Option.map_some, Option.map_none, wantA, beq_self_eq_true, if_true, Bool.false_eq_true, if_false, Bool.not_true, Bool.not_false, s_mov, s_pick, s_new, s_box, s_build, s_bslice, s_load1, s_loadn, s_nilck, s_bin, s_eqv, s_not, s_neg, s_i2i, s_s2s, s_s2b, s_iface, s_mkfn, s_faddr, s_fld1, s_iaddr, s_idxs, s_assert, s_extract, s_len, s_lens, s_lenc, s_callf, resO0, resO1, resO2, resO3, List.getElem?_cons_zero, List.getElem?_cons_succ, Nat.reduceEqDiff, true_and, and_true, false_and, e_sn, e_ss, e_pn, e_ps, e_bb, fill0, fill1, b_add, b_sub, b_mul, b_eql, b_neq, b_lss, b_leq, b_gtr, b_geq, b_and, b_or, b_xor, b_seql, b_sneq, b_slss, AQ.andThen, AQ.inBlock, Option.some.injEq, exists_eq_left', exists_eq_left, reduceCtorEq, Exit.exit.injEq]
    exact ⟨.inl ⟨rfl, rfl, rfl⟩, Keeps.refl H, fun b hb => by cases hb⟩
  | some a =>
    simp only [f73, initFr, ↓reduceIte, RD_nil, RD_cons, RD_consg, W_dreg, obl_nil, Nat.reduceAdd, Nat.add_zero, Nat.zero_add, Nat.mul_one, Int.toNat_natCast, W_skip, W_reg, W_seq, W_cond, W_block, W_exit, W_ret, getD_nil', RW_nil, RW_cons, RW_consg, AOp.map, AX_fr, AX_tm, AX_c, AX_fn, AX_g, D_no, D_no', D_tm, D_tm', D_fr, D_fr', List.getD_cons_zero, List.getD_cons_succ, List.set_cons_zero, List.set_cons_succ, List.map_cons, List.map_nil, Option.map_some, Option.map_none, wantA, beq_self_eq_true, if_true, Bool.false_eq_true, if_false, Bool.not_true, Bool.not_false, s_mov, s_pick, s_new, s_box, s_build, s_bslice, s_load1, s_loadn, s_nilck, s_bin, s_eqv, s_not, s_neg, s_i2i, s_s2s, s_s2b, s_iface, s_mkfn, s_faddr, s_fld1, s_iaddr, s_idxs, s_assert, s_extract, s_len, s_lens, s_lenc, s_callf, resO0, resO1, resO2, resO3, List.getElem?_cons_zero, List.getElem?_cons_succ, Nat.reduceEqDiff, true_and, and_true, false_and, e_sn, e_ss, e_pn, e_ps, e_bb, fill0, fill1, b_add, b_sub, b_mul, b_eql, b_neq, b_lss, b_leq, b_gtr, b_geq, b_and, b_or, b_xor, b_seql, b_sneq, b_slss, AQ.andThen, AQ.inBlock, Option.some.injEq, exists_eq_left', exists_eq_left, reduceCtorEq, Exit.exit.injEq]
    refine ⟨⟨rfl, rfl⟩, s_appAP (.inr ⟨_, _, rfl, rfl, AHeap.get_alloc_new H _⟩) ⟨_, _, rfl⟩ (hx.keeps ((Keeps.refl H).alloc _)).el (by rw [cellsOf_length]; omega) (by omega) ?_⟩
    intro v' H' k1 k2 k3
    rw [Nat.zero_add, List.nil_append] at k1
    have hf : Fresh H.n (slc H.n 0 0 0) := fun b hb => by cases hb; exact Nat.le_refl _
    exact ⟨k1, ((Keeps.refl H).alloc _).chg_trans k2 hf.L, Fresh.app hf (by rw [alloc_n]; omega) k3⟩
def wd (t : Nat) : Nat := if t = 5 then 1 else if t = 111 then 2 else if t = 25 then 4 else 8
def kd (t : Nat) : IntKind := if t = 5 then .u8 else if t = 111 then .u16 else if t = 25 then .u32 else .u64
theorem t114 (t n : Nat) (ht : t = 5 ∨ t = 111 ∨ t = 25 ∨ t = 24) (hn : n < 256 ^ wd t) (H : AHeap) : ARun Go.Proofs.Try.prog 0 114 [.iface t (.int (kd t) n)] H (.tuple #[.int .u64 n, .int .i64 (wd t)]) H := by
  suffices h : ∃ v H', ARun Go.Proofs.Try.prog 0 114 [.iface t (.int (kd t) n)] H v H' ∧ v = .tuple #[.int .u64 n, .int .i64 (wd t)] ∧ H' = H by
    obtain ⟨v, H', h1, h2, h3⟩ := h
    rw [h2, h3] at h1; exact h1
  refine walk f114_ok f114_n ?_
  rcases ht with rfl | rfl | rfl | rfl <;> simp only [f114, initFr, kd, wd, ↓reduceIte, RD_nil, RD_cons, RD_consg, W_dreg, obl_nil, Nat.reduceAdd, Nat.add_zero, Nat.zero_add, Nat.mul_one, Int.toNat_natCast, W_skip, W_reg, W_seq, W_cond, W_block, W_exit, W_ret, getD_nil', RW_nil, RW_cons, RW_consg, AOp.map, AX_fr, AX_tm, AX_c, AX_fn, AX_g, D_no, D_no', D_tm, D_tm', D_fr, D_fr', List.getD_cons_zero, List.getD_cons_succ, List.set_cons_zero, List.set_cons_succ, List.map_cons, List.map_nil, Option.map_some, Option.map_none, wantA, beq_self_eq_true, if_true, Bool.false_eq_true, if_false, Bool.not_true, Bool.not_false, s_mov, s_pick, s_new, s_box, s_build, s_bslice, s_load1, s_loadn, s_nilck, s_bin, s_eqv, s_not, s_neg, s_i2i, s_s2s, s_s2b, s_iface, s_mkfn, s_faddr, s_fld1, s_iaddr, s_idxs, s_assert, s_extract, s_len, s_lens, s_lenc, s_callf, resO0, resO1, resO2, resO3, List.getElem?_cons_zero, List.getElem?_cons_succ, Nat.reduceEqDiff, true_and, and_true, false_and, e_sn, e_ss, e_pn, e_ps, e_bb, fill0, fill1, b_add, b_sub, b_mul, b_eql, b_neq, b_lss, b_leq, b_gtr, b_geq, b_and, b_or, b_xor, b_seql, b_sneq, b_slss, AQ.andThen, AQ.inBlock, Option.some.injEq, exists_eq_left', exists_eq_left, reduceCtorEq, Exit.exit.injEq, Nat.reduceEqDiff] at hn ⊢ <;> (try rw [wrap_u64]) <;> (try rw [Int.emod_eq_of_lt (by omega) (by omega)]) <;> trivial
def WS (H : AHeap) (b bv : Nat) (l : List UInt8) : Prop :=
  ∃ v, H.get b = some (.cells true false 1 [v] 166) ∧ AP H 5 1 v l.length (cellsOf l) ∧ (blk v = none ∧ bv = b ∨ blk v = some bv ∧ bv ≠ b)
theorem WS.lt {H : AHeap} {b bv : Nat} {l : List UInt8} (h : WS H b bv l) : b < H.n ∧ bv < H.n := by
  obtain ⟨v, h1, h2, h3⟩ := h
  have := AHeap.get_lt h1
  refine ⟨this, ?_⟩
  rcases h3 with ⟨_, rfl⟩ | ⟨h3, _⟩
  · exact this
  · exact h2.lt h3
theorem WS.chg {H H' : AHeap} {b bv : Nat} {l : List UInt8} {S : List Nat} (h : WS H b bv l) (k : Chg S H H') (h1 : b ∉ S) (h2 : bv ∉ S) : WS H' b bv l := by
  obtain ⟨v, a1, a2, a3⟩ := h
  refine ⟨v, k.at_ a1 h1, a2.chg k ?_, a3⟩
  intro x hx
  rw [mem_blkL] at hx
  rcases a3 with ⟨e, _⟩ | ⟨e, _⟩
  · rw [e] at hx; cases hx
  · rw [e] at hx; cases hx; exact h2
theorem WS.app {H : AHeap} {b bv : Nat} {l m : List UInt8} {x : Value} (h : WS H b bv l) (hx : BS H x m) (hl : l.length + m.length ≤ 1000000000) :
    ∃ v v' H1, H.get b = some (.cells true false 1 [v] 166) ∧ (∀ K : Value → AHeap → Prop, K v' H1 → stepA Go.Proofs.Try.prog 0 (.app 5 1 1 v x) H K) ∧ H1.get b = some (.cells true false 1 [v] 166) ∧ v'.oneCell' = true ∧
      ∃ bv', WS (H1.set b (.cells true false 1 [v'] 166)) b bv' (l ++ m) ∧ (bv' = bv ∨ H.n ≤ bv') ∧ Chg [b, bv] H (H1.set b (.cells true false 1 [v'] 166)) := by
  obtain ⟨v, h1, h2, h3⟩ := h
  obtain ⟨a, k, rfl⟩ := hx.sh
  obtain ⟨v', H', k1, k2, k3, k4⟩ := h2.app (bytes := 1) (news := cellsOf m) (m := m.length) (by rw [cellsOf_length]; omega) (by omega)
  have hb : b ∉ blkL v := by
    rw [mem_blkL]
    rcases h3 with ⟨e, _⟩ | ⟨e, hne⟩
    · rw [e]; simp
    · rw [e]; simpa using hne
  have hbn := AHeap.get_lt h1
  have hb1 := k3.at_ h1 hb
  have hS : ∀ x ∈ blkL v, x ∈ [b, bv] ∨ H.n ≤ x := by
    intro x hx
    rw [mem_blkL] at hx
    rcases h3 with ⟨e, _⟩ | ⟨e, hne⟩
    · rw [e] at hx; cases hx
    · rw [e] at hx; cases hx; simp
  have hv'b : blk v' ≠ some b := by
    rcases k4 with k4 | k4
    · exact fun e => hb (mem_blkL.2 (k4 ▸ e))
    · rw [k4]; simp; omega
  refine ⟨v, v', H', h1, fun K hK => by rw [s_app rfl hx.el k1]; exact hK, hb1, ?_, ?_⟩
  · obtain ⟨a', ha⟩ := k2.shape
    rw [ha]; rfl
  have hset := Chg.set H' (AHeap.get_lt hb1) (.cells true false 1 [v'] 166)
  have hW : AP (H'.set b (.cells true false 1 [v'] 166)) 5 1 v' (l ++ m).length (cellsOf (l ++ m)) := by
    rw [List.length_append, cellsOf_append]
    refine k2.chg hset ?_
    intro x hx
    rw [mem_blkL] at hx
    intro e
    simp only [List.mem_singleton] at e
    subst e
    exact hv'b hx
  have hC : Chg [b, bv] H (H'.set b (.cells true false 1 [v'] 166)) := by
    refine Chg.trans (S := [b, bv]) (Chg.mono k3 (fun x hx => ?_)) hset (by simp)
    rcases hS x hx with h | h
    · exact h
    · rw [mem_blkL] at hx
      have := h2.lt hx
      omega
  cases hbv : blk v' with
  | none =>
    have hbl : blk v = none := by
      rcases k4 with k4 | k4
      · rw [← k4]; exact hbv
      · rw [hbv] at k4; cases k4
    refine ⟨bv, ⟨v', AHeap.get_set_same hb1 _, hW, .inl ⟨hbv, ?_⟩⟩, .inl rfl, hC⟩
    rcases h3 with ⟨_, e⟩ | ⟨e, _⟩
    · exact e
    · rw [hbl] at e; cases e
  | some x =>
    refine ⟨x, ⟨v', AHeap.get_set_same hb1 _, hW, .inr ⟨hbv, fun e => hv'b (by rw [hbv, e])⟩⟩, ?_, hC⟩
    rcases k4 with k4 | k4
    · rw [hbv] at k4
      rcases h3 with ⟨e, _⟩ | ⟨e, _⟩
      · rw [e] at k4; cases k4
      · rw [e] at k4; cases k4; exact .inl rfl
    · rw [hbv] at k4; cases k4; exact .inr (Nat.le_refl _)
theorem t105 {H : AHeap} {b bv : Nat} {l : List UInt8} (h : WS H b bv l) (t n : Nat) (ht : t = 5 ∨ t = 111 ∨ t = 25 ∨ t = 24) (hn : n < 256 ^ wd t) (hl : l.length ≤ 100000000) :
    ∃ v H', ARun Go.Proofs.Try.prog 0 105 [ptr b 0, .iface t (.int (kd t) n)] H v H' ∧ ∃ bv', WS H' b bv' (l ++ be (wd t) n) ∧ (bv' = bv ∨ H.n ≤ bv') ∧ Chg [b, bv] H H' := by
  refine walk f105_ok f105_n ?_
  have r35 := t114 t n ht hn H
  have hw : 1 ≤ wd t ∧ wd t ≤ 8 := by rcases ht with rfl | rfl | rfl | rfl <;> simp [wd]
  simp only [f105, initFr, ↓reduceIte, RD_nil, RD_cons, RD_consg, W_dreg, obl_nil, Nat.reduceAdd, Nat.add_zero, Nat.zero_add, Nat.mul_one, Int.toNat_natCast, W_skip, W_reg, W_seq, W_cond, W_block, W_exit, W_ret, getD_nil', RW_nil, RW_cons, RW_consg, AOp.map, AX_fr, AX_tm, AX_c, AX_fn, AX_g, D_no, D_no', D_tm, D_tm', D_fr, D_fr', List.getD_cons_zero, List.getD_cons_succ, List.set_cons_zero, List.set_cons_succ, List.map_cons, List.map_nil, Option.map_some, Option.map_none, wantA, beq_self_eq_true, if_true, Bool.false_eq_true, if_false, Bool.not_true, Bool.not_false, s_mov, s_pick, s_new, s_box, s_build, s_bslice, s_load1, s_loadn, s_nilck, s_bin, s_eqv, s_not, s_neg, s_i2i, s_s2s, s_s2b, s_iface, s_mkfn, s_faddr, s_fld1, s_iaddr, s_idxs, s_assert, s_extract, s_len, s_lens, s_lenc, s_callf, resO0, resO1, resO2, resO3, List.getElem?_cons_zero, List.getElem?_cons_succ, Nat.reduceEqDiff, true_and, and_true, false_and, e_sn, e_ss, e_pn, e_ps, e_bb, fill0, fill1, b_add, b_sub, b_mul, b_eql, b_neq, b_lss, b_leq, b_gtr, b_geq, b_and, b_or, b_xor, b_seql, b_sneq, b_slss, AQ.andThen, AQ.inBlock, Option.some.injEq, exists_eq_left', exists_eq_left, reduceCtorEq, Exit.exit.injEq]
  refine ⟨_, _, r35, ?_⟩
  simp only [↓reduceIte, RD_nil, RD_cons, RD_consg, W_dreg, obl_nil, Nat.reduceAdd, Nat.add_zero, Nat.zero_add, Nat.mul_one, Int.toNat_natCast, W_skip, W_reg, W_seq, W_cond, W_block, W_exit, W_ret, getD_nil', RW_nil, RW_cons, RW_consg, AOp.map, AX_fr, AX_tm, AX_c, AX_fn, AX_g, D_no, D_no', D_tm, D_tm', D_fr, D_fr', List.getD_cons_zero, List.getD_cons_succ, List.set_cons_zero, List.set_cons_succ, List.map_cons, List.map_nil, Option.map_some, Option.map_none, wantA, beq_self_eq_true, if_true, Bool.false_eq_true, if_false, Bool.not_true, Bool.not_false, s_mov, s_pick, s_new, s_box, s_build, s_bslice, s_load1, s_loadn, s_nilck, s_bin, s_eqv, s_not, s_neg, s_i2i, s_s2s, s_s2b, s_iface, s_mkfn, s_faddr, s_fld1, s_iaddr, s_idxs, s_assert, s_extract, s_len, s_lens, s_lenc, s_callf, resO0, resO1, resO2, resO3, List.getElem?_cons_zero, List.getElem?_cons_succ, Nat.reduceEqDiff, true_and, and_true, false_and, e_sn, e_ss, e_pn, e_ps, e_bb, fill0, fill1, b_add, b_sub, b_mul, b_eql, b_neq, b_lss, b_leq, b_gtr, b_geq, b_and, b_or, b_xor, b_seql, b_sneq, b_slss, AQ.andThen, AQ.inBlock, Option.some.injEq, exists_eq_left', exists_eq_left, reduceCtorEq, Exit.exit.injEq]
  rw [wrap_i64 (n := (wd t : Int) - 1) (by omega) (by omega), wrap_i64 (by omega) (by omega)]
  refine W_loop (fun k fr H1 => ∃ (j : Int) (x : Value) (m : List UInt8) (bv1 : Nat), fr = [ptr b 0, .iface t (.int (kd t) n), .int .u64 n, .int .i64 (wd t), .int .i64 (8 * j), .bool false, x] ∧ -1 ≤ j ∧ j < wd t ∧ k = (j + 1).toNat ∧
    m ++ be (j + 1).toNat n = be (wd t) n ∧ WS H1 b bv1 (l ++ m) ∧ (bv1 = bv ∨ H.n ≤ bv1) ∧ Chg [b, bv] H H1) (wd t) ?_ ?_
  · refine ⟨(wd t : Int) - 1, undef, [], bv, rfl, by omega, by omega, by omega, ?_, by rw [List.append_nil]; exact h, .inl rfl, Chg.refl _ _⟩
    rw [show ((wd t : Int) - 1 + 1).toNat = wd t by omega, List.nil_append]
  · rintro k fr H1 ⟨j, x, m, bv1, rfl, h1, h2, rfl, h3, h4, h5, h6⟩
    simp only [↓reduceIte, RD_nil, RD_cons, RD_consg, W_dreg, obl_nil, Nat.reduceAdd, Nat.add_zero, Nat.zero_add, Nat.mul_one, Int.toNat_natCast, W_skip, W_reg, W_seq, W_cond, W_block, W_exit, W_ret, getD_nil', RW_nil, RW_cons, RW_consg, AOp.map, AX_fr, AX_tm, AX_c, AX_fn, AX_g, D_no, D_no', D_tm, D_tm', D_fr, D_fr', List.getD_cons_zero, List.getD_cons_succ, List.set_cons_zero, List.set_cons_succ, List.map_cons, List.map_nil, Option.map_some, Option.map_none, wantA, beq_self_eq_true, if_true, Bool.false_eq_true, if_false, Bool.not_true, Bool.not_false, s_mov, s_pick, s_new, s_box, s_build, s_bslice, s_load1, s_loadn, s_nilck, s_bin, s_eqv, s_not, s_neg, s_i2i, s_s2s, s_s2b, s_iface, s_mkfn, s_faddr, s_fld1, s_iaddr, s_idxs, s_assert, s_extract, s_len, s_lens, s_lenc, s_callf, resO0, resO1, resO2, resO3, List.getElem?_cons_zero, List.getElem?_cons_succ, Nat.reduceEqDiff, true_and, and_true, false_and, e_sn, e_ss, e_pn, e_ps, e_bb, fill0, fill1, b_add, b_sub, b_mul, b_eql, b_neq, b_lss, b_leq, b_gtr, b_geq, b_and, b_or, b_xor, b_seql, b_sneq, b_slss, AQ.andThen, AQ.inBlock, Option.some.injEq, exists_eq_left', exists_eq_left, reduceCtorEq, Exit.exit.injEq]
    by_cases hj : 0 ≤ j
    · obtain ⟨i, rfl⟩ : ∃ i : Nat, j = i := ⟨j.toNat, by omega⟩
      simp only [show (0 : Int) ≤ 8 * (i : Int) by omega, decide_true, ↓reduceIte, RD_nil, RD_cons, RD_consg, W_dreg, obl_nil, Nat.reduceAdd, Nat.add_zero, Nat.zero_add, Nat.mul_one, Int.toNat_natCast, W_skip, W_reg, W_seq, W_cond, W_block, W_exit, W_ret, getD_nil', RW_nil, RW_cons, RW_consg, AOp.map, AX_fr, AX_tm, AX_c, AX_fn, AX_g, D_no, D_no', D_tm, D_tm', D_fr, D_fr', List.getD_cons_zero, List.getD_cons_succ, List.set_cons_zero, List.set_cons_succ, List.map_cons, List.map_nil, Option.map_some, Option.map_none, wantA, beq_self_eq_true, if_true, Bool.false_eq_true, if_false, Bool.not_true, Bool.not_false, s_mov, s_pick, s_new, s_box, s_build, s_bslice, s_load1, s_loadn, s_nilck, s_bin, s_eqv, s_not, s_neg, s_i2i, s_s2s, s_s2b, s_iface, s_mkfn, s_faddr, s_fld1, s_iaddr, s_idxs, s_assert, s_extract, s_len, s_lens, s_lenc, s_callf, resO0, resO1, resO2, resO3, List.getElem?_cons_zero, List.getElem?_cons_succ, Nat.reduceEqDiff, true_and, and_true, false_and, e_sn, e_ss, e_pn, e_ps, e_bb, fill0, fill1, b_add, b_sub, b_mul, b_eql, b_neq, b_lss, b_leq, b_gtr, b_geq, b_and, b_or, b_xor, b_seql, b_sneq, b_slss, AQ.andThen, AQ.inBlock, Option.some.injEq, exists_eq_left', exists_eq_left, reduceCtorEq, Exit.exit.injEq]
      have hji : ((i : Int) + 1).toNat = i + 1 := by omega
      rw [hji] at h3
      have hlen : m.length + (i + 1) = wd t := by
        have := congrArg List.length h3
        simpa [be_length] using this
      have h4' := h4.chg (S := []) (((Keeps.refl H1).alloc (.cells true false 1 [.int .u8 (UInt8.ofNat (n / 256 ^ i)).toNat] 5)).chg []) (by simp) (by simp)
      obtain ⟨v, v', H2, e1, e2, e3, e4, bv', e5, e6, e7⟩ := h4'.app (m := [UInt8.ofNat (n / 256 ^ i)]) (x := slc H1.n 0 1 1) ⟨⟨_, _, rfl⟩, elems_own (AHeap.get_alloc_new H1 _) rfl⟩ (by simp; omega)
      have e0 : H1.get b = some (.cells true false 1 [v] 166) := by
        rw [AHeap.get_alloc_old H1 _ h4.lt.1] at e1; exact e1
      simp only [cellA_of e0, b_shr _ _ _ _ (show (0 : Int) ≤ 8 * (i : Int) by omega), ↓reduceIte, RD_nil, RD_cons, RD_consg, W_dreg, obl_nil, Nat.reduceAdd, Nat.add_zero, Nat.zero_add, Nat.mul_one, Int.toNat_natCast, W_skip, W_reg, W_seq, W_cond, W_block, W_exit, W_ret, getD_nil', RW_nil, RW_cons, RW_consg, AOp.map, AX_fr, AX_tm, AX_c, AX_fn, AX_g, D_no, D_no', D_tm, D_tm', D_fr, D_fr', List.getD_cons_zero, List.getD_cons_succ, List.set_cons_zero, List.set_cons_succ, List.map_cons, List.map_nil, Option.map_some, Option.map_none, wantA, beq_self_eq_true, if_true, Bool.false_eq_true, if_false, Bool.not_true, Bool.not_false, s_mov, s_pick, s_new, s_box, s_build, s_bslice, s_load1, s_loadn, s_nilck, s_bin, s_eqv, s_not, s_neg, s_i2i, s_s2s, s_s2b, s_iface, s_mkfn, s_faddr, s_fld1, s_iaddr, s_idxs, s_assert, s_extract, s_len, s_lens, s_lenc, s_callf, resO0, resO1, resO2, resO3, List.getElem?_cons_zero, List.getElem?_cons_succ, Nat.reduceEqDiff, true_and, and_true, false_and, e_sn, e_ss, e_pn, e_ps, e_bb, fill0, fill1, b_add, b_sub, b_mul, b_eql, b_neq, b_lss, b_leq, b_gtr, b_geq, b_and, b_or, b_xor, b_seql, b_sneq, b_slss, AQ.andThen, AQ.inBlock, Option.some.injEq, exists_eq_left', exists_eq_left, reduceCtorEq, Exit.exit.injEq]
      have hmin : min (8 * (i : Int)).toNat IntKind.u64.bits = 8 * i := by simp only [IntKind.bits]; omega
      rw [hmin, wrap_u8, byte_cell]
      refine ⟨⟨rfl, rfl⟩, e2 _ ?_⟩
      simp only [↓reduceIte, RD_nil, RD_cons, RD_consg, W_dreg, obl_nil, Nat.reduceAdd, Nat.add_zero, Nat.zero_add, Nat.mul_one, Int.toNat_natCast, W_skip, W_reg, W_seq, W_cond, W_block, W_exit, W_ret, getD_nil', RW_nil, RW_cons, RW_consg, AOp.map, AX_fr, AX_tm, AX_c, AX_fn, AX_g, D_no, D_no', D_tm, D_tm', D_fr, D_fr', List.getD_cons_zero, List.getD_cons_succ, List.set_cons_zero, List.set_cons_succ, List.map_cons, List.map_nil, Option.map_some, Option.map_none, wantA, beq_self_eq_true, if_true, Bool.false_eq_true, if_false, Bool.not_true, Bool.not_false, s_mov, s_pick, s_new, s_box, s_build, s_bslice, s_load1, s_loadn, s_nilck, s_bin, s_eqv, s_not, s_neg, s_i2i, s_s2s, s_s2b, s_iface, s_mkfn, s_faddr, s_fld1, s_iaddr, s_idxs, s_assert, s_extract, s_len, s_lens, s_lenc, s_callf, resO0, resO1, resO2, resO3, List.getElem?_cons_zero, List.getElem?_cons_succ, Nat.reduceEqDiff, true_and, and_true, false_and, e_sn, e_ss, e_pn, e_ps, e_bb, fill0, fill1, b_add, b_sub, b_mul, b_eql, b_neq, b_lss, b_leq, b_gtr, b_geq, b_and, b_or, b_xor, b_seql, b_sneq, b_slss, AQ.andThen, AQ.inBlock, Option.some.injEq, exists_eq_left', exists_eq_left, reduceCtorEq, Exit.exit.injEq, s_store1 e3]
      refine ⟨⟨by simp, e4⟩, i, by omega, (i : Int) - 1, .bool true, m ++ [UInt8.ofNat (n / 256 ^ i)], bv', ?_, by omega, by omega, by omega, ?_, ?_, ?_, ?_⟩
      · rw [wrap_i64 (by omega) (by omega), show 8 * (i : Int) - 8 = 8 * ((i : Int) - 1) by omega]
      · rw [show ((i : Int) - 1 + 1).toNat = i by omega, ← h3]
        simp [be]
      · rw [← List.append_assoc]; exact e5
      · have := h6.n
        rw [alloc_n] at e6
        omega
      · have := h6.n
        refine (h6.alloc _).trans e7 ?_
        intro x hx
        simp only [List.mem_cons, List.not_mem_nil, or_false] at hx ⊢
        omega
    · simp only [show ¬ (0 : Int) ≤ 8 * j by omega, decide_false, ↓reduceIte, RD_nil, RD_cons, RD_consg, W_dreg, obl_nil, Nat.reduceAdd, Nat.add_zero, Nat.zero_add, Nat.mul_one, Int.toNat_natCast, W_skip, W_reg, W_seq, W_cond, W_block, W_exit, W_ret, getD_nil', RW_nil, RW_cons, RW_consg, AOp.map, AX_fr, AX_tm, AX_c, AX_fn, AX_g, D_no, D_no', D_tm, D_tm', D_fr, D_fr', List.getD_cons_zero, List.getD_cons_succ, List.set_cons_zero, List.set_cons_succ, List.map_cons, List.map_nil, Option.map_some, Option.map_none, wantA, beq_self_eq_true, if_true, Bool.false_eq_true, if_false, Bool.not_true, Bool.not_false, s_mov, s_pick, s_new, s_box, s_build, s_bslice, s_load1, s_loadn, s_nilck, s_bin, s_eqv, s_not, s_neg, s_i2i, s_s2s, s_s2b, s_iface, s_mkfn, s_faddr, s_fld1, s_iaddr, s_idxs, s_assert, s_extract, s_len, s_lens, s_lenc, s_callf, resO0, resO1, resO2, resO3, List.getElem?_cons_zero, List.getElem?_cons_succ, Nat.reduceEqDiff, true_and, and_true, false_and, e_sn, e_ss, e_pn, e_ps, e_bb, fill0, fill1, b_add, b_sub, b_mul, b_eql, b_neq, b_lss, b_leq, b_gtr, b_geq, b_and, b_or, b_xor, b_seql, b_sneq, b_slss, AQ.andThen, AQ.inBlock, Option.some.injEq, exists_eq_left', exists_eq_left, reduceCtorEq, Exit.exit.injEq]
      have : (j + 1).toNat = 0 := by omega
      rw [this] at h3
      simp only [be, List.append_nil] at h3
      subst h3
      exact ⟨bv1, h4, h5, h6⟩
def Put (H H' : AHeap) (b bv : Nat) (l : List UInt8) : Prop := ∃ bv', WS H' b bv' l ∧ (bv' = bv ∨ H.n ≤ bv') ∧ Chg [b, bv] H H'
theorem t79 {H : AHeap} {b bv : Nat} {l : List UInt8} (h : WS H b bv l) (n : Nat) (hn : n < 256) (hl : l.length ≤ 100000000) : ∃ v H', ARun Go.Proofs.Try.prog 0 79 [ptr b 0, .int .u8 n] H v H' ∧ Put H H' b bv (l ++ be 1 n) := by
  refine walk f79_ok f79_n ?_
  obtain ⟨v, H', r, p⟩ := t105 h 5 n (by omega) (by simpa [wd] using hn) hl
  simp only [f79, initFr, ↓reduceIte, RD_nil, RD_cons, RD_consg, W_dreg, obl_nil, Nat.reduceAdd, Nat.add_zero, Nat.zero_add, Nat.mul_one, Int.toNat_natCast, W_skip, W_reg, W_seq, W_cond, W_block, W_exit, W_ret, getD_nil', RW_nil, RW_cons, RW_consg, AOp.map, AX_fr, AX_tm, AX_c, AX_fn, AX_g, D_no, D_no', D_tm, D_tm', D_fr, D_fr', List.getD_cons_zero, List.getD_cons_succ, List.set_cons_zero, List.set_cons_succ, List.map_cons, List.map_nil, Option.map_some, Option.map_none, wantA, beq_self_eq_true, if_true, Bool.false_eq_true, if_false, Bool.not_true, Bool.not_false, s_mov, s_pick, s_new, s_box, s_build, s_bslice, s_load1, s_loadn, s_nilck, s_bin, s_eqv, s_not, s_neg, s_i2i, s_s2s, s_s2b, s_iface, s_mkfn, s_faddr, s_fld1, s_iaddr, s_idxs, s_assert, s_extract, s_len, s_lens, s_lenc, s_callf, resO0, resO1, resO2, resO3, List.getElem?_cons_zero, List.getElem?_cons_succ, Nat.reduceEqDiff, true_and, and_true, false_and, e_sn, e_ss, e_pn, e_ps, e_bb, fill0, fill1, b_add, b_sub, b_mul, b_eql, b_neq, b_lss, b_leq, b_gtr, b_geq, b_and, b_or, b_xor, b_seql, b_sneq, b_slss, AQ.andThen, AQ.inBlock, Option.some.injEq, exists_eq_left', exists_eq_left, reduceCtorEq, Exit.exit.injEq]
  exact ⟨v, H', r, p⟩
theorem t81 {H : AHeap} {b bv : Nat} {l : List UInt8} (h : WS H b bv l) (n : Nat) (hn : n < 65536) (hl : l.length ≤ 100000000) : ∃ v H', ARun Go.Proofs.Try.prog 0 81 [ptr b 0, .int .u16 n] H v H' ∧ Put H H' b bv (l ++ be 2 n) := by
  refine walk f81_ok f81_n ?_
  obtain ⟨v, H', r, p⟩ := t105 h 111 n (by omega) (by simpa [wd] using hn) hl
  simp only [f81, initFr, ↓reduceIte, RD_nil, RD_cons, RD_consg, W_dreg, obl_nil, Nat.reduceAdd, Nat.add_zero, Nat.zero_add, Nat.mul_one, Int.toNat_natCast, W_skip, W_reg, W_seq, W_cond, W_block, W_exit, W_ret, getD_nil', RW_nil, RW_cons, RW_consg, AOp.map, AX_fr, AX_tm, AX_c, AX_fn, AX_g, D_no, D_no', D_tm, D_tm', D_fr, D_fr', List.getD_cons_zero, List.getD_cons_succ, List.set_cons_zero, List.set_cons_succ, List.map_cons, List.map_nil, Option.map_some, Option.map_none, wantA, beq_self_eq_true, if_true, Bool.false_eq_true, if_false, Bool.not_true, Bool.not_false, s_mov, s_pick, s_new, s_box, s_build, s_bslice, s_load1, s_loadn, s_nilck, s_bin, s_eqv, s_not, s_neg, s_i2i, s_s2s, s_s2b, s_iface, s_mkfn, s_faddr, s_fld1, s_iaddr, s_idxs, s_assert, s_extract, s_len, s_lens, s_lenc, s_callf, resO0, resO1, resO2, resO3, List.getElem?_cons_zero, List.getElem?_cons_succ, Nat.reduceEqDiff, true_and, and_true, false_and, e_sn, e_ss, e_pn, e_ps, e_bb, fill0, fill1, b_add, b_sub, b_mul, b_eql, b_neq, b_lss, b_leq, b_gtr, b_geq, b_and, b_or, b_xor, b_seql, b_sneq, b_slss, AQ.andThen, AQ.inBlock, Option.some.injEq, exists_eq_left', exists_eq_left, reduceCtorEq, Exit.exit.injEq]
  exact ⟨v, H', r, p⟩
theorem t85 {H : AHeap} {b bv : Nat} {l : List UInt8} (h : WS H b bv l) (n : Nat) (hn : n < 4294967296) (hl : l.length ≤ 100000000) : ∃ v H', ARun Go.Proofs.Try.prog 0 85 [ptr b 0, .int .u32 n] H v H' ∧ Put H H' b bv (l ++ be 4 n) := by
  refine walk f85_ok f85_n ?_
  obtain ⟨v, H', r, p⟩ := t105 h 25 n (by omega) (by simpa [wd] using hn) hl
  simp only [f85, initFr, ↓reduceIte, RD_nil, RD_cons, RD_consg, W_dreg, obl_nil, Nat.reduceAdd, Nat.add_zero, Nat.zero_add, Nat.mul_one, Int.toNat_natCast, W_skip, W_reg, W_seq, W_cond, W_block, W_exit, W_ret, getD_nil', RW_nil, RW_cons, RW_consg, AOp.map, AX_fr, AX_tm, AX_c, AX_fn, AX_g, D_no, D_no', D_tm, D_tm', D_fr, D_fr', List.getD_cons_zero, List.getD_cons_succ, List.set_cons_zero, List.set_cons_succ, List.map_cons, List.map_nil, Option.map_some, Option.map_none, wantA, beq_self_eq_true, if_true, Bool.false_eq_true, if_false, Bool.not_true, Bool.not_false, s_mov, s_pick, s_new, s_box, s_build, s_bslice, s_load1, s_loadn, s_nilck, s_bin, s_eqv, s_not, s_neg, s_i2i, s_s2s, s_s2b, s_iface, s_mkfn, s_faddr, s_fld1, s_iaddr, s_idxs, s_assert, s_extract, s_len, s_lens, s_lenc, s_callf, resO0, resO1, resO2, resO3, List.getElem?_cons_zero, List.getElem?_cons_succ, Nat.reduceEqDiff, true_and, and_true, false_and, e_sn, e_ss, e_pn, e_ps, e_bb, fill0, fill1, b_add, b_sub, b_mul, b_eql, b_neq, b_lss, b_leq, b_gtr, b_geq, b_and, b_or, b_xor, b_seql, b_sneq, b_slss, AQ.andThen, AQ.inBlock, Option.some.injEq, exists_eq_left', exists_eq_left, reduceCtorEq, Exit.exit.injEq]
  exact ⟨v, H', r, p⟩
theorem t84 {H : AHeap} {b bv : Nat} {l : List UInt8} (h : WS H b bv l) (n : Nat) (hn : n < 18446744073709551616) (hl : l.length ≤ 100000000) : ∃ v H', ARun Go.Proofs.Try.prog 0 84 [ptr b 0, .int .u64 n] H v H' ∧ Put H H' b bv (l ++ be 8 n) := by
  refine walk f84_ok f84_n ?_
  obtain ⟨v, H', r, p⟩ := t105 h 24 n (by omega) (by simpa [wd] using hn) hl
  simp only [f84, initFr, ↓reduceIte, RD_nil, RD_cons, RD_consg, W_dreg, obl_nil, Nat.reduceAdd, Nat.add_zero, Nat.zero_add, Nat.mul_one, Int.toNat_natCast, W_skip, W_reg, W_seq, W_cond, W_block, W_exit, W_ret, getD_nil', RW_nil, RW_cons, RW_consg, AOp.map, AX_fr, AX_tm, AX_c, AX_fn, AX_g, D_no, D_no', D_tm, D_tm', D_fr, D_fr', List.getD_cons_zero, List.getD_cons_succ, List.set_cons_zero, List.set_cons_succ, List.map_cons, List.map_nil, Option.map_some, Option.map_none, wantA, beq_self_eq_true, if_true, Bool.false_eq_true, if_false, Bool.not_true, Bool.not_false, s_mov, s_pick, s_new, s_box, s_build, s_bslice, s_load1, s_loadn, s_nilck, s_bin, s_eqv, s_not, s_neg, s_i2i, s_s2s, s_s2b, s_iface, s_mkfn, s_faddr, s_fld1, s_iaddr, s_idxs, s_assert, s_extract, s_len, s_lens, s_lenc, s_callf, resO0, resO1, resO2, resO3, List.getElem?_cons_zero, List.getElem?_cons_succ, Nat.reduceEqDiff, true_and, and_true, false_and, e_sn, e_ss, e_pn, e_ps, e_bb, fill0, fill1, b_add, b_sub, b_mul, b_eql, b_neq, b_lss, b_leq, b_gtr, b_geq, b_and, b_or, b_xor, b_seql, b_sneq, b_slss, AQ.andThen, AQ.inBlock, Option.some.injEq, exists_eq_left', exists_eq_left, reduceCtorEq, Exit.exit.injEq]
  exact ⟨v, H', r, p⟩
theorem t82 {H : AHeap} {b bv : Nat} {l m : List UInt8} {x : Value} (h : WS H b bv l) (hx : BS H x m) (hl : l.length + m.length ≤ 1000000000) : ∃ v H', ARun Go.Proofs.Try.prog 0 82 [ptr b 0, x] H v H' ∧ Put H H' b bv (l ++ m) := by
  refine walk f82_ok f82_n ?_
  obtain ⟨v, v', H1, e1, e2, e3, e4, e5⟩ := h.app hx hl
  simp only [f82, initFr, cellA_of e1, ↓reduceIte, RD_nil, RD_cons, RD_consg, W_dreg, obl_nil, Nat.reduceAdd, Nat.add_zero, Nat.zero_add, Nat.mul_one, Int.toNat_natCast, W_skip, W_reg, W_seq, W_cond, W_block, W_exit, W_ret, getD_nil', RW_nil, RW_cons, RW_consg, AOp.map, AX_fr, AX_tm, AX_c, AX_fn, AX_g, D_no, D_no', D_tm, D_tm', D_fr, D_fr', List.getD_cons_zero, List.getD_cons_succ, List.set_cons_zero, List.set_cons_succ, List.map_cons, List.map_nil, Option.map_some, Option.map_none, wantA, beq_self_eq_true, if_true, Bool.false_eq_true, if_false, Bool.not_true, Bool.not_false, s_mov, s_pick, s_new, s_box, s_build, s_bslice, s_load1, s_loadn, s_nilck, s_bin, s_eqv, s_not, s_neg, s_i2i, s_s2s, s_s2b, s_iface, s_mkfn, s_faddr, s_fld1, s_iaddr, s_idxs, s_assert, s_extract, s_len, s_lens, s_lenc, s_callf, resO0, resO1, resO2, resO3, List.getElem?_cons_zero, List.getElem?_cons_succ, Nat.reduceEqDiff, true_and, and_true, false_and, e_sn, e_ss, e_pn, e_ps, e_bb, fill0, fill1, b_add, b_sub, b_mul, b_eql, b_neq, b_lss, b_leq, b_gtr, b_geq, b_and, b_or, b_xor, b_seql, b_sneq, b_slss, AQ.andThen, AQ.inBlock, Option.some.injEq, exists_eq_left', exists_eq_left, reduceCtorEq, Exit.exit.injEq]
  refine e2 _ ?_
  simp only [s_store1 e3, ↓reduceIte, RD_nil, RD_cons, RD_consg, W_dreg, obl_nil, Nat.reduceAdd, Nat.add_zero, Nat.zero_add, Nat.mul_one, Int.toNat_natCast, W_skip, W_reg, W_seq, W_cond, W_block, W_exit, W_ret, getD_nil', RW_nil, RW_cons, RW_consg, AOp.map, AX_fr, AX_tm, AX_c, AX_fn, AX_g, D_no, D_no', D_tm, D_tm', D_fr, D_fr', List.getD_cons_zero, List.getD_cons_succ, List.set_cons_zero, List.set_cons_succ, List.map_cons, List.map_nil, Option.map_some, Option.map_none, wantA, beq_self_eq_true, if_true, Bool.false_eq_true, if_false, Bool.not_true, Bool.not_false, s_mov, s_pick, s_new, s_box, s_build, s_bslice, s_load1, s_loadn, s_nilck, s_bin, s_eqv, s_not, s_neg, s_i2i, s_s2s, s_s2b, s_iface, s_mkfn, s_faddr, s_fld1, s_iaddr, s_idxs, s_assert, s_extract, s_len, s_lens, s_lenc, s_callf, resO0, resO1, resO2, resO3, List.getElem?_cons_zero, List.getElem?_cons_succ, Nat.reduceEqDiff, true_and, and_true, false_and, e_sn, e_ss, e_pn, e_ps, e_bb, fill0, fill1, b_add, b_sub, b_mul, b_eql, b_neq, b_lss, b_leq, b_gtr, b_geq, b_and, b_or, b_xor, b_seql, b_sneq, b_slss, AQ.andThen, AQ.inBlock, Option.some.injEq, exists_eq_left', exists_eq_left, reduceCtorEq, Exit.exit.injEq]
  exact ⟨⟨by simp, e4⟩, e5⟩
theorem t104 {H : AHeap} {b bv : Nat} {l : List UInt8} (h : WS H b bv l) (hl : l.length ≤ 1000000000) : ∃ v H', ARun Go.Proofs.Try.prog 0 104 [ptr b 0] H v H' ∧ AP H' 5 1 v l.length (cellsOf l) ∧ Keeps H H' ∧ Fresh H.n v := by
  refine walk f104_ok f104_n ?_
  obtain ⟨v, h1, h2, h3⟩ := h
  obtain ⟨v', H', r, p⟩ := t73 h2.bs hl
  simp only [f104, initFr, cellA_of h1, ↓reduceIte, RD_nil, RD_cons, RD_consg, W_dreg, obl_nil, Nat.reduceAdd, Nat.add_zero, Nat.zero_add, Nat.mul_one, Int.toNat_natCast, W_skip, W_reg, W_seq, W_cond, W_block, W_exit, W_ret, getD_nil', RW_nil, RW_cons, RW_consg, AOp.map, AX_fr, AX_tm, AX_c, AX_fn, AX_g, D_no, D_no', D_tm, D_tm', D_fr, D_fr', List.getD_cons_zero, List.getD_cons_succ, List.set_cons_zero, List.set_cons_succ, List.map_cons, List.map_nil, Option.map_some, Option.map_none, wantA, beq_self_eq_true, if_true, Bool.false_eq_true, if_false, Bool.not_true, Bool.not_false, s_mov, s_pick, s_new, s_box, s_build, s_bslice, s_load1, s_loadn, s_nilck, s_bin, s_eqv, s_not, s_neg, s_i2i, s_s2s, s_s2b, s_iface, s_mkfn, s_faddr, s_fld1, s_iaddr, s_idxs, s_assert, s_extract, s_len, s_lens, s_lenc, s_callf, resO0, resO1, resO2, resO3, List.getElem?_cons_zero, List.getElem?_cons_succ, Nat.reduceEqDiff, true_and, and_true, false_and, e_sn, e_ss, e_pn, e_ps, e_bb, fill0, fill1, b_add, b_sub, b_mul, b_eql, b_neq, b_lss, b_leq, b_gtr, b_geq, b_and, b_or, b_xor, b_seql, b_sneq, b_slss, AQ.andThen, AQ.inBlock, Option.some.injEq, exists_eq_left', exists_eq_left, reduceCtorEq, Exit.exit.injEq]
  exact ⟨v', H', r, p⟩
theorem be_mod : ∀ w n k : Nat, w ≤ k → be w (n % 256 ^ k) = be w n
  | 0, _, _, _ => rfl
  | w + 1, n, k, h => by
    simp only [be]
    rw [be_mod w n k (by omega)]
    congr 1
    have h1 : n % 256 ^ k / 256 ^ w = n / 256 ^ w % 256 ^ (k - w) := by
      rw [show (256 : Nat) ^ k = 256 ^ w * 256 ^ (k - w) by rw [← Nat.pow_add]; congr 1; omega]
      rw [Nat.mod_mul_right_div_self]
    rw [h1]
    have h2 : (256 : Nat) ^ (k - w) = 256 * 256 ^ (k - w - 1) := by
      rw [← Nat.pow_succ']; congr 1; omega
    apply UInt8.toNat_inj.1
    simp only [UInt8.toNat_ofNat', h2]
    exact Nat.mod_mul_right_mod _ _ _
def num (l : List UInt8) : Nat := l.foldl (fun n b => (n * 256 + b.toNat) % 18446744073709551616) 0
theorem num_append (l : List UInt8) (b : UInt8) : num (l ++ [b]) = (num l * 256 + b.toNat) % 18446744073709551616 := by simp [num]
theorem or_byte (n : Nat) (b : UInt8) : (IntKind.u64.wrap ((BitVec.ofInt IntKind.u64.bits (IntKind.u64.wrap ((n : Int) * 2 ^ (min 8 IntKind.u64.bits))) ||| BitVec.ofInt IntKind.u64.bits (b.toNat : Int)).toNat : Int)) =
    (((n * 256 + b.toNat) % 18446744073709551616 : Nat) : Int) := by
  have hb := b.toNat_lt
  change IntKind.u64.wrap (((BitVec.ofInt 64 (IntKind.u64.wrap ((n : Int) * 2 ^ (min 8 64))) ||| BitVec.ofInt 64 (b.toNat : Int)).toNat : Nat) : Int) = _
  have e1 : (IntKind.u64.wrap ((n : Int) * 2 ^ (min 8 64))) = ((n * 256 % 18446744073709551616 : Nat) : Int) := by
    rw [wrap_u64]
    have : (2 : Int) ^ (min 8 64) = 256 := by decide
    rw [this]
    omega
  rw [e1]
  simp only [BitVec.ofInt_natCast, BitVec.toNat_or, BitVec.toNat_ofNat]
  have h1 : n * 256 % 18446744073709551616 % 2 ^ 64 = (n % 72057594037927936) <<< 8 := by
    rw [Nat.shiftLeft_eq]; omega
  have h2 : b.toNat % 2 ^ 64 = b.toNat := by omega
  rw [h1, h2, ← Nat.shiftLeft_add_eq_or_of_lt (by omega), wrap_u64, Nat.shiftLeft_eq]
  omega
theorem t102 {H : AHeap} {x : Value} {l : List UInt8} (hx : BS H x l) (hl : l.length ≤ 1000000000) : ARun Go.Proofs.Try.prog 0 102 [x] H (.int .u64 (num l)) H := by
  suffices h : ∃ v H', ARun Go.Proofs.Try.prog 0 102 [x] H v H' ∧ v = .int .u64 (num l) ∧ H' = H by
    obtain ⟨v, H', h1, h2, h3⟩ := h
    rw [h2, h3] at h1; exact h1
  refine walk f102_ok f102_n ?_
  simp only [f102, initFr, ↓reduceIte, RD_nil, RD_cons, RD_consg, W_dreg, obl_nil, Nat.reduceAdd, Nat.add_zero, Nat.zero_add, Nat.mul_one, Int.toNat_natCast, W_skip, W_reg, W_seq, W_cond, W_block, W_exit, W_ret, getD_nil', RW_nil, RW_cons, RW_consg, AOp.map, AX_fr, AX_tm, AX_c, AX_fn, AX_g, D_no, D_no', D_tm, D_tm', D_fr, D_fr', List.getD_cons_zero, List.getD_cons_succ, List.set_cons_zero, List.set_cons_succ, List.map_cons, List.map_nil, Option.map_some, Option.map_none, wantA, beq_self_eq_true, if_true, Bool.false_eq_true, if_false, Bool.not_true, Bool.not_false, s_mov, s_pick, s_new, s_box, s_build, s_bslice, s_load1, s_loadn, s_nilck, s_bin, s_eqv, s_not, s_neg, s_i2i, s_s2s, s_s2b, s_iface, s_mkfn, s_faddr, s_fld1, s_iaddr, s_idxs, s_assert, s_extract, s_len, s_lens, s_lenc, s_callf, resO0, resO1, resO2, resO3, List.getElem?_cons_zero, List.getElem?_cons_succ, Nat.reduceEqDiff, true_and, and_true, false_and, e_sn, e_ss, e_pn, e_ps, e_bb, fill0, fill1, b_add, b_sub, b_mul, b_eql, b_neq, b_lss, b_leq, b_gtr, b_geq, b_and, b_or, b_xor, b_seql, b_sneq, b_slss, AQ.andThen, AQ.inBlock, Option.some.injEq, exists_eq_left', exists_eq_left, reduceCtorEq, Exit.exit.injEq]
  refine W_loop (fun k fr H1 => ∃ (i : Nat) (c : Value), fr = [x, .int .u64 0, .int .u64 (num (l.take i)), .int .i64 i, c] ∧ i ≤ l.length ∧ k = l.length - i ∧ H1 = H) l.length ?_ ?_
  · exact ⟨0, undef, by simp [num], by omega, rfl, rfl⟩
  · rintro k fr H1 ⟨i, c, rfl, h1, rfl, rfl⟩
    obtain ⟨a, kk, hsh⟩ := hx.sh
    by_cases hi : i < l.length
    · obtain ⟨b, o, kc, rfl, hc⟩ := hx.split (fun e => by subst e; simp at hi)
      simp only [↓reduceIte, RD_nil, RD_cons, RD_consg, W_dreg, obl_nil, Nat.reduceAdd, Nat.add_zero, Nat.zero_add, Nat.mul_one, Int.toNat_natCast, W_skip, W_reg, W_seq, W_cond, W_block, W_exit, W_ret, getD_nil', RW_nil, RW_cons, RW_consg, AOp.map, AX_fr, AX_tm, AX_c, AX_fn, AX_g, D_no, D_no', D_tm, D_tm', D_fr, D_fr', List.getD_cons_zero, List.getD_cons_succ, List.set_cons_zero, List.set_cons_succ, List.map_cons, List.map_nil, Option.map_some, Option.map_none, wantA, beq_self_eq_true, if_true, Bool.false_eq_true, if_false, Bool.not_true, Bool.not_false, s_mov, s_pick, s_new, s_box, s_build, s_bslice, s_load1, s_loadn, s_nilck, s_bin, s_eqv, s_not, s_neg, s_i2i, s_s2s, s_s2b, s_iface, s_mkfn, s_faddr, s_fld1, s_iaddr, s_idxs, s_assert, s_extract, s_len, s_lens, s_lenc, s_callf, resO0, resO1, resO2, resO3, List.getElem?_cons_zero, List.getElem?_cons_succ, Nat.reduceEqDiff, true_and, and_true, false_and, e_sn, e_ss, e_pn, e_ps, e_bb, fill0, fill1, b_add, b_sub, b_mul, b_eql, b_neq, b_lss, b_leq, b_gtr, b_geq, b_and, b_or, b_xor, b_seql, b_sneq, b_slss, AQ.andThen, AQ.inBlock, Option.some.injEq, exists_eq_left', exists_eq_left, reduceCtorEq, Exit.exit.injEq, show (i : Int) < (l.length : Int) by omega, decide_true, hc i hi, b_shl _ _ _ _ (show (0 : Int) ≤ 8 by omega), wrap_u64 ((l[i].toNat : Int))]
      have e1 : ((l[i].toNat : Int) % 18446744073709551616) = (l[i].toNat : Int) := by have := l[i].toNat_lt; omega
      rw [show Int.toNat 8 = 8 from rfl, e1, or_byte, ← num_append, wrap_i64 (by omega) (by omega)]
      refine ⟨by omega, l.length - (i + 1), by omega, i + 1, .bool true, ?_, by omega, rfl⟩
      rw [List.take_succ_eq_append_getElem hi]
      rfl
    · subst hsh
      simp only [↓reduceIte, RD_nil, RD_cons, RD_consg, W_dreg, obl_nil, Nat.reduceAdd, Nat.add_zero, Nat.zero_add, Nat.mul_one, Int.toNat_natCast, W_skip, W_reg, W_seq, W_cond, W_block, W_exit, W_ret, getD_nil', RW_nil, RW_cons, RW_consg, AOp.map, AX_fr, AX_tm, AX_c, AX_fn, AX_g, D_no, D_no', D_tm, D_tm', D_fr, D_fr', List.getD_cons_zero, List.getD_cons_succ, List.set_cons_zero, List.set_cons_succ, List.map_cons, List.map_nil, Option.map_some, Option.map_none, wantA, beq_self_eq_true, if_true, Bool.false_eq_true, if_false, Bool.not_true, Bool.not_false, s_mov, s_pick, s_new, s_box, s_build, s_bslice, s_load1, s_loadn, s_nilck, s_bin, s_eqv, s_not, s_neg, s_i2i, s_s2s, s_s2b, s_iface, s_mkfn, s_faddr, s_fld1, s_iaddr, s_idxs, s_assert, s_extract, s_len, s_lens, s_lenc, s_callf, resO0, resO1, resO2, resO3, List.getElem?_cons_zero, List.getElem?_cons_succ, Nat.reduceEqDiff, true_and, and_true, false_and, e_sn, e_ss, e_pn, e_ps, e_bb, fill0, fill1, b_add, b_sub, b_mul, b_eql, b_neq, b_lss, b_leq, b_gtr, b_geq, b_and, b_or, b_xor, b_seql, b_sneq, b_slss, AQ.andThen, AQ.inBlock, Option.some.injEq, exists_eq_left', exists_eq_left, reduceCtorEq, Exit.exit.injEq, show ¬ (i : Int) < (l.length : Int) by omega, decide_false]
      rw [List.take_of_length_le (by omega)]
def RV (H : AHeap) (r bv : Nat) (v : Value) (l : List UInt8) : Prop :=
  (v = .slice none 0 0 ∧ l = [] ∧ bv = r) ∨ ∃ o c rm, v = slc bv o l.length l.length ∧ H.get bv = some (.cells true rm 1 c 5) ∧ bv ≠ r ∧ c.drop o = cellsOf l ∧ o ≤ c.length
def RS (H : AHeap) (r bv : Nat) (l : List UInt8) (bad : Bool) : Prop := ∃ v, H.get r = some (.cells true false 2 [v, .bool bad] 171) ∧ RV H r bv v l
theorem RV.bs {H : AHeap} {r bv : Nat} {v : Value} {l : List UInt8} (h : RV H r bv v l) : BS H v l := by
  rcases h with ⟨rfl, rfl, rfl⟩ | ⟨o, c, rm, rfl, h1, h2, h3, h4⟩
  · exact BS.nil H
  · refine ⟨⟨_, _, rfl⟩, ?_⟩
    have hl := congrArg List.length h3
    rw [List.length_drop, cellsOf_length] at hl
    simp only [elemsA, slc, h1]
    rw [if_pos (by omega), h3, List.take_of_length_le (by rw [cellsOf_length]; omega)]
theorem RV.chg {H H' : AHeap} {r bv : Nat} {v : Value} {l : List UInt8} {S : List Nat} (h : RV H r bv v l) (k : Chg S H H') (hS : bv ∉ S) : RV H' r bv v l := by
  rcases h with ⟨rfl, rfl, rfl⟩ | ⟨o, c, rm, rfl, h1, h2, h3, h4⟩
  · exact .inl ⟨rfl, rfl, rfl⟩
  · exact .inr ⟨o, c, rm, rfl, k.at_ h1 hS, h2, h3, h4⟩
theorem RS.chg {H H' : AHeap} {r bv : Nat} {l : List UInt8} {bad : Bool} {S : List Nat} (h : RS H r bv l bad) (k : Chg S H H') (h1 : r ∉ S) (h2 : bv ∉ S) : RS H' r bv l bad := by
  obtain ⟨v, a1, a2⟩ := h
  exact ⟨v, k.at_ a1 h1, a2.chg k h2⟩
theorem RS.lt {H : AHeap} {r bv : Nat} {l : List UInt8} {bad : Bool} (h : RS H r bv l bad) : r < H.n ∧ bv < H.n := by
  obtain ⟨v, a1, a2⟩ := h
  refine ⟨AHeap.get_lt a1, ?_⟩
  rcases a2 with ⟨_, _, rfl⟩ | ⟨o, c, rm, _, h1, _⟩
  · exact AHeap.get_lt a1
  · exact AHeap.get_lt h1
theorem t96 {H : AHeap} {x : Value} {l : List UInt8} (hx : BS H x l) (hl : l.length ≤ 1000000000) : ∃ v H', ARun Go.Proofs.Try.prog 0 96 [x] H v H' ∧ ∃ r bv, v = ptr r 0 ∧ RS H' r bv l false ∧ H.n ≤ r ∧ H.n ≤ bv ∧ Keeps H H' := by
  refine walk f96_ok f96_n ?_
  obtain ⟨v, H1, r31, p1, p2, p3⟩ := t73 hx hl
  simp only [f96, initFr, ↓reduceIte, RD_nil, RD_cons, RD_consg, W_dreg, obl_nil, Nat.reduceAdd, Nat.add_zero, Nat.zero_add, Nat.mul_one, Int.toNat_natCast, W_skip, W_reg, W_seq, W_cond, W_block, W_exit, W_ret, getD_nil', RW_nil, RW_cons, RW_consg, AOp.map, AX_fr, AX_tm, AX_c, AX_fn, AX_g, D_no, D_no', D_tm, D_tm', D_fr, D_fr', List.getD_cons_zero, List.getD_cons_succ, List.set_cons_zero, List.set_cons_succ, List.map_cons, List.map_nil, Option.map_some, Option.map_none, wantA, beq_self_eq_true, if_true, Bool.false_eq_true, if_false, Bool.not_true, Bool.not_false, s_mov, s_pick, s_new, s_box, s_build, s_bslice, s_load1, s_loadn, s_nilck, s_bin, s_eqv, s_not, s_neg, s_i2i, s_s2s, s_s2b, s_iface, s_mkfn, s_faddr, s_fld1, s_iaddr, s_idxs, s_assert, s_extract, s_len, s_lens, s_lenc, s_callf, resO0, resO1, resO2, resO3, List.getElem?_cons_zero, List.getElem?_cons_succ, Nat.reduceEqDiff, true_and, and_true, false_and, e_sn, e_ss, e_pn, e_ps, e_bb, fill0, fill1, b_add, b_sub, b_mul, b_eql, b_neq, b_lss, b_leq, b_gtr, b_geq, b_and, b_or, b_xor, b_seql, b_sneq, b_slss, AQ.andThen, AQ.inBlock, Option.some.injEq, exists_eq_left', exists_eq_left, reduceCtorEq, Exit.exit.injEq]
  refine ⟨_, _, r31, ?_⟩
  obtain ⟨a, ha⟩ := p1.shape
  have hf : fillA [.slice none 0 0, .bool false] [(0, 1, v)] = some [v, .bool false] := by rw [ha]; rfl
  refine ⟨_, hf, ?_⟩
  simp only [↓reduceIte, RD_nil, RD_cons, RD_consg, W_dreg, obl_nil, Nat.reduceAdd, Nat.add_zero, Nat.zero_add, Nat.mul_one, Int.toNat_natCast, W_skip, W_reg, W_seq, W_cond, W_block, W_exit, W_ret, getD_nil', RW_nil, RW_cons, RW_consg, AOp.map, AX_fr, AX_tm, AX_c, AX_fn, AX_g, D_no, D_no', D_tm, D_tm', D_fr, D_fr', List.getD_cons_zero, List.getD_cons_succ, List.set_cons_zero, List.set_cons_succ, List.map_cons, List.map_nil, Option.map_some, Option.map_none, wantA, beq_self_eq_true, if_true, Bool.false_eq_true, if_false, Bool.not_true, Bool.not_false, s_mov, s_pick, s_new, s_box, s_build, s_bslice, s_load1, s_loadn, s_nilck, s_bin, s_eqv, s_not, s_neg, s_i2i, s_s2s, s_s2b, s_iface, s_mkfn, s_faddr, s_fld1, s_iaddr, s_idxs, s_assert, s_extract, s_len, s_lens, s_lenc, s_callf, resO0, resO1, resO2, resO3, List.getElem?_cons_zero, List.getElem?_cons_succ, Nat.reduceEqDiff, true_and, and_true, false_and, e_sn, e_ss, e_pn, e_ps, e_bb, fill0, fill1, b_add, b_sub, b_mul, b_eql, b_neq, b_lss, b_leq, b_gtr, b_geq, b_and, b_or, b_xor, b_seql, b_sneq, b_slss, AQ.andThen, AQ.inBlock, Option.some.injEq, exists_eq_left', exists_eq_left, reduceCtorEq, Exit.exit.injEq, Value.cells]
  refine ⟨by rw [ha]; rfl, H1.n, ?_⟩
  have hK := (Keeps.refl H1).alloc (.cells true false 2 [v, .bool false] 171)
  have hg := AHeap.get_alloc_new H1 (.cells true false 2 [v, .bool false] 171)
  rcases p1 with ⟨rfl, h2, h3⟩ | ⟨b, room, rfl, h1, h2⟩
  · have hl0 : l = [] := List.length_eq_zero_iff.1 h2
    subst hl0
    exact ⟨H1.n, rfl, ⟨_, hg, .inl ⟨rfl, rfl, rfl⟩⟩, p2.n, p2.n, p2.trans hK⟩
  · have hb := AHeap.get_lt h2
    exact ⟨b, rfl, ⟨_, hg, .inr ⟨0, _, room, rfl, hK.at_ h2, by omega, by rw [List.drop_zero], by omega⟩⟩, p2.n, p3 b rfl, p2.trans hK⟩
def TK (H H' : AHeap) (r bv : Nat) (l : List UInt8) (n : Nat) (v : Value) : Prop :=
  Chg [r] H H' ∧ ((v = .slice none 0 0 ∧ l = [] ∧ n = 0 ∧ bv = r ∧ H'.get r = some (.cells true false 2 [.slice none 0 0, .bool false] 171)) ∨
    ∃ o c rm, v = slc bv o n n ∧ H'.get r = some (.cells true false 2 [slc bv (o + n) (l.length - n) (l.length - n), .bool false] 171) ∧ H'.get bv = some (.cells true rm 1 c 5) ∧ bv ≠ r ∧ c.drop o = cellsOf l ∧ o + n ≤ c.length)
theorem TK.rs {H H' : AHeap} {r bv : Nat} {l : List UInt8} {n : Nat} {v : Value} (h : TK H H' r bv l n v) : RS H' r bv (l.drop n) false := by
  obtain ⟨_, ⟨rfl, rfl, rfl, rfl, h1⟩ | ⟨o, c, rm, rfl, h1, h2, h3, h4, h5⟩⟩ := h
  · exact ⟨_, h1, .inl ⟨rfl, rfl, rfl⟩⟩
  · refine ⟨_, h1, .inr ⟨o + n, c, rm, by rw [List.length_drop], h2, h3, ?_, h5⟩⟩
    rw [← List.drop_drop, h4]
    simp [cellsOf, List.map_drop]
theorem TK.bs {H H' : AHeap} {r bv : Nat} {l : List UInt8} {n : Nat} {v : Value} (h : TK H H' r bv l n v) (hn : n ≤ l.length) : BS H' v (l.take n) := by
  obtain ⟨_, ⟨rfl, rfl, rfl, rfl, h1⟩ | ⟨o, c, rm, rfl, h1, h2, h3, h4, h5⟩⟩ := h
  · exact BS.nil H'
  · refine ⟨⟨some ⟨bv, o, none⟩, n, by rw [List.length_take, Nat.min_eq_left hn]; rfl⟩, ?_⟩
    simp only [elemsA, slc, h2, Nat.mul_one]
    rw [if_pos h5, h4]
    simp [cellsOf, List.map_take]
theorem t103 {H : AHeap} {r bv : Nat} {l : List UInt8} {bad : Bool} (h : RS H r bv l bad) (n : Int) (hl : l.length ≤ 1000000000) :
    ∃ v H', ARun Go.Proofs.Try.prog 0 103 [ptr r 0, .int .i64 n] H v H' ∧ if bad = true ∨ n < 0 ∨ (l.length : Int) < n then v = .slice none 0 0 ∧ RS H' r r [] true ∧ Chg [r] H H' else TK H H' r bv l n.toNat v := by
  refine walk2 f103_ok f103_n ?_
  intro Q hq1 hq2
  obtain ⟨v, h1, h2⟩ := h
  obtain ⟨a, k, hsh⟩ := h2.bs.sh
  have hrn := AHeap.get_lt h1
  have e1 : ∀ x : Value, (H.set r (.cells true false 2 [x, .bool bad] 171)).get r = some (.cells true false 2 [x, .bool bad] 171) := fun x => AHeap.get_set_same h1 _
  have fail : RS ((H.set r (.cells true false 2 [.slice none 0 0, .bool bad] 171)).set r (.cells true false 2 [.slice none 0 0, .bool true] 171)) r r [] true ∧ Chg [r] H ((H.set r (.cells true false 2 [.slice none 0 0, .bool bad] 171)).set r (.cells true false 2 [.slice none 0 0, .bool true] 171)) :=
    ⟨⟨_, AHeap.get_set_same (e1 _) _, .inl ⟨rfl, rfl, rfl⟩⟩, (Chg.set H hrn _).trans (Chg.set (H.set r _) hrn _) (fun x hx => .inl hx)⟩
  by_cases hbad : bad = true
  · subst hbad
    simp only [f103, W_block, ANs, AOp.map, ↓reduceIte, Nat.reduceAdd, Nat.reduceEqDiff, reduceCtorEq, initFr, Nat.reduceLT, ANc, cellA_of h1, a_st h1, a_st (e1 _)]
    refine hq2 _ _ ⟨_, rfl, ?_⟩
    rw [if_pos (.inl rfl)]
    exact ⟨rfl, fail⟩
  · have hb0 : bad = false := by simpa using hbad
    subst hb0
    by_cases hn : n < 0
    · simp only [f103, W_block, ANs, AOp.map, ↓reduceIte, Nat.reduceAdd, Nat.reduceEqDiff, reduceCtorEq, initFr, Nat.reduceLT, ANc, cellA_of h1, hn, decide_true, a_st h1, a_st (e1 _)]
      refine hq2 _ _ ⟨_, rfl, ?_⟩
      rw [if_pos (.inr (.inl hn))]
      exact ⟨rfl, fail⟩
    · by_cases hn2 : (l.length : Int) < n
      · subst hsh
        simp only [f103, W_block, ANs, AOp.map, ↓reduceIte, Nat.reduceAdd, Nat.reduceEqDiff, reduceCtorEq, initFr, Nat.reduceLT, ANc, cellA_of h1, hn, decide_true, decide_false, hn2, a_st h1, a_st (e1 _)]
        refine hq2 _ _ ⟨_, rfl, ?_⟩
        rw [if_pos (.inr (.inr hn2))]
        exact ⟨rfl, fail⟩
      · obtain ⟨m, rfl⟩ : ∃ m : Nat, n = m := ⟨n.toNat, by omega⟩
        have hm : m ≤ l.length := by omega
        rcases h2 with ⟨rfl, rfl, rfl⟩ | ⟨o, c, rm, rfl, g1, g2, g3, g4⟩
        · have hm0 : m = 0 := by simpa using hm
          have z1 : ∀ k : IntKind, bndA (some (.int k (m : Int))) 0 0 = some 0 := fun k => by rw [hm0]; exact bnd_some k 0 0 0 (Nat.le_refl _)
          have hn3 : ¬ (((0 : Nat) : Int) < (m : Int)) := by omega
          simp only [f103, W_block, ANs, AOp.map, ↓reduceIte, Nat.reduceAdd, Nat.reduceEqDiff, reduceCtorEq, initFr, Nat.reduceLT, ANc, cellA_of h1, hn, decide_true, decide_false, hn3, a_slsl_nil ⟨0, 0, 0, z1 .i64, z1 .i64, bnd_none 0 0⟩, a_slsl_nil ⟨0, 0, 0, bnd_none 0 0, bnd_none 0 0, z1 .i64⟩, a_st h1]
          refine hq2 _ _ ⟨_, rfl, ?_⟩
          rw [if_neg (by simp; omega)]
          exact ⟨Chg.set H hrn _, .inl ⟨rfl, rfl, hm0, rfl, AHeap.get_set_same h1 _⟩⟩
        · simp only [f103, W_block, ANs, AOp.map, ↓reduceIte, Nat.reduceAdd, Nat.reduceEqDiff, reduceCtorEq, initFr, Nat.reduceLT, ANc, cellA_of h1, hn, decide_true, decide_false, hn2, a_slsl g1 (bnd_some .i64 m l.length l.length hm) (bnd_some .i64 m l.length m (Nat.le_refl _)) (bnd_none 0 m),
            a_slsl g1 (bnd_none l.length l.length) (bnd_none l.length l.length) (bnd_some .i64 m 0 l.length hm), a_st h1, Nat.sub_zero, Nat.zero_mul]
          refine hq2 _ _ ⟨_, rfl, ?_⟩
          rw [if_neg (by simp; omega)]
          exact ⟨Chg.set H hrn _, .inr ⟨o, c, rm, rfl, AHeap.get_set_same h1 _, by rw [AHeap.get_set_other H g2 hrn]; exact g1, g2, g3, by
            have hl := congrArg List.length g3
            rw [List.length_drop, cellsOf_length] at hl
            simp only [Int.toNat_natCast]; omega⟩⟩
def failB (l : List UInt8) (bad : Bool) (n : Int) : Prop := bad = true ∨ n < 0 ∨ (l.length : Int) < n
instance (l : List UInt8) (bad : Bool) (n : Int) : Decidable (failB l bad n) := by unfold failB; infer_instance
def gotL (l : List UInt8) (bad : Bool) (n : Int) : List UInt8 := if failB l bad n then [] else l.take n.toNat
def restL (l : List UInt8) (bad : Bool) (n : Int) : List UInt8 := if failB l bad n then [] else l.drop n.toNat
def badB (l : List UInt8) (bad : Bool) (n : Int) : Bool := decide (failB l bad n)
def Aft (H H' : AHeap) (r bv : Nat) (l : List UInt8) (bad : Bool) (n : Int) : Prop := ∃ bv', RS H' r bv' (restL l bad n) (badB l bad n) ∧ (bv' = bv ∨ bv' = r)
theorem t103' {H : AHeap} {r bv : Nat} {l : List UInt8} {bad : Bool} (h : RS H r bv l bad) (n : Int) (hl : l.length ≤ 1000000000) :
    ∃ v H', ARun Go.Proofs.Try.prog 0 103 [ptr r 0, .int .i64 n] H v H' ∧ BS H' v (gotL l bad n) ∧ Aft H H' r bv l bad n ∧ Chg [r] H H' ∧ ((v = .slice none 0 0 ∧ gotL l bad n = []) ∨ (¬ failB l bad n ∧ TK H H' r bv l n.toNat v)) := by
  obtain ⟨v, H', q, p⟩ := t103 h n hl
  refine ⟨v, H', q, ?_⟩
  by_cases hf : failB l bad n
  · rw [if_pos (show bad = true ∨ n < 0 ∨ (l.length : Int) < n from hf)] at p
    obtain ⟨rfl, p1, p2⟩ := p
    have hb : badB l bad n = true := by simp [badB, hf]
    refine ⟨by simp only [gotL, hf, if_true]; exact BS.nil H', ⟨r, by rw [hb]; simp only [restL, hf, if_true]; exact p1, .inr rfl⟩, p2, .inl ⟨rfl, by simp [gotL, hf]⟩⟩
  · rw [if_neg (show ¬ (bad = true ∨ n < 0 ∨ (l.length : Int) < n) from hf)] at p
    have hb : badB l bad n = false := by simp [badB, hf]
    have hn : n.toNat ≤ l.length := by unfold failB at hf; omega
    refine ⟨by simp only [gotL, hf, if_false]; exact p.bs hn, ⟨bv, by rw [hb]; simp only [restL, hf, if_false]; exact p.rs, .inl rfl⟩, p.1, .inr ⟨hf, p⟩⟩
def tyR (k : Nat) : Nat := if k = 0 then 5 else if k = 1 then 111 else if k = 2 then 25 else 24
def kdR (k : Nat) : IntKind := if k = 0 then .u8 else if k = 1 then .u16 else if k = 2 then .u32 else .u64
theorem fold_le : ∀ (l : List UInt8) (a : Nat), l.foldl (fun n b => (n * 256 + b.toNat) % 18446744073709551616) a + 1 ≤ a * 256 ^ l.length + 256 ^ l.length
  | [], a => by simp
  | b :: l, a => by
    have h := fold_le l ((a * 256 + b.toNat) % 18446744073709551616)
    have hb := b.toNat_lt
    have h1 : (a * 256 + b.toNat) % 18446744073709551616 ≤ a * 256 + 255 := Nat.le_trans (Nat.mod_le _ _) (by omega)
    have h2 : ((a * 256 + b.toNat) % 18446744073709551616) * 256 ^ l.length ≤ (a * 256 + 255) * 256 ^ l.length := Nat.mul_le_mul_right _ h1
    simp only [List.foldl_cons, List.length_cons, Nat.pow_succ]
    have h3 : (a * 256 + 255) * 256 ^ l.length + 256 ^ l.length = a * (256 ^ l.length * 256) + 256 ^ l.length * 256 := by
      rw [Nat.add_mul, Nat.mul_assoc, Nat.mul_comm 256 (256 ^ l.length)]; omega
    omega
theorem num_lt' (l : List UInt8) : num l < 256 ^ l.length := by
  have := fold_le l 0
  unfold num
  omega
theorem t110 {H : AHeap} {x : Value} {l : List UInt8} (hx : BS H x l) (k : Nat) (hk : k < 4) (hl : l.length ≤ 2 ^ k) : ∃ v H', ARun Go.Proofs.Try.prog 0 110 [x, .int .i64 ((2 ^ k : Nat) : Int)] H v H' ∧ v = .iface (tyR k) (.int (kdR k) (num l)) ∧ H' = H := by
  refine walk2 f110_ok f110_n ?_
  intro Q hq1 hq2
  obtain ⟨a, kk, hsh⟩ := hx.sh
  have hp8 : 2 ^ k ≤ 8 := by
    have c0 : k = 0 ∨ k = 1 ∨ k = 2 ∨ k = 3 := by omega
    rcases c0 with rfl | rfl | rfl | rfl <;> decide
  rw [hsh]
  simp only [f110, W_block, ANs, AOp.map, ↓reduceIte, Nat.reduceAdd, Nat.reduceEqDiff, reduceCtorEq, initFr, Nat.reduceLT, ANc]
  refine W_loop2 (fun q fr H1 => ∃ (i : Nat) (z y : Value), fr = [.slice a l.length kk, .int .i64 ((2 ^ k : Nat) : Int), .nilIface, .int .u64 (num (l.take i)), y, .slice a l.length kk, .int .i64 l.length, .int .i64 i, z, undef, undef, undef, undef] ∧ i ≤ l.length ∧ q = l.length - i ∧ H1 = H) l.length ?_ ?_
  · exact ⟨0, undef, undef, by simp [num], by omega, by omega, rfl⟩
  · rintro Q' q fr H1 ⟨i, z, y, rfl, h1, rfl, rfl⟩ hnext hexit hret
    by_cases hi : i < l.length
    · obtain ⟨b, o, kc, hs, hc⟩ := hx.split (fun e => by subst e; simp at hi)
      rw [hsh] at hs
      have e1 : ((l[i].toNat : Int) % 18446744073709551616) = (l[i].toNat : Int) := by have := l[i].toNat_lt; omega
      rw [hs]
      simp only [W_block, ANs, AOp.map, ↓reduceIte, Nat.reduceAdd, Nat.reduceEqDiff, reduceCtorEq, initFr, Nat.reduceLT, ANc, show (i : Int) < (l.length : Int) by omega, decide_true, show (0 : Int) ≤ (i : Int) by omega, hc i hi, b_shl _ _ _ _ (show (0 : Int) ≤ 8 by omega), wrap_u64 ((l[i].toNat : Int)), show Int.toNat 8 = 8 from rfl, e1, or_byte, ← num_append, wrap_succ (n := i) (by omega)]
      refine hnext _ _ _ ⟨i + 1, _, _, by rw [List.take_succ_eq_append_getElem hi, hs], by omega, rfl, rfl⟩ (by omega)
    · simp only [W_block, ANs, AOp.map, ↓reduceIte, Nat.reduceAdd, Nat.reduceEqDiff, reduceCtorEq, initFr, Nat.reduceLT, ANc, show ¬ (i : Int) < (l.length : Int) by omega, decide_false]
      refine hexit _ _ _ ?_
      have hnum := num_lt' l
      rw [List.take_of_length_le (by omega)]
      have hpw : 256 ^ l.length ≤ 256 ^ (2 ^ k) := Nat.pow_le_pow_right (by omega) hl
      have c0 : k = 0 ∨ k = 1 ∨ k = 2 ∨ k = 3 := by omega
      rcases c0 with rfl | rfl | rfl | rfl
      · simp only [W_block, ANs, AOp.map, ↓reduceIte, Nat.reduceAdd, Nat.reduceEqDiff, reduceCtorEq, initFr, Nat.reduceLT, ANc, show ((((2 ^ 0 : Nat) : Int)) == 1) = true by decide]
        refine hq2 _ _ ⟨_, rfl, ?_, rfl⟩
        rw [wrap_u8, Int.emod_eq_of_lt (by omega) (by omega)]
        rfl
      · simp only [W_block, ANs, AOp.map, ↓reduceIte, Nat.reduceAdd, Nat.reduceEqDiff, reduceCtorEq, initFr, Nat.reduceLT, ANc, show ((((2 ^ 1 : Nat) : Int)) == 1) = false by decide, show ((((2 ^ 1 : Nat) : Int)) == 2) = true by decide]
        refine hq2 _ _ ⟨_, rfl, ?_, rfl⟩
        rw [wrap_u16, Int.emod_eq_of_lt (by omega) (by omega)]
        rfl
      · simp only [W_block, ANs, AOp.map, ↓reduceIte, Nat.reduceAdd, Nat.reduceEqDiff, reduceCtorEq, initFr, Nat.reduceLT, ANc, show ((((2 ^ 2 : Nat) : Int)) == 1) = false by decide, show ((((2 ^ 2 : Nat) : Int)) == 2) = false by decide, show ((((2 ^ 2 : Nat) : Int)) == 4) = true by decide]
        refine hq2 _ _ ⟨_, rfl, ?_, rfl⟩
        rw [wrap_u32, Int.emod_eq_of_lt (by omega) (by omega)]
        rfl
      · simp only [W_block, ANs, AOp.map, ↓reduceIte, Nat.reduceAdd, Nat.reduceEqDiff, reduceCtorEq, initFr, Nat.reduceLT, ANc, show ((((2 ^ 3 : Nat) : Int)) == 1) = false by decide, show ((((2 ^ 3 : Nat) : Int)) == 2) = false by decide, show ((((2 ^ 3 : Nat) : Int)) == 4) = false by decide]
        exact hq2 _ _ ⟨_, rfl, rfl, rfl⟩
theorem got_le (l : List UInt8) (bad : Bool) (n : Int) : ((gotL l bad n).length : Int) ≤ max n 0 := by
  unfold gotL
  split
  · simp; omega
  · rw [List.length_take]; omega
theorem t98 {H : AHeap} {r bv : Nat} {l : List UInt8} {bad : Bool} (h : RS H r bv l bad) (k : Nat) (hk : k < 4) (hl : l.length ≤ 1000000000) :
    ∃ v H', ARun Go.Proofs.Try.prog 0 98 [ptr r 0, .int .i64 ((2 ^ k : Nat) : Int)] H v H' ∧ v = .iface (tyR k) (.int (kdR k) (num (gotL l bad ((2 ^ k : Nat) : Int)))) ∧ Aft H H' r bv l bad ((2 ^ k : Nat) : Int) ∧ Chg [r] H H' := by
  refine walk2 f98_ok f98_n ?_
  intro Q hq1 hq2
  obtain ⟨v, H1, r1, p1, p2, p3, _⟩ := t103' h ((2 ^ k : Nat) : Int) hl
  simp only [f98, W_block, ANs, AOp.map, ↓reduceIte, Nat.reduceAdd, Nat.reduceEqDiff, reduceCtorEq, initFr, Nat.reduceLT, ANc]
  refine ⟨_, _, r1, ?_⟩
  simp only [W_block, ANs, AOp.map, ↓reduceIte, Nat.reduceAdd, Nat.reduceEqDiff, reduceCtorEq, initFr, Nat.reduceLT, ANc]
  have hle := got_le l bad ((2 ^ k : Nat) : Int)
  rw [Int.max_eq_left (Int.natCast_nonneg _)] at hle
  obtain ⟨v2, H2, r2, rfl, rfl⟩ := t110 p1 k hk (Int.ofNat_le.1 hle)
  refine ⟨_, _, r2, ?_⟩
  simp only [W_block, ANs, AOp.map, ↓reduceIte, Nat.reduceAdd, Nat.reduceEqDiff, reduceCtorEq, initFr, Nat.reduceLT, ANc]
  exact hq2 _ _ ⟨_, rfl, rfl, p2, p3⟩
theorem t63 {H : AHeap} {r bv : Nat} {l : List UInt8} {bad : Bool} (h : RS H r bv l bad) (hl : l.length ≤ 1000000000) :
    ∃ v H', ARun Go.Proofs.Try.prog 0 63 [ptr r 0] H v H' ∧ v = .int .u8 (num (gotL l bad 1)) ∧ Aft H H' r bv l bad 1 ∧ Chg [r] H H' := by
  refine walk2 f63_ok f63_n ?_
  intro Q hq1 hq2
  obtain ⟨v, H1, r1, rfl, p2, p3⟩ := t98 h 0 (by omega) hl
  simp only [f63, W_block, ANs, AOp.map, ↓reduceIte, Nat.reduceAdd, Nat.reduceEqDiff, reduceCtorEq, initFr, Nat.reduceLT, ANc]
  refine ⟨_, _, r1, ?_⟩
  simp only [W_block, ANs, AOp.map, ↓reduceIte, Nat.reduceAdd, Nat.reduceEqDiff, reduceCtorEq, initFr, Nat.reduceLT, ANc, tyR, kdR]
  exact hq2 _ _ ⟨_, rfl, rfl, p2, p3⟩
theorem t75 {H : AHeap} {r bv : Nat} {l : List UInt8} {bad : Bool} (h : RS H r bv l bad) (hl : l.length ≤ 1000000000) :
    ∃ v H', ARun Go.Proofs.Try.prog 0 75 [ptr r 0] H v H' ∧ v = .int .u16 (num (gotL l bad 2)) ∧ Aft H H' r bv l bad 2 ∧ Chg [r] H H' := by
  refine walk2 f75_ok f75_n ?_
  intro Q hq1 hq2
  obtain ⟨v, H1, r1, rfl, p2, p3⟩ := t98 h 1 (by omega) hl
  simp only [f75, W_block, ANs, AOp.map, ↓reduceIte, Nat.reduceAdd, Nat.reduceEqDiff, reduceCtorEq, initFr, Nat.reduceLT, ANc]
  refine ⟨_, _, r1, ?_⟩
  simp only [W_block, ANs, AOp.map, ↓reduceIte, Nat.reduceAdd, Nat.reduceEqDiff, reduceCtorEq, initFr, Nat.reduceLT, ANc, tyR, kdR]
  exact hq2 _ _ ⟨_, rfl, rfl, p2, p3⟩
theorem t65 {H : AHeap} {r bv : Nat} {l : List UInt8} {bad : Bool} (h : RS H r bv l bad) (hl : l.length ≤ 1000000000) :
    ∃ v H', ARun Go.Proofs.Try.prog 0 65 [ptr r 0] H v H' ∧ v = .int .u32 (num (gotL l bad 4)) ∧ Aft H H' r bv l bad 4 ∧ Chg [r] H H' := by
  refine walk2 f65_ok f65_n ?_
  intro Q hq1 hq2
  obtain ⟨v, H1, r1, rfl, p2, p3⟩ := t98 h 2 (by omega) hl
  simp only [f65, W_block, ANs, AOp.map, ↓reduceIte, Nat.reduceAdd, Nat.reduceEqDiff, reduceCtorEq, initFr, Nat.reduceLT, ANc]
  refine ⟨_, _, r1, ?_⟩
  simp only [W_block, ANs, AOp.map, ↓reduceIte, Nat.reduceAdd, Nat.reduceEqDiff, reduceCtorEq, initFr, Nat.reduceLT, ANc, tyR, kdR]
  exact hq2 _ _ ⟨_, rfl, rfl, p2, p3⟩
theorem t64 {H : AHeap} {r bv : Nat} {l : List UInt8} {bad : Bool} (h : RS H r bv l bad) (hl : l.length ≤ 1000000000) :
    ∃ v H', ARun Go.Proofs.Try.prog 0 64 [ptr r 0] H v H' ∧ v = .int .u64 (num (gotL l bad 8)) ∧ Aft H H' r bv l bad 8 ∧ Chg [r] H H' := by
  refine walk2 f64_ok f64_n ?_
  intro Q hq1 hq2
  obtain ⟨v, H1, r1, rfl, p2, p3⟩ := t98 h 3 (by omega) hl
  simp only [f64, W_block, ANs, AOp.map, ↓reduceIte, Nat.reduceAdd, Nat.reduceEqDiff, reduceCtorEq, initFr, Nat.reduceLT, ANc]
  refine ⟨_, _, r1, ?_⟩
  simp only [W_block, ANs, AOp.map, ↓reduceIte, Nat.reduceAdd, Nat.reduceEqDiff, reduceCtorEq, initFr, Nat.reduceLT, ANc, tyR, kdR]
  exact hq2 _ _ ⟨_, rfl, rfl, p2, p3⟩
theorem t74 {H : AHeap} {r bv : Nat} {l : List UInt8} {bad : Bool} (h : RS H r bv l bad) (n : Int) (hl : l.length ≤ 1000000000) :
    ∃ v H', ARun Go.Proofs.Try.prog 0 74 [ptr r 0, .int .i64 n] H v H' ∧ BS H' v (gotL l bad n) ∧ Aft H H' r bv l bad n ∧ Chg [r] H H' ∧ ((v = .slice none 0 0 ∧ gotL l bad n = []) ∨ (¬ failB l bad n ∧ TK H H' r bv l n.toNat v)) := by
  refine walk2 f74_ok f74_n ?_
  intro Q hq1 hq2
  obtain ⟨v, H1, r1, p⟩ := t103' h n hl
  simp only [f74, W_block, ANs, AOp.map, ↓reduceIte, Nat.reduceAdd, Nat.reduceEqDiff, reduceCtorEq, initFr, Nat.reduceLT, ANc]
  refine ⟨_, _, r1, ?_⟩
  simp only [W_block, ANs, AOp.map, ↓reduceIte, Nat.reduceAdd, Nat.reduceEqDiff, reduceCtorEq, initFr, Nat.reduceLT, ANc]
  exact hq2 _ _ ⟨_, rfl, p⟩
theorem t99 {H : AHeap} {r bv : Nat} {l : List UInt8} {bad : Bool} (h : RS H r bv l bad) : ∃ v H', ARun Go.Proofs.Try.prog 0 99 [ptr r 0] H v H' ∧ v = .bool bad ∧ H' = H := by
  refine walk2 f99_ok f99_n ?_
  intro Q hq1 hq2
  obtain ⟨v, h1, h2⟩ := h
  simp only [f99, W_block, ANs, AOp.map, ↓reduceIte, Nat.reduceAdd, Nat.reduceEqDiff, reduceCtorEq, initFr, Nat.reduceLT, ANc, cellA_of h1]
  exact hq2 _ _ ⟨_, rfl, rfl, rfl⟩
theorem t100 {H : AHeap} {r bv : Nat} {l : List UInt8} {bad : Bool} (h : RS H r bv l bad) : ∃ v H', ARun Go.Proofs.Try.prog 0 100 [ptr r 0] H v H' ∧ v = .int .i64 l.length ∧ H' = H := by
  refine walk2 f100_ok f100_n ?_
  intro Q hq1 hq2
  obtain ⟨v, h1, h2⟩ := h
  obtain ⟨a, k, rfl⟩ := h2.bs.sh
  simp only [f100, W_block, ANs, AOp.map, ↓reduceIte, Nat.reduceAdd, Nat.reduceEqDiff, reduceCtorEq, initFr, Nat.reduceLT, ANc, cellA_of h1]
  exact hq2 _ _ ⟨_, rfl, rfl, rfl⟩
end Go.AM.Fd
