/- The abstract machine, part W: for walks: what each step comes to, as equations. -/
import Derived.Test.YtlmikadohcdclaaAmJ
set_option linter.unusedSimpArgs false
set_option linter.unusedVariables false
namespace Go.AM

section
variable {P : Program} {ng : Nat} {H : AHeap} {K : Value → AHeap → Prop} {KF : List Value → AHeap → Prop} {fr tm : List Value}

theorem RW_nil : RW P ng [] fr tm H KF = KF fr H := _root_.id rfl
theorem RW_cons (op : AOp AX) (d : D) (r : List AOper) : RW P ng (⟨op, d, none⟩ :: r) fr tm H KF = stepA P ng (op.map (AX.ev fr tm)) H fun v H' => RW P ng r (d.frame v fr) (d.temps v tm) H' KF := by
  simp only [RW, wantA, if_true]
theorem RW_consg (op : AOp AX) (d : D) (x : AX) (b : Bool) (r : List AOper) : RW P ng (⟨op, d, some (x, b)⟩ :: r) fr tm H KF =
    if wantA (some (x, b)) fr tm then stepA P ng (op.map (AX.ev fr tm)) H fun v H' => RW P ng r (d.frame v fr) (d.temps v tm) H' KF else RW P ng r (d.frame undef fr) (d.temps undef tm) H KF := by
  simp only [RW]

theorem D_no (v : Value) : D.no.frame v fr = fr := _root_.id rfl
theorem D_no' (v : Value) : D.no.temps v tm = tm := _root_.id rfl
theorem D_tm (v : Value) : D.tm.frame v fr = fr := _root_.id rfl
theorem D_tm' (v : Value) : D.tm.temps v tm = v :: tm := _root_.id rfl
theorem D_fr (i : Nat) (v : Value) : (D.fr i).frame v fr = fr.set i v := _root_.id rfl
theorem D_fr' (i : Nat) (v : Value) : (D.fr i).temps v tm = tm := _root_.id rfl
theorem AX_fr (i : Nat) : (AX.fr i).ev fr tm = fr.getD i undef := _root_.id rfl
theorem AX_tm (i : Nat) : (AX.tm i).ev fr tm = tm.getD i undef := _root_.id rfl
theorem AX_c (v : Value) : (AX.c v).ev fr tm = v := _root_.id rfl
theorem AX_g (n : Nat) : (AX.g n).ev fr tm = ptr n 0 := _root_.id rfl
theorem AX_fn (f : FuncId) : (AX.fn f).ev fr tm = .func (.func f) #[] #[] := _root_.id rfl
theorem want_bool (x : AX) (b t : Bool) (h : x.ev fr tm = .bool t) : wantA (some (x, b)) fr tm = (t == b) := by
  simp only [wantA, h]

theorem stepA_of {op : AOp Value} {v : Value} {H' : AHeap} (h : asem op H = some (v, H')) (hk : K v H') : stepA P ng op H K := by
  cases op <;> simp only [stepA] <;> first
    | exact ⟨v, H', h, hk⟩
    | (simp [asem] at h; done)

theorem stepS {op : AOp Value} {v : Value} {H' : AHeap} (h : asem op H = some (v, H')) : stepA P ng op H K = K v H' := by
  apply propext
  constructor
  · intro hs
    cases op <;> simp only [stepA] at hs <;> first
      | (obtain ⟨v2, H2, h1, h2⟩ := hs; rw [h] at h1; cases h1; exact h2)
      | (simp [asem] at h; done)
  · exact stepA_of h
theorem stepC {op : AOp Value} {p : Prop} [Decidable p] {v : Value} {H' : AHeap} (h : asem op H = if p then some (v, H') else none) (hc : ∀ f xs, op ≠ .callf f xs) (hc' : ∀ f xs, op ≠ .callv f xs) : stepA P ng op H K = (p ∧ K v H') := by
  by_cases hp : p
  · rw [if_pos hp] at h
    rw [stepS h]
    simp [hp]
  · rw [if_neg hp] at h
    simp only [hp, false_and, eq_iff_iff, iff_false]
    intro hs
    cases op <;> simp only [stepA] at hs <;> first
      | (obtain ⟨v2, H2, h1, h2⟩ := hs; rw [h] at h1; cases h1; done)
      | exact hc _ _ rfl
      | exact hc' _ _ rfl

/-! The steps, one for each operation. -/
theorem s_mov (x : Value) : stepA P ng (.mov x) H K = K x H := stepS rfl
theorem s_pick (t : Bool) (a b : Value) : stepA P ng (.pick (.bool t) a b) H K = K (if t then a else b) H := stepS rfl
theorem s_new (e esz : Nat) (z : List Value) : stepA P ng (.new e esz z) H K = (z.all Value.oneCell' = true ∧ K (ptr H.n 0) (H.alloc (.cells true false esz z e))) := stepC rfl (by simp) (by simp)
theorem s_box (e esz : Nat) (x : Value) : stepA P ng (.box e esz x) H K = (x.cells.toList.all Value.oneCell' = true ∧ K (ptr H.n 0) (H.alloc (.cells true false esz x.cells.toList e))) := stepC rfl (by simp) (by simp)
theorem s_build (z : List Value) (ps : List (Nat × Nat × Value)) : stepA P ng (.build z ps) H K = ∃ c, fillA z ps = some c ∧ K (.agg c.toArray) H := by
  simp only [stepA, asem, Option.map_eq_some_iff, Prod.mk.injEq]
  apply propext
  constructor
  · rintro ⟨v, H', ⟨c, h1, rfl, rfl⟩, h2⟩; exact ⟨c, h1, h2⟩
  · rintro ⟨c, h1, h2⟩; exact ⟨_, _, ⟨c, h1, rfl, rfl⟩, h2⟩
theorem s_bslice (e esz n : Nat) (z : List Value) (ps : List (Nat × Nat × Value)) : stepA P ng (.bslice e esz n z ps) H K = ∃ c, fillA z ps = some c ∧ (c.all Value.oneCell' = true ∧ c.length = n * esz) ∧ K (slc H.n 0 n n) (H.alloc (.cells true false esz c e)) := by
  simp only [stepA, asem]
  apply propext
  constructor
  · rintro ⟨v, H', h, hk⟩
    split at h
    · split at h
      · rename_i c hc hh; cases h; exact ⟨c, hc, by simpa using hh, hk⟩
      · cases h
    · cases h
  · rintro ⟨c, h1, h2, h3⟩
    refine ⟨_, _, ?_, h3⟩
    rw [h1]; simp only; rw [if_pos (by simpa using h2)]
theorem s_load1 (b o : Nat) : stepA P ng (.load1 (ptr b o)) H K = ∃ v, cellA H b o = some v ∧ K v H := by
  simp only [stepA, asem, ptr, Option.map_eq_some_iff, Prod.mk.injEq]
  apply propext
  constructor
  · rintro ⟨v, H', ⟨c, h1, rfl, rfl⟩, h2⟩; exact ⟨c, h1, h2⟩
  · rintro ⟨c, h1, h2⟩; exact ⟨_, _, ⟨c, h1, rfl, rfl⟩, h2⟩
theorem s_loadn (n b o : Nat) : stepA P ng (.loadn n (ptr b o)) H K = ∃ c, rangeA H b o n = some c ∧ K (.agg c.toArray) H := by
  simp only [stepA, asem, ptr, Option.map_eq_some_iff, Prod.mk.injEq]
  apply propext
  constructor
  · rintro ⟨v, H', ⟨c, h1, rfl, rfl⟩, h2⟩; exact ⟨c, h1, h2⟩
  · rintro ⟨c, h1, h2⟩; exact ⟨_, _, ⟨c, h1, rfl, rfl⟩, h2⟩
theorem s_store1 {b o : Nat} {x : Value} {room : Bool} {esz e : Nat} {c : List Value} (h : H.get b = some (.cells true room esz c e)) : stepA P ng (.store1 (ptr b o) x) H K = ((o < c.length ∧ x.oneCell' = true) ∧ K undef (H.set b (.cells true room esz (c.set o x) e))) := by
  refine stepC ?_ (by simp) (by simp)
  simp only [asem, ptr, h]
theorem s_storen {b o n : Nat} {x : Value} {room : Bool} {esz e : Nat} {c : List Value} (h : H.get b = some (.cells true room esz c e)) :
    stepA P ng (.storen n (ptr b o) x) H K = ((o + n ≤ c.length ∧ x.cells.toList.length = n ∧ x.cells.toList.all Value.oneCell' = true) ∧ K undef (H.set b (.cells true room esz (c.take o ++ x.cells.toList ++ c.drop (o + n)) e))) := by
  refine stepC ?_ (by simp) (by simp)
  simp only [asem, ptr, h]
theorem s_nilck (b o : Nat) : stepA P ng (.nilck (ptr b o)) H K = K (ptr b o) H := stepS rfl
theorem s_bin (op : BinOp) (x y : Value) : stepA P ng (.bin op x y) H K = ∃ v, binA op x y = some v ∧ K v H := by
  simp only [stepA, asem, Option.map_eq_some_iff, Prod.mk.injEq]
  apply propext
  constructor
  · rintro ⟨v, H', ⟨c, h1, rfl, rfl⟩, h2⟩; exact ⟨c, h1, h2⟩
  · rintro ⟨c, h1, h2⟩; exact ⟨_, _, ⟨c, h1, rfl, rfl⟩, h2⟩
theorem s_eqv (k : Nat) (neg : Bool) (x y : Value) : stepA P ng (.eqv k neg x y) H K = ∃ b, eqA k x y = some b ∧ K (.bool (if neg then !b else b)) H := by
  simp only [stepA, asem, Option.map_eq_some_iff, Prod.mk.injEq]
  apply propext
  constructor
  · rintro ⟨v, H', ⟨c, h1, rfl, rfl⟩, h2⟩; exact ⟨c, h1, h2⟩
  · rintro ⟨c, h1, h2⟩; exact ⟨_, _, ⟨c, h1, rfl, rfl⟩, h2⟩
theorem s_not (b : Bool) : stepA P ng (.un .not (.bool b)) H K = K (.bool (!b)) H := stepS rfl
theorem s_neg (k : IntKind) (n : Int) : stepA P ng (.un .neg (.int k n)) H K = K (.int k (k.wrap (0 - n))) H := stepS rfl
theorem s_i2i (k k' : IntKind) (n : Int) : stepA P ng (.i2i k (.int k' n)) H K = K (.int k (k.wrap n)) H := stepS rfl
theorem s_s2s (s : ByteArray) : stepA P ng (.s2s (.string s)) H K = K (.string s) H := stepS rfl
theorem s_s2b (e : Nat) (s : ByteArray) : stepA P ng (.s2b e (.string s)) H K = K (slc H.n 0 s.size s.size) (H.alloc (.cells true true 1 (s.data.toList.map fun b => .int .u8 b.toNat) e)) := stepS rfl
theorem s_b2s {x : Value} {c : List Value} {l : List UInt8} (h1 : elemsA H 1 x = some c) (h2 : bytesOf c = some l) : stepA P ng (.b2s x) H K = K (.string ⟨l.toArray⟩) H := stepS (by simp only [asem, h1, h2])
theorem s_iface (t : TypeId) (x : Value) : stepA P ng (.iface t x) H K = K (.iface t x) H := stepS rfl
theorem s_mkfn (fn : Fn) (xs ys : List Value) : stepA P ng (.mkfn fn xs ys) H K = K (.func fn xs.toArray ys.toArray) H := stepS rfl
theorem s_faddr (off b o : Nat) : stepA P ng (.faddr off (ptr b o)) H K = K (ptr b (o + off)) H := stepS rfl
theorem s_fld1 (off : Nat) (cs : Array Value) : stepA P ng (.fld1 off (.agg cs)) H K = ∃ v, cs.toList[off]? = some v ∧ K v H := by
  simp only [stepA, asem, Option.map_eq_some_iff, Prod.mk.injEq]
  apply propext
  constructor
  · rintro ⟨v, H', ⟨c, h1, rfl, rfl⟩, h2⟩; exact ⟨c, h1, h2⟩
  · rintro ⟨c, h1, h2⟩; exact ⟨_, _, ⟨c, h1, rfl, rfl⟩, h2⟩
theorem s_iaddr (esz b o n k : Nat) (kd : IntKind) (i : Int) : stepA P ng (.iaddr esz (slc b o n k) (.int kd i)) H K = ((0 ≤ i ∧ i < (n : Int)) ∧ K (ptr b (o + i.toNat * esz)) H) := by
  exact stepC rfl (by simp) (by simp)
theorem s_idxs (s : ByteArray) (kd : IntKind) (i : Int) : stepA P ng (.idxs (.string s) (.int kd i)) H K = ((0 ≤ i ∧ i < (s.size : Int)) ∧ ∃ b, s.data.toList[i.toNat]? = some b ∧ K (.int .u8 b.toNat) H) := by
  simp only [stepA, asem]
  split
  · rename_i h
    simp only [Option.map_eq_some_iff, Prod.mk.injEq]
    apply propext
    constructor
    · rintro ⟨v, H', ⟨c, h1, rfl, rfl⟩, h2⟩; exact ⟨h, c, h1, h2⟩
    · rintro ⟨_, c, h1, h2⟩; exact ⟨_, _, ⟨c, h1, rfl, rfl⟩, h2⟩
  · rename_i h; simp [h]
theorem s_assert (t u : TypeId) (z v : Value) (ok : Bool) : stepA P ng (.assert t z ok (.iface u v)) H K = if u = t then K (if ok then .tuple #[v, .bool true] else v) H else (ok = true ∧ K (.tuple #[z, .bool false]) H) := by
  by_cases h : u = t
  · rw [if_pos h]
    exact stepS (by simp [asem, h])
  · rw [if_neg h]
    exact stepC (by simp [asem, h]) (by simp) (by simp)
theorem s_extract (vs : Array Value) (i : Nat) : stepA P ng (.extract (.tuple vs) i) H K = ∃ v, vs.toList[i]? = some v ∧ K v H := by
  simp only [stepA, asem, Option.map_eq_some_iff, Prod.mk.injEq]
  apply propext
  constructor
  · rintro ⟨v, H', ⟨c, h1, rfl, rfl⟩, h2⟩; exact ⟨c, h1, h2⟩
  · rintro ⟨c, h1, h2⟩; exact ⟨_, _, ⟨c, h1, rfl, rfl⟩, h2⟩
theorem s_len (a : Option Addr) (n k : Nat) : stepA P ng (.len false (.slice a n k)) H K = K (.int .i64 n) H := stepS rfl
theorem s_lens (s : ByteArray) : stepA P ng (.len true (.string s)) H K = K (.int .i64 s.size) H := stepS rfl
theorem s_lenc (b o n k : Nat) : stepA P ng (.len false (slc b o n k)) H K = K (.int .i64 n) H := stepS rfl
theorem s_callf (f : FuncId) (xs : List Value) : stepA P ng (.callf f xs) H K = ∃ v H', ARun P ng f xs H v H' ∧ K v H' := _root_.id rfl
theorem s_app {e esz bytes : Nat} {s x v : Value} {a : Option Addr} {m k : Nat} {news : List Value} {H' : AHeap} (hx : x = .slice a m k) (h1 : elemsA H esz x = some news) (h2 : appA H e esz bytes s m news = some (v, H')) :
    stepA P ng (.app e esz bytes s x) H K = K v H' := by
  subst hx
  exact stepS (by simp only [asem, h1, h2])

/-! ### Heaps -/
theorem alloc_n (o : AO) : (H.alloc o).n = H.n + 1 := _root_.id rfl
theorem set_n (b : Nat) (o : AO) : (H.set b o).n = H.n := _root_.id rfl
theorem alloc_get (o : AO) (b : Nat) : (H.alloc o).get b = if b = H.n then some o else H.get b := by
  split
  · rename_i h; subst h; exact AHeap.get_alloc_new H o
  · rename_i h; exact AHeap.get_alloc_ne H o h
theorem set_get {b b' : Nat} (o : AO) (hb : (H.get b).isSome = true) : (H.set b o).get b' = if b' = b then some o else H.get b' := by
  obtain ⟨x, hx⟩ := Option.isSome_iff_exists.1 hb
  split
  · rename_i h; subst h; exact AHeap.get_set_same hx o
  · rename_i h; exact AHeap.get_set_other H h (AHeap.get_lt hx) o

/-! ### Byte lists -/
def cellsOf (l : List UInt8) : List Value := l.map fun b => .int .u8 b.toNat

theorem bytesOf_cellsOf : ∀ l : List UInt8, bytesOf (cellsOf l) = some l
  | [] => rfl
  | b :: l => by
    have h1 := bytesOf_cellsOf l
    unfold cellsOf at h1 ⊢
    simp only [List.map_cons, bytesOf, h1, Option.map_some, Option.some.injEq, List.cons.injEq, and_true]
    simp

theorem cellsOf_length (l : List UInt8) : (cellsOf l).length = l.length := by simp [cellsOf]
theorem cellsOf_append (l m : List UInt8) : cellsOf (l ++ m) = cellsOf l ++ cellsOf m := by simp [cellsOf]
theorem cellsOf_one (l : List UInt8) : ∀ v ∈ cellsOf l, v.oneCell' = true := by
  intro v hv
  simp only [cellsOf, List.mem_map] at hv
  obtain ⟨b, _, rfl⟩ := hv
  rfl

end
end Go.AM
