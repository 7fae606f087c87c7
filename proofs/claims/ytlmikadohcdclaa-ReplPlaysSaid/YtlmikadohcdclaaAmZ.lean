/- The abstract machine, part Z: the evaluator's operations and code. -/
import Derived.Test.YtlmikadohcdclaaAmV
set_option linter.unusedSimpArgs false
set_option linter.unusedVariables false
namespace Go.AM

/-- Are two values, of those that are not made of others, the same? -/
def valEq : Value → Value → Bool
  | .bool a, .bool b => match a, b with
    | true, true => true
    | false, false => true
    | _, _ => false
  | .int k a, .int k' b => match Nat.beq (kNum k) (kNum k') with
    | true => iEq a b
    | false => false
  | .string a, .string b => decide (a = b)
  | .pointer a, .pointer b => decide (a = b)
  | .slice a n k, .slice b m l => match Nat.beq n m, Nat.beq k l with
    | true, true => decide (a = b)
    | _, _ => false
  | .map a, .map b => decide (a = b)
  | .nilFunc, .nilFunc => true
  | .nilIface, .nilIface => true
  | _, _ => false
theorem valEq_true {a b : Value} (h : valEq a b = true) : a = b := by
  unfold valEq at h
  split at h
  · split at h <;> first | rfl | cases h
  · split at h
    · rename_i e
      have := kNum_inj e
      subst this
      rw [iEq_eq] at h
      rw [eq_of_beq h]
    · cases h
  · rw [of_decide_eq_true h]
  · rw [of_decide_eq_true h]
  · split at h
    · rename_i e1 e2
      rw [of_decide_eq_true h, Nat.eq_of_beq_eq_true e1, Nat.eq_of_beq_eq_true e2]
    · cases h
  · rw [of_decide_eq_true h]
  · rfl
  · rfl
  · cases h
def vals0 : List Value → List Value → Bool
  | [], [] => true
  | a :: l, b :: m => match valEq a b with
    | true => vals0 l m
    | false => false
  | _, _ => false
theorem vals0_true : ∀ {a b : List Value}, vals0 a b = true → a = b
  | [], [], _ => rfl
  | a :: l, b :: m, h => by
    simp only [vals0] at h
    split at h
    · rename_i e; rw [valEq_true e, vals0_true h]
    · cases h
  | [], _ :: _, h => by cases h
  | _ :: _, [], h => by cases h
/-- As valEq, one step deeper. -/
def valEq1 : Value → Value → Bool
  | .iface t a, .iface u b => match Nat.beq t u, a, b with
    | true, .agg xs, .agg ys => vals0 xs.toList ys.toList
    | true, a, b => valEq a b
    | false, _, _ => false
  | .func (.func f) xs ys, .func (.func g) us vs => match Nat.beq f g with
    | true => match vals0 xs.toList us.toList with
      | true => vals0 ys.toList vs.toList
      | false => false
    | false => false
  | a, b => valEq a b
theorem valEq1_true {a b : Value} (h : valEq1 a b = true) : a = b := by
  unfold valEq1 at h
  split at h
  · split at h
    · rename_i e
      rw [Nat.eq_of_beq_eq_true e, Array.toList_inj.1 (vals0_true h)]
    · rename_i e _
      rw [Nat.eq_of_beq_eq_true e, valEq_true h]
    · cases h
  · split at h
    · rename_i e
      split at h
      · rename_i e2
        rw [Nat.eq_of_beq_eq_true e, Array.toList_inj.1 (vals0_true e2), Array.toList_inj.1 (vals0_true h)]
      · cases h
    · cases h
  · exact valEq_true h
def valsEq : List Value → List Value → Bool
  | [], [] => true
  | a :: l, b :: m => match valEq1 a b with
    | true => valsEq l m
    | false => false
  | _, _ => false
theorem valsEq_true : ∀ {a b : List Value}, valsEq a b = true → a = b
  | [], [], _ => rfl
  | a :: l, b :: m, h => by
    simp only [valsEq] at h
    split at h
    · rename_i e; rw [valEq1_true e, valsEq_true h]
    · cases h
  | [], _ :: _, h => by cases h
  | _ :: _, [], h => by cases h
def aoEq : AO → AO → Bool
  | .cells o r z c e, .cells o' r' z' c' e' => match o == o', r == r', Nat.beq z z', Nat.beq e e' with
    | true, true, true, true => valsEq c c'
    | _, _, _, _ => false
  | _, _ => false
theorem aoEq_true {a b : AO} (h : aoEq a b = true) : a = b := by
  unfold aoEq at h
  split at h
  · split at h
    · rename_i e1 e2 e3 e4
      rw [eq_of_beq e1, eq_of_beq e2, Nat.eq_of_beq_eq_true e3, Nat.eq_of_beq_eq_true e4, valsEq_true h]
    · cases h
  · cases h

noncomputable def allocT (o : AO) (n : Nat) (t : HT) (K : Nat → HT → Bool) : Bool := t.setK n o fun t' => forceN (n + 1) fun n' => K n' t'
theorem Rp.allocT {n : Nat} {t : HT} {H : AHeap} (r : Rp n t H) {o : AO} {K : Nat → HT → Bool} (h : AM.allocT o n t K = true) : ∃ n' t', K n' t' = true ∧ Rp n' t' (H.alloc o) := by
  obtain ⟨t', h1, h2⟩ := r.alloc h
  rw [forceN_eq] at h1
  exact ⟨_, t', h1, h2⟩

def allOne : List Value → Bool
  | [] => true
  | v :: l => match v.oneCell' with
    | true => allOne l
    | false => false
theorem allOne_eq : ∀ l : List Value, allOne l = l.all Value.oneCell'
  | [] => rfl
  | v :: l => by simp only [allOne, List.all_cons, allOne_eq l]; cases v.oneCell' <;> rfl

noncomputable def asT (b : Bool) (K : Bool) : Bool := Bool.rec (motive := fun _ => Bool) false K b
theorem asT_true {b K : Bool} (h : asT b K = true) : b = true ∧ K = true := by cases b <;> simp_all [asT]

/-- The cells of a slice, with the values that they hold. -/
noncomputable def elemsT (t : HT) (esz : Nat) (x : Value) (K : List Value → Bool) : Bool := match x with
  | .slice none _ _ => K []
  | .slice (some ⟨b, o, none⟩) n _ => t.getK b fun ao => match ao with
    | .cells _ _ _ c _ => asT (Nat.ble (o + n * esz) c.length) (K ((c.drop o).take (n * esz)))
    | _ => false
  | _ => false
theorem elemsT_true {n : Nat} {t : HT} {H : AHeap} (r : Rp n t H) {esz : Nat} {x : Value} {K : List Value → Bool} (h : elemsT t esz x K = true) : ∃ c, elemsA H esz x = some c ∧ K c = true := by
  unfold elemsT at h
  split at h
  · exact ⟨_, rfl, h⟩
  · obtain ⟨o, h1, h2⟩ := r.getK h
    split at h2
    · obtain ⟨h3, h4⟩ := asT_true h2
      refine ⟨_, ?_, h4⟩
      simp only [elemsA, h1]
      rw [if_pos (Nat.le_of_ble_eq_true h3)]
    · cases h2
  · cases h

/-- Operations that touch no memory, as they are defined. -/
def plainT (op : AOp Value) : Option Value := match op with
  | .mov x => some x
  | .pick c a b => match c with
    | .bool t => some (if t then a else b)
    | _ => none
  | .build z ps => (fillA z ps).map fun c => .agg c.toArray
  | .nilck x => match x with
    | .pointer (some _) => some x
    | .iface _ _ => some x
    | .func (.func _) _ _ => some x
    | _ => none
  | .eqv k neg x y => (eqA k x y).map fun b => .bool (if neg then !b else b)
  | .un op x => match op, x with
    | .not, .bool b => some (.bool (!b))
    | .neg, .int k n => some (.int k (k.wrap (0 - n)))
    | .xor, .int k n => some (.int k (k.wrap (BitVec.ofInt k.bits (if k.signed then -1 else k.max) ^^^ BitVec.ofInt k.bits n).toNat))
    | _, _ => none
  | .s2s x => match x with
    | .string s => some (.string s)
    | _ => none
  | .iface t x => some (.iface t x)
  | .mkfn fn xs ys => some (.func fn xs.toArray ys.toArray)
  | .fldn off n x => match x with
    | .agg cs => if off + n ≤ cs.size then some (.agg ((cs.toList.drop off).take n).toArray) else none
    | _ => none
  | .idxs x i => match x, i with
    | .string s, .int _ i => if 0 ≤ i ∧ i < (s.size : Int) then (s.data.toList[i.toNat]?).map fun b => .int .u8 b.toNat else none
    | _, _ => none
  | .idxa agg esz n x i => match x, i with
    | .agg cs, .int _ i => if 0 ≤ i ∧ i < (n : Int) then
        (if agg then (if i.toNat * esz + esz ≤ cs.size then some (.agg ((cs.toList.drop (i.toNat * esz)).take esz).toArray) else none)
        else cs.toList[i.toNat * esz]?) else none
    | _, _ => none
  | .eqs cs neg x y => match x, y with
    | .agg xs, .agg ys => (eqCs cs xs.toList ys.toList).map fun b => .bool (if neg then !b else b)
    | _, _ => none
  | .mm mx x y => match x, y with
    | .int k a, .int k' b => if k = k' then some (.int k (if mx then (if b > a then b else a) else (if b < a then b else a))) else none
    | _, _ => none
  | .i2str x => match x with
    | .int _ n => some (.string (Utf8.encode n))
    | _ => none
  | .assert t z ok x => match x with
    | .iface u v => if u = t then some (if ok then .tuple #[v, .bool true] else v) else if ok then some (.tuple #[z, .bool false]) else none
    | .nilIface => if ok then some (.tuple #[z, .bool false]) else none
    | _ => none
  | _ => none
theorem plainT_sound {op : AOp Value} {H : AHeap} {v : Value} (h : plainT op = some v) : asem op H = some (v, H) := by
  cases op <;> simp only [plainT] at h <;> simp only [asem] <;> try (cases h; done)
  case mov => cases h; rfl
  case pick => split at h <;> first | (cases h; rfl) | cases h
  case build => simp only [Option.map_eq_some_iff] at h ⊢; obtain ⟨c, h1, h2⟩ := h; exact ⟨c, h1, by rw [h2]⟩
  case nilck => split at h <;> first | (cases h; rfl) | cases h
  case eqv => simp only [Option.map_eq_some_iff] at h ⊢; obtain ⟨c, h1, h2⟩ := h; exact ⟨c, h1, by rw [h2]⟩
  case un => split at h <;> first | (cases h; rfl) | cases h
  case s2s => split at h <;> first | (cases h; rfl) | cases h
  case iface => cases h; rfl
  case mkfn => cases h; rfl
  case fldn =>
    split at h
    · split at h
      · rename_i hh; cases h; dsimp only; rw [if_pos hh]
      · cases h
    · cases h
  case idxs =>
    split at h
    · split at h
      · rename_i hh; dsimp only; rw [if_pos hh]; simp only [Option.map_eq_some_iff] at h ⊢; obtain ⟨c, h1, h2⟩ := h; exact ⟨c, h1, by rw [h2]⟩
      · cases h
    · cases h
  case idxa agg esz n x i =>
    split at h
    · split at h
      · rename_i hh
        dsimp only
        rw [if_pos hh]
        cases agg
        · simp only [Bool.false_eq_true, if_false] at h ⊢; rw [h]; rfl
        · simp only [if_true] at h ⊢
          split at h
          · rename_i hle; cases h; rw [if_pos hle]
          · cases h
      · cases h
    · cases h
  case eqs =>
    split at h
    · simp only [Option.map_eq_some_iff] at h ⊢; obtain ⟨c, h1, h2⟩ := h; exact ⟨c, h1, by rw [h2]⟩
    · cases h
  case mm =>
    split at h
    · split at h
      · rename_i hh; cases h; dsimp only; rw [if_pos hh]
      · cases h
    · cases h
  case i2str => split at h <;> first | (cases h; rfl) | cases h
  case assert =>
    split at h
    · split at h
      · rename_i hh; dsimp only; rw [if_pos hh]; cases h; rfl
      · rename_i hh; dsimp only; rw [if_neg hh]; split at h
        · rename_i h2; rw [if_pos h2]; cases h; rfl
        · cases h
    · split at h
      · rename_i h2; dsimp only; rw [if_pos h2]; cases h; rfl
      · cases h
    · cases h

noncomputable def optK (o : Option Value) (K : Value → Bool) : Bool := match o with
  | some v => K v
  | none => false
theorem optK_true {o : Option Value} {K : Value → Bool} (h : optK o K = true) : ∃ v, o = some v ∧ K v = true := by
  cases o with
  | none => cases h
  | some v => exact ⟨v, rfl, h⟩

noncomputable def bndT (x : Option Value) (dflt top : Nat) (K : Nat → Bool) : Bool := match x with
  | none => K dflt
  | some (.int _ (.ofNat i)) => asT (Nat.ble i top) (forceN i K)
  | _ => false
theorem bndT_true {x : Option Value} {dflt top : Nat} {K : Nat → Bool} (h : bndT x dflt top K = true) : ∃ i, bndA x dflt top = some i ∧ K i = true := by
  unfold bndT at h
  split at h
  · exact ⟨_, rfl, h⟩
  · rename_i k i
    obtain ⟨h1, h2⟩ := asT_true h
    rw [forceN_eq] at h2
    have := Nat.le_of_ble_eq_true h1
    refine ⟨i, ?_, h2⟩
    simp only [bndA]
    rw [if_pos ⟨Int.natCast_nonneg _, by simpa using this⟩]
    rfl
  · cases h

noncomputable def appT (e : TypeId) (esz bytes : Nat) (s : Value) (m : Nat) (news : List Value) (n : Nat) (t : HT) (K : Value → Nat → HT → Bool) : Bool := match s with
  | .slice none a b => asT (Nat.beq a 0) (asT (Nat.beq b 0) (match Nat.beq m 0 with
    | false => asT (Nat.ble (m * bytes) 140737488355328) (asT (Nat.ble m 140737488355328) (allocT (.cells true true esz news e) n t fun n' t' => K (slc n 0 m m) n' t'))
    | true => K (.slice none 0 0) n t))
  | .slice (some ⟨b, o, none⟩) a k => match Nat.beq m 0 with
    | false => asT (Nat.ble ((a + m) * bytes) 140737488355328) (asT (Nat.ble (a + m) 140737488355328) (t.getK b fun ao => match ao with
      | .cells own room esz' c e' => asT (Nat.beq esz' esz) (asT (Nat.beq e' e) (asT (Nat.ble (o + k * esz) c.length) (forceN (a + m) fun am => match Nat.ble am k with
        | true => asT own (t.setK b (.cells true room esz (c.take (o + a * esz) ++ news ++ c.drop (o + a * esz + news.length)) e) fun t' => K (slc b o am k) n t')
        | false => match !room || Nat.ble (o + k * esz + 1) c.length with
        | false => match own with
          | true => t.setK b .dead fun t1 => allocT (.cells true true esz ((c.drop o).take (a * esz) ++ news) e) n t1 fun n' t' => K (slc n 0 am am) n' t'
          | false => false
        | true => allocT (.cells true true esz ((c.drop o).take (a * esz) ++ news) e) n t fun n' t' => K (slc n 0 am am) n' t')))
      | _ => false))
    | true => K s n t
  | _ => false

def KP (K : Value → Nat → HT → Bool) : Value → AHeap → Prop := fun v H => ∃ n t, Rp n t H ∧ K v n t = true

theorem appT_true {e esz bytes : Nat} {s : Value} {m : Nat} {news : List Value} {n : Nat} {t : HT} {H : AHeap} (r : Rp n t H) {K : Value → Nat → HT → Bool} (h : appT e esz bytes s m news n t K = true) :
    ∃ v H', appA H e esz bytes s m news = some (v, H') ∧ KP K v H' := by
  have hn := r.n
  unfold appT at h
  split at h
  · rename_i a b
    obtain ⟨a1, k1⟩ := asT_true h
    obtain ⟨a2, k2⟩ := asT_true k1
    have b1 := Nat.eq_of_beq_eq_true a1
    have b2 := Nat.eq_of_beq_eq_true a2
    subst b1 b2
    split at k2
    · rename_i em
      have hm : m ≠ 0 := fun e => by subst e; cases em
      obtain ⟨a3, k3⟩ := asT_true k2
      obtain ⟨a4, k4⟩ := asT_true k3
      obtain ⟨n', t', h3, h4⟩ := r.allocT k4
      refine ⟨slc H.n 0 m m, _, ?_, n', t', h4, by rw [hn]; exact h3⟩
      simp only [appA, and_self, if_true]
      rw [if_neg hm, if_pos ⟨Nat.le_of_ble_eq_true a3, Nat.le_of_ble_eq_true a4⟩]
    · rename_i em
      have hm : m = 0 := Nat.eq_of_beq_eq_true em
      exact ⟨_, H, by simp only [appA, and_self, if_true, hm], n, t, r, k2⟩
  · rename_i b o a k
    split at h
    · rename_i em
      have hm : m ≠ 0 := fun e => by subst e; cases em
      obtain ⟨a3, k3⟩ := asT_true h
      obtain ⟨a4, k4⟩ := asT_true k3
      obtain ⟨ao, h3, k5⟩ := r.getK k4
      split at k5
      · rename_i own room esz' c e'
        obtain ⟨a5, k6⟩ := asT_true k5
        obtain ⟨a6, k6'⟩ := asT_true k6
        obtain ⟨a7, k7⟩ := asT_true k6'
        have e7 := Nat.le_of_ble_eq_true a7
        have e5 := Nat.eq_of_beq_eq_true a5
        have e6 := Nat.eq_of_beq_eq_true a6
        subst e5 e6
        rw [forceN_eq] at k7
        simp only [appA]
        rw [if_neg hm, if_pos ⟨Nat.le_of_ble_eq_true a3, Nat.le_of_ble_eq_true a4⟩]
        simp only [h3, true_and]
        rw [if_pos e7]
        split at k7
        · rename_i ef
          obtain ⟨ho, k8⟩ := asT_true k7
          subst ho
          rw [if_pos (Nat.le_of_ble_eq_true ef)]
          obtain ⟨t', m1, m2⟩ := r.set (by rw [h3]; rfl) k8
          exact ⟨_, _, rfl, n, t', m2, m1⟩
        rename_i ef
        rw [if_neg (fun hh => by rw [Nat.ble_eq_true_of_le hh] at ef; cases ef)]
        split at k7
        · rename_i ec
          have hc : ¬ (room = false ∨ o + k * esz' < c.length) := by
            rintro (c2 | c2)
            · subst c2; cases ec
            · rw [Nat.ble_eq_true_of_le c2] at ec
              simp at ec
          rw [if_neg hc]
          split at k7
          · obtain ⟨t1, m1, m2⟩ := r.set (o := .dead) (by rw [h3]; rfl) k7
            obtain ⟨n', t', h5, h6⟩ := m2.allocT m1
            exact ⟨_, _, rfl, n', t', h6, by rw [hn]; exact h5⟩
          · cases k7
        · rename_i ec
          have hc : room = false ∨ o + k * esz' < c.length := by
            cases room
            · exact .inl rfl
            · exact .inr (Nat.le_of_ble_eq_true (by simpa using ec))
          rw [if_pos hc]
          obtain ⟨n', t', h5, h6⟩ := r.allocT k7
          exact ⟨_, _, rfl, n', t', h6, by rw [hn]; exact h5⟩
      · cases k5
    · rename_i em
      have hm : m = 0 := Nat.eq_of_beq_eq_true em
      exact ⟨_, H, by simp only [appA, if_true, hm], n, t, r, h⟩
  · cases h

noncomputable def stepT (op : AOp Value) (n : Nat) (t : HT) (K : Value → Nat → HT → Bool) : Bool := match op with
  | .new e esz z => asT (allOne z) (allocT (.cells true false esz z e) n t fun n' t' => K (ptr n 0) n' t')
  | .box e esz x => asT (allOne x.cells.toList) (allocT (.cells true false esz x.cells.toList e) n t fun n' t' => K (ptr n 0) n' t')
  | .bslice e esz m z ps => match fillA z ps with
    | some c => asT (allOne c) (asT (Nat.beq c.length (m * esz)) (allocT (.cells true false esz c e) n t fun n' t' => K (slc n 0 m m) n' t'))
    | none => false
  | .load1 x => match x with
    | .pointer (some ⟨b, o, none⟩) => t.getK b fun ao => match ao with
      | .cells _ _ _ c _ => nthO c o fun v => K v n t
      | _ => false
    | _ => false
  | .loadn m x => match x with
    | .pointer (some ⟨b, o, none⟩) => t.getK b fun ao => match ao with
      | .cells _ _ _ c _ => asT (Nat.ble (o + m) c.length) (K (.agg ((c.drop o).take m).toArray) n t)
      | _ => false
    | _ => false
  | .store1 a x => match a with
    | .pointer (some ⟨b, o, none⟩) => t.getK b fun ao => match ao with
      | .cells true room esz c e => asT (Nat.ble (o + 1) c.length) (asT x.oneCell' (updK x c o fun c' => t.setK b (.cells true room esz c' e) fun t' => K undef n t'))
      | _ => false
    | _ => false
  | .storen m a x => match a with
    | .pointer (some ⟨b, o, none⟩) => t.getK b fun ao => match ao with
      | .cells true room esz c e => asT (Nat.ble (o + m) c.length) (asT (Nat.beq x.cells.toList.length m) (asT (allOne x.cells.toList) (t.setK b (.cells true room esz (c.take o ++ x.cells.toList ++ c.drop (o + m)) e) fun t' => K undef n t')))
      | _ => false
    | _ => false
  | .bin op x y => binT op x y fun v => K v n t
  | .i2i k x => match x with
    | .int _ i => wrapT k i fun r => K (.int k r) n t
    | _ => false
  | .s2b e x => match x with
    | .string s => forceN (bLen s) fun m => allocT (.cells true true 1 (s.data.toList.map fun b => .int .u8 b.toNat) e) n t fun n' t' => K (slc n 0 m m) n' t'
    | _ => false
  | .b2s x => elemsT t 1 x fun c => match bytesOf c with
    | some l => K (.string ⟨l.toArray⟩) n t
    | none => false
  | .mksl e esz bytes z l c => match l, c with
    | .int .i64 (.ofNat l), .int .i64 (.ofNat c) => asT (Nat.ble l c) (asT (Nat.ble (bytes * c) 140737488355328) (asT (Nat.ble c 140737488355328) (asT (Nat.beq z.length esz) (asT (allOne z)
        (forceN l fun l => forceN c fun c => allocT (.cells true false esz (List.replicate c z).flatten e) n t fun n' t' => K (slc n 0 l c) n' t')))))
    | _, _ => false
  | .slstr x lo hi => match x with
    | .string s => bndT hi (bLen s) (bLen s) fun h => bndT lo 0 h fun l => K (.string (bSub s l h)) n t
    | _ => false
  | .slsl esz x lo hi mx => match x with
    | .slice a m k => bndT mx k k fun mm => bndT hi m mm fun h => bndT lo 0 h fun l => match a with
      | none => K (.slice none 0 0) n t
      | some ⟨b, o, none⟩ => t.getK b fun ao => match ao with
        | .cells _ room esz' _ _ => asT (Nat.beq esz' esz || !room) (forceN (o + l * esz) fun o' => forceN (h - l) fun m' => forceN (mm - l) fun k' => K (slc b o' m' k') n t)
        | _ => false
      | _ => false
    | _ => false
  | .faddr off x => match x with
    | .pointer (some ⟨b, o, none⟩) => forceN (o + off) fun o' => K (ptr b o') n t
    | _ => false
  | .fld1 off x => match x with
    | .agg cs => nthO cs.toList off fun v => K v n t
    | _ => false
  | .iaddr esz x i => match x, i with
    | .slice (some ⟨b, o, none⟩) m _, .int _ (.ofNat i) => asT (Nat.ble (i + 1) m) (forceN (o + i * esz) fun o' => K (ptr b o') n t)
    | _, _ => false
  | .extract x i => match x with
    | .tuple vs => nthO vs.toList i fun v => K v n t
    | _ => false
  | .len str x => match str, x with
    | false, .slice _ m _ => K (.int .i64 (.ofNat m)) n t
    | true, .string s => forceN (bLen s) fun m => K (.int .i64 (.ofNat m)) n t
    | _, _ => false
  | .app e esz bytes s x => match x with
    | .slice _ m _ => elemsT t esz x fun news => appT e esz bytes s m news n t K
    | _ => false
  | .iaddrp esz m x i => match x, i with
    | .pointer (some ⟨b, o, none⟩), .int _ (.ofNat i) => asT (Nat.ble (i + 1) m) (forceN (o + i * esz) fun o' => K (ptr b o') n t)
    | _, _ => false
  | .slarr esz len x lo hi mx => match x with
    | .pointer (some ⟨b, o, none⟩) => bndT mx len len fun mm => bndT hi len mm fun h => bndT lo 0 h fun l => forceN (o + l * esz) fun o' => forceN (h - l) fun m' => forceN (mm - l) fun k' => K (slc b o' m' k') n t
    | _ => false
  | .rng x => match x with
    | .string s => allocT (.obj true (.stringIter s 0)) n t fun n' t' => K (ptr n 0) n' t'
    | _ => false
  | .next x => match x with
    | .pointer (some ⟨b, 0, none⟩) => t.getK b fun ao => match ao with
      | .obj true (.stringIter s pos) => match Nat.ble (pos + 1) (bLen s) with
        | true => forceI (Utf8.decode s pos).1 fun c => forceN (pos + (Utf8.decode s pos).2) fun q => t.setK b (.obj true (.stringIter s q)) fun t' => K (.tuple #[.bool true, .int .i64 pos, .int .i32 c]) n t'
        | false => K (.tuple #[.bool false]) n t
      | _ => false
    | _ => false
  | .copy esz d x => match d, x with
    | .slice none a k, .slice _ _ _ => asT (Nat.beq a 0) (asT (Nat.beq k 0) (K (.int .i64 0) n t))
    | .slice (some ⟨b, o, none⟩) a _, .slice _ m _ => elemsT t esz x fun l => t.getK b fun ao => match ao with
      | .cells own room esz' c e => forceN (min m a) fun q => match Nat.beq q 0 with
        | true => K (.int .i64 0) n t
        | false => asT own (asT (Nat.ble (o + q * esz) c.length) (t.setK b (.cells own room esz' (c.take o ++ l.take (q * esz) ++ c.drop (o + q * esz)) e) fun t' => K (.int .i64 (.ofNat q)) n t'))
      | _ => false
    | _, _ => false
  | .clr esz z x => match x with
    | .slice none a k => asT (Nat.beq a 0) (asT (Nat.beq k 0) (K (.tuple #[]) n t))
    | .slice (some ⟨b, o, none⟩) a _ => match Nat.beq a 0 with
      | true => K (.tuple #[]) n t
      | false => t.getK b fun ao => match ao with
        | .cells own room esz' c e => asT own (asT (Nat.ble (o + a * esz) c.length) (asT (Nat.beq z.length esz) (asT (allOne z) (t.setK b (.cells own room esz' (c.take o ++ (List.replicate a z).flatten ++ c.drop (o + a * esz)) e) fun t' => K (.tuple #[]) n t'))))
        | _ => false
    | _ => false
  | .apps e bytes s x => match x with
    | .string tx => forceN (bLen tx) fun m => appT e 1 bytes s m (tx.data.toList.map fun b => .int .u8 b.toNat) n t K
    | _ => false
  | .mark x => match x with
    | .slice (some ⟨b, _, none⟩) _ _ => t.getK b fun ao => match ao with
      | .cells true _ _ _ _ => K x n t
      | _ => false
    | _ => false
  | .callf _ _ => false
  | .callv _ _ => false
  | .bad => false
  | op => optK (plainT op) fun v => K v n t

theorem stepT_sound {op : AOp Value} {n : Nat} {t : HT} {H : AHeap} (r : Rp n t H) {K : Value → Nat → HT → Bool} (h : stepT op n t K = true) : ∃ v H', asem op H = some (v, H') ∧ KP K v H' := by
  have hn := r.n
  unfold stepT at h
  split at h
  · obtain ⟨h1, h2⟩ := asT_true h
    rw [allOne_eq] at h1
    obtain ⟨n', t', h3, h4⟩ := r.allocT h2
    exact ⟨_, _, by simp only [asem]; rw [if_pos h1], n', t', h4, by rw [hn]; exact h3⟩
  · obtain ⟨h1, h2⟩ := asT_true h
    rw [allOne_eq] at h1
    obtain ⟨n', t', h3, h4⟩ := r.allocT h2
    exact ⟨_, _, by simp only [asem]; rw [if_pos h1], n', t', h4, by rw [hn]; exact h3⟩
  · split at h
    · rename_i c hc
      obtain ⟨h1, h2⟩ := asT_true h
      obtain ⟨h5, h6⟩ := asT_true h2
      rw [allOne_eq] at h1
      obtain ⟨n', t', h3, h4⟩ := r.allocT h6
      exact ⟨_, _, by simp only [asem, hc]; rw [if_pos ⟨h1, Nat.eq_of_beq_eq_true h5⟩], n', t', h4, by rw [hn]; exact h3⟩
    · cases h
  · split at h
    · obtain ⟨o, h1, h2⟩ := r.getK h
      split at h2
      · rw [nthO_eq] at h2
        split at h2
        · rename_i v hv
          exact ⟨v, H, by simp only [asem, cellA, h1, hv, Option.map_some], n, t, r, h2⟩
        · cases h2
      · cases h2
    · cases h
  · split at h
    · obtain ⟨o, h1, h2⟩ := r.getK h
      split at h2
      · obtain ⟨h3, h4⟩ := asT_true h2
        exact ⟨_, H, by simp only [asem, rangeA, h1]; rw [if_pos (Nat.le_of_ble_eq_true h3)]; rfl, n, t, r, h4⟩
      · cases h2
    · cases h
  · split at h
    · obtain ⟨o, h1, h2⟩ := r.getK h
      split at h2
      · obtain ⟨h3, h4⟩ := asT_true h2
        obtain ⟨h5, h6⟩ := asT_true h4
        rw [updK_eq] at h6
        obtain ⟨t', h7, h8⟩ := r.set (by rw [h1]; rfl) h6
        exact ⟨_, _, by simp only [asem, h1]; rw [if_pos ⟨Nat.le_of_ble_eq_true h3, h5⟩], n, t', h8, h7⟩
      · cases h2
    · cases h
  · split at h
    · obtain ⟨o, h1, h2⟩ := r.getK h
      split at h2
      · obtain ⟨h3, h4⟩ := asT_true h2
        obtain ⟨h5, h6⟩ := asT_true h4
        obtain ⟨h9, h10⟩ := asT_true h6
        rw [allOne_eq] at h9
        obtain ⟨t', h7, h8⟩ := r.set (by rw [h1]; rfl) h10
        exact ⟨_, _, by simp only [asem, h1]; rw [if_pos ⟨Nat.le_of_ble_eq_true h3, Nat.eq_of_beq_eq_true h5, h9⟩], n, t', h8, h7⟩
      · cases h2
    · cases h
  · obtain ⟨v, h1, h2⟩ := binT_true h
    exact ⟨v, H, by simp only [asem, h1, Option.map_some], n, t, r, h2⟩
  · split at h
    · rw [wrapT_eq] at h
      exact ⟨_, H, rfl, n, t, r, h⟩
    · cases h
  · split at h
    · rename_i s
      rw [forceN_eq, bLen_eq] at h
      obtain ⟨n', t', h3, h4⟩ := r.allocT h
      exact ⟨_, _, rfl, n', t', h4, by rw [hn]; exact h3⟩
    · cases h
  · obtain ⟨c, h1, h2⟩ := elemsT_true r h
    split at h2
    · rename_i l hl
      exact ⟨_, H, by simp only [asem, h1, hl], n, t, r, h2⟩
    · cases h2
  · split at h
    · rename_i l c
      obtain ⟨a1, h⟩ := asT_true h
      obtain ⟨a2, h⟩ := asT_true h
      obtain ⟨a3, h⟩ := asT_true h
      obtain ⟨a4, h⟩ := asT_true h
      obtain ⟨a5, h⟩ := asT_true h
      rw [forceN_eq, forceN_eq] at h
      obtain ⟨n', t', h3, h4⟩ := r.allocT h
      have b1 := Nat.le_of_ble_eq_true a1
      have b2 := Nat.le_of_ble_eq_true a2
      have b3 := Nat.le_of_ble_eq_true a3
      rw [allOne_eq] at a5
      refine ⟨slc H.n 0 l c, _, ?_, n', t', h4, by rw [hn]; exact h3⟩
      simp only [asem]
      rw [if_pos ⟨Int.natCast_nonneg _, Int.ofNat_le.2 b1, Int.ofNat_le.2 b2, Int.ofNat_le.2 b3, Nat.eq_of_beq_eq_true a4, a5⟩]
      rfl
    · cases h
  · split at h
    · rename_i s
      obtain ⟨hh, h1, h2⟩ := bndT_true h
      obtain ⟨l, h3, h4⟩ := bndT_true h2
      rw [bLen_eq] at h1
      rw [bSub_eq] at h4
      exact ⟨_, H, by simp only [asem, h1, h3], n, t, r, h4⟩
    · cases h
  · split at h
    · obtain ⟨m, h1, h2⟩ := bndT_true h
      obtain ⟨hh, h3, h4⟩ := bndT_true h2
      obtain ⟨l, h5, h6⟩ := bndT_true h4
      split at h6
      · exact ⟨_, H, by simp only [asem, h1, h3, h5], n, t, r, h6⟩
      · obtain ⟨o, h7, h8⟩ := r.getK h6
        split at h8
        · obtain ⟨h9, h10⟩ := asT_true h8
          simp only [forceN_eq] at h10
          exact ⟨_, H, by simp only [asem, h1, h3, h5, h7]; rw [if_pos (by rw [Bool.or_eq_true] at h9; rcases h9 with h9 | h9; exact .inl (Nat.eq_of_beq_eq_true h9); exact .inr (by simpa using h9))], n, t, r, h10⟩
        · cases h8
      · cases h6
    · cases h
  · split at h
    · rw [forceN_eq] at h
      exact ⟨_, H, rfl, n, t, r, h⟩
    · cases h
  · split at h
    · rename_i off x cs
      rw [nthO_eq] at h
      split at h
      · rename_i v hv
        exact ⟨v, H, by simp only [asem, hv, Option.map_some], n, t, r, h⟩
      · cases h
    · cases h
  · split at h
    · rename_i b o m k kk i
      obtain ⟨h1, h2⟩ := asT_true h
      rw [forceN_eq] at h2
      have := Nat.le_of_ble_eq_true h1
      refine ⟨_, H, ?_, n, t, r, h2⟩
      simp only [asem]
      rw [if_pos ⟨Int.natCast_nonneg _, by simp only [Int.ofNat_eq_natCast]; omega⟩]
      rfl
    · cases h
  · split at h
    · rw [nthO_eq] at h
      split at h
      · rename_i v hv
        exact ⟨v, H, by simp only [asem, hv, Option.map_some], n, t, r, h⟩
      · cases h
    · cases h
  · split at h
    · exact ⟨_, H, rfl, n, t, r, h⟩
    · rw [forceN_eq, bLen_eq] at h
      exact ⟨_, H, rfl, n, t, r, h⟩
    · cases h
  · split at h
    · rename_i e esz bytes s x aa m kk
      obtain ⟨news, h1, h2⟩ := elemsT_true r h
      obtain ⟨v, H', h3, h4⟩ := appT_true r h2
      exact ⟨v, H', by simp only [asem, h1]; exact h3, h4⟩
    · cases h
  · split at h
    · rename_i b o k i
      obtain ⟨h1, h2⟩ := asT_true h
      rw [forceN_eq] at h2
      have := Nat.le_of_ble_eq_true h1
      refine ⟨_, H, ?_, n, t, r, h2⟩
      simp only [asem]
      rw [if_pos ⟨Int.natCast_nonneg _, by simp only [Int.ofNat_eq_natCast]; omega⟩]
      rfl
    · cases h
  · split at h
    · obtain ⟨m, h1, h2⟩ := bndT_true h
      obtain ⟨hh, h3, h4⟩ := bndT_true h2
      obtain ⟨l, h5, h6⟩ := bndT_true h4
      simp only [forceN_eq] at h6
      exact ⟨_, H, by simp only [asem, h1, h3, h5], n, t, r, h6⟩
    · cases h
  · split at h
    · rename_i s
      obtain ⟨n', t', h3, h4⟩ := r.allocT h
      exact ⟨_, _, rfl, n', t', h4, by rw [hn]; exact h3⟩
    · cases h
  · split at h
    · obtain ⟨o, h1, h2⟩ := r.getK h
      split at h2
      · rename_i s pos
        split at h2
        · rename_i e
          rw [forceI_eq, forceN_eq] at h2
          obtain ⟨t', h7, h8⟩ := r.set (by rw [h1]; rfl) h2
          rw [bLen_eq] at e
          exact ⟨_, _, by simp only [asem, h1]; rw [if_pos (show pos < s.size from Nat.le_of_ble_eq_true e)], n, t', h8, h7⟩
        · rename_i e
          rw [bLen_eq] at e
          have : ¬ pos < s.size := fun h => by rw [Nat.ble_eq_true_of_le h] at e; cases e
          exact ⟨_, H, by simp only [asem, h1]; rw [if_neg this], n, t, r, h2⟩
      · cases h2
    · cases h
  · split at h
    · obtain ⟨h1, h⟩ := asT_true h
      obtain ⟨h2, h⟩ := asT_true h
      exact ⟨_, H, by simp only [asem]; rw [if_pos ⟨Nat.eq_of_beq_eq_true h1, Nat.eq_of_beq_eq_true h2⟩], n, t, r, h⟩
    · obtain ⟨l, h1, h2⟩ := elemsT_true r h
      obtain ⟨o, h3, h4⟩ := r.getK h2
      split at h4
      · rename_i own room esz' c e
        rw [forceN_eq] at h4
        split at h4
        · rename_i e0
          exact ⟨_, H, by simp only [asem, h1, h3]; rw [if_pos (Nat.eq_of_beq_eq_true e0)], n, t, r, h4⟩
        · rename_i e0
          obtain ⟨h5, h6⟩ := asT_true h4
          obtain ⟨h7, h8⟩ := asT_true h6
          obtain ⟨t', h9, h10⟩ := r.set (by rw [h3]; rfl) h8
          refine ⟨_, _, ?_, n, t', h10, h9⟩
          simp only [asem, h1, h3]
          rw [if_neg (fun hh => by rw [hh] at e0; cases e0), if_pos ⟨h5, Nat.le_of_ble_eq_true h7⟩]
          rfl
      · cases h4
    · cases h
  · split at h
    · obtain ⟨h1, h⟩ := asT_true h
      obtain ⟨h2, h⟩ := asT_true h
      exact ⟨_, H, by simp only [asem]; rw [if_pos ⟨Nat.eq_of_beq_eq_true h1, Nat.eq_of_beq_eq_true h2⟩], n, t, r, h⟩
    · split at h
      · rename_i e0
        exact ⟨_, H, by simp only [asem]; rw [if_pos (Nat.eq_of_beq_eq_true e0)], n, t, r, h⟩
      · rename_i e0
        obtain ⟨o, h3, h4⟩ := r.getK h
        split at h4
        · obtain ⟨h5, h6⟩ := asT_true h4
          obtain ⟨h7, h8⟩ := asT_true h6
          obtain ⟨h9, h10⟩ := asT_true h8
          obtain ⟨h11, h12⟩ := asT_true h10
          rw [allOne_eq] at h11
          obtain ⟨t', h13, h14⟩ := r.set (by rw [h3]; rfl) h12
          refine ⟨_, _, ?_, n, t', h14, h13⟩
          simp only [asem]
          rw [if_neg (fun hh => by rw [hh] at e0; cases e0)]
          simp only [h3]
          rw [if_pos ⟨h5, Nat.le_of_ble_eq_true h7, Nat.eq_of_beq_eq_true h9, h11⟩]
        · cases h4
    · cases h
  · split at h
    · rw [forceN_eq, bLen_eq] at h
      obtain ⟨v, H', h3, h4⟩ := appT_true r h
      exact ⟨v, H', by simp only [asem]; exact h3, h4⟩
    · cases h
  · split at h
    · obtain ⟨o, h1, h2⟩ := r.getK h
      split at h2
      · exact ⟨_, H, by simp only [asem, h1], n, t, r, h2⟩
      · cases h2
    · cases h
  · cases h
  · cases h
  · cases h
  · obtain ⟨v, h1, h2⟩ := optK_true h
    exact ⟨v, H, plainT_sound h1, n, t, r, h2⟩

end Go.AM
