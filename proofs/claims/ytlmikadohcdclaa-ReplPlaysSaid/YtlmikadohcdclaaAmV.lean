/- The abstract machine, part V: an evaluator for closed calls, and that what it finds is so. -/
import Derived.Test.YtlmikadohcdclaaAmX
set_option linter.unusedSimpArgs false
set_option linter.unusedVariables false
namespace Go.AM

/-! ### Heaps as trees -/
inductive HT
  | leaf
  | node (v : AO) (l r : HT)

/-- What lies at a key: 0 at the root, the odd ones to the left. -/
def HT.look (t : HT) : Nat → Option AO := match t with
  | .leaf => fun _ => none
  | .node v l r => fun k => match k with
    | 0 => some v
    | m + 1 => if m % 2 = 0 then l.look (m / 2) else r.look (m / 2)

noncomputable def HT.getK (t : HT) : Nat → (AO → Bool) → Bool :=
  HT.rec (motive := fun _ => Nat → (AO → Bool) → Bool) (fun _ _ => false)
    (fun v _ _ gl gr k K => Nat.rec (motive := fun _ => Bool) (K v) (fun m _ => Nat.rec (motive := fun _ => Bool) (gl (Nat.div m 2) K) (fun _ _ => gr (Nat.div m 2) K) (Nat.mod m 2)) k) t

noncomputable def HT.setK (t : HT) : Nat → AO → (HT → Bool) → Bool :=
  HT.rec (motive := fun _ => Nat → AO → (HT → Bool) → Bool) (fun k o K => Nat.rec (motive := fun _ => Bool) (K (.node o .leaf .leaf)) (fun _ _ => false) k)
    (fun v l r sl sr k o K => Nat.rec (motive := fun _ => Bool) (K (.node o l r)) (fun m _ =>
      Nat.rec (motive := fun _ => Bool) (sl (Nat.div m 2) o fun l' => K (.node v l' r)) (fun _ _ => sr (Nat.div m 2) o fun r' => K (.node v l r')) (Nat.mod m 2)) k) t

theorem natrec_pos {α : Type} {a : α} {f : Nat → α → α} {n : Nat} (h : n ≠ 0) : ∃ m, n = m + 1 ∧ Nat.rec (motive := fun _ => α) a f n = f m (Nat.rec (motive := fun _ => α) a f m) := by
  cases n with
  | zero => exact absurd rfl h
  | succ m => exact ⟨m, rfl, rfl⟩

theorem natrec_c {α : Type} (a b : α) (n : Nat) : Nat.rec (motive := fun _ => α) a (fun _ _ => b) n = if n = 0 then a else b := by
  cases n <;> rfl

theorem HT.getK_spec : ∀ (t : HT) (k : Nat) (K : AO → Bool), t.getK k K = match t.look k with | some o => K o | none => false
  | .leaf, k, K => rfl
  | .node v l r, 0, K => rfl
  | .node v l r, m + 1, K => by
    have h1 := HT.getK_spec l (m / 2) K
    have h2 := HT.getK_spec r (m / 2) K
    have : (HT.node v l r).getK (m + 1) K = Nat.rec (motive := fun _ => Bool) (l.getK (Nat.div m 2) K) (fun _ _ => r.getK (Nat.div m 2) K) (Nat.mod m 2) := rfl
    rw [this, natrec_c]
    show (if m % 2 = 0 then l.getK (m / 2) K else r.getK (m / 2) K) = _
    rw [h1, h2]
    simp only [HT.look]
    split <;> rfl

theorem HT.setK_spec : ∀ (t : HT) (k : Nat) (o : AO) (K : HT → Bool), t.setK k o K = true → ∃ t', K t' = true ∧ ∀ j, t'.look j = if j = k then some o else t.look j
  | .leaf, 0, o, K, h => ⟨.node o .leaf .leaf, h, fun j => by
      cases j with
      | zero => rfl
      | succ m => simp [HT.look]⟩
  | .leaf, k + 1, o, K, h => by cases h
  | .node v l r, 0, o, K, h => ⟨.node o l r, h, fun j => by cases j <;> simp [HT.look]⟩
  | .node v l r, m + 1, o, K, h => by
    have e : (HT.node v l r).setK (m + 1) o K = Nat.rec (motive := fun _ => Bool) (l.setK (Nat.div m 2) o fun l' => K (.node v l' r)) (fun _ _ => r.setK (Nat.div m 2) o fun r' => K (.node v l r')) (Nat.mod m 2) := rfl
    rw [e, natrec_c] at h
    change (if m % 2 = 0 then l.setK (m / 2) o (fun l' => K (.node v l' r)) else r.setK (m / 2) o (fun r' => K (.node v l r'))) = true at h
    split at h
    · rename_i hm
      obtain ⟨t', h1, h2⟩ := HT.setK_spec l (m / 2) o _ h
      refine ⟨_, h1, fun j => ?_⟩
      cases j with
      | zero => simp [HT.look]
      | succ i =>
        simp only [HT.look, h2]
        by_cases hi : i % 2 = 0
        · simp only [hi, if_true]
          by_cases hj : i / 2 = m / 2
          · rw [if_pos hj, if_pos (by omega)]
          · rw [if_neg hj, if_neg (by omega)]
        · simp only [hi, if_false]
          rw [if_neg (by omega)]
    · rename_i hm
      obtain ⟨t', h1, h2⟩ := HT.setK_spec r (m / 2) o _ h
      refine ⟨_, h1, fun j => ?_⟩
      cases j with
      | zero => simp [HT.look]
      | succ i =>
        simp only [HT.look, h2]
        by_cases hi : i % 2 = 0
        · simp only [hi, if_true]
          rw [if_neg (by omega)]
        · simp only [hi, if_false]
          by_cases hj : i / 2 = m / 2
          · rw [if_pos hj, if_pos (by omega)]
          · rw [if_neg hj, if_neg (by omega)]

structure Rp (n : Nat) (t : HT) (H : AHeap) : Prop where
  n : H.n = n
  get : ∀ b, H.get b = t.look b

theorem Rp.getK {n : Nat} {t : HT} {H : AHeap} (r : Rp n t H) {b : Nat} {K : AO → Bool} (h : t.getK b K = true) : ∃ o, H.get b = some o ∧ K o = true := by
  rw [HT.getK_spec] at h
  rw [r.get]
  cases e : t.look b with
  | none => rw [e] at h; cases h
  | some o => rw [e] at h; exact ⟨o, rfl, h⟩

theorem Rp.alloc {n : Nat} {t : HT} {H : AHeap} (r : Rp n t H) {o : AO} {K : HT → Bool} (h : t.setK n o K = true) : ∃ t', K t' = true ∧ Rp (n + 1) t' (H.alloc o) := by
  obtain ⟨t', h1, h2⟩ := HT.setK_spec t n o K h
  refine ⟨t', h1, by rw [alloc_n, r.n], fun b => ?_⟩
  rw [alloc_get, h2, r.n, r.get]

theorem Rp.set {n : Nat} {t : HT} {H : AHeap} (r : Rp n t H) {b : Nat} {o : AO} {K : HT → Bool} (hb : (H.get b).isSome = true) (h : t.setK b o K = true) : ∃ t', K t' = true ∧ Rp n t' (H.set b o) := by
  obtain ⟨t', h1, h2⟩ := HT.setK_spec t b o K h
  refine ⟨t', h1, by rw [set_n, r.n], fun x => ?_⟩
  rw [set_get o hb, h2, r.get]

/-! ### Values that are worked out -/
noncomputable def forceN (n : Nat) (K : Nat → Bool) : Bool := Nat.rec (motive := fun _ => Bool) (K 0) (fun m _ => K (m + 1)) n
theorem forceN_eq (n : Nat) (K : Nat → Bool) : forceN n K = K n := by cases n <;> rfl
noncomputable def forceI (i : Int) (K : Int → Bool) : Bool := Int.rec (motive := fun _ => Bool) (fun n => forceN n fun n => K (.ofNat n)) (fun n => forceN n fun n => K (.negSucc n)) i
theorem forceI_eq (i : Int) (K : Int → Bool) : forceI i K = K i := by cases i <;> simp only [forceI, forceN_eq]
noncomputable def forceB (b : Bool) (K : Bool → Bool) : Bool := Bool.rec (motive := fun _ => Bool) (K false) (K true) b
theorem forceB_eq (b : Bool) (K : Bool → Bool) : forceB b K = K b := by cases b <;> rfl

noncomputable def nthK (l : List Value) : Nat → (Value → Bool) → Bool :=
  List.rec (motive := fun _ => Nat → (Value → Bool) → Bool) (fun _ K => K undef) (fun x _ ih i K => Nat.rec (motive := fun _ => Bool) (K x) (fun m _ => ih m K) i) l
theorem nthK_eq : ∀ (l : List Value) (i : Nat) (K : Value → Bool), nthK l i K = K (l.getD i undef)
  | [], i, K => rfl
  | x :: l, 0, K => rfl
  | x :: l, i + 1, K => (nthK_eq l i K).trans (by simp [List.getD])
/-- As nthK, where nothing is there: no. -/
noncomputable def nthO (l : List Value) : Nat → (Value → Bool) → Bool :=
  List.rec (motive := fun _ => Nat → (Value → Bool) → Bool) (fun _ K => false) (fun x _ ih i K => Nat.rec (motive := fun _ => Bool) (K x) (fun m _ => ih m K) i) l
theorem nthO_eq : ∀ (l : List Value) (i : Nat) (K : Value → Bool), nthO l i K = match l[i]? with | some v => K v | none => false
  | [], i, K => rfl
  | x :: l, 0, K => rfl
  | x :: l, i + 1, K => (nthO_eq l i K).trans (by simp)
noncomputable def updK (v : Value) (l : List Value) : Nat → (List Value → Bool) → Bool :=
  List.rec (motive := fun _ => Nat → (List Value → Bool) → Bool) (fun _ K => K []) (fun x r ih i K => Nat.rec (motive := fun _ => Bool) (K (v :: r)) (fun m _ => ih m fun r' => K (x :: r')) i) l
theorem updK_eq (v : Value) : ∀ (l : List Value) (i : Nat) (K : List Value → Bool), updK v l i K = K (l.set i v)
  | [], i, K => rfl
  | x :: l, 0, K => rfl
  | x :: l, i + 1, K => updK_eq v l i _

noncomputable def evX (x : AX) (fr tm : List Value) (K : Value → Bool) : Bool := match x with
  | .fr i => nthK fr i K
  | .tm i => nthK tm i K
  | .c v => K v
  | .g n => K (.pointer (some ⟨n, 0, none⟩))
  | .fn f => K (.func (.func f) #[] #[])
theorem evX_eq (x : AX) (fr tm : List Value) (K : Value → Bool) : evX x fr tm K = K (x.ev fr tm) := by
  cases x <;> simp only [evX, AX.ev, nthK_eq]
noncomputable def evXs (l : List AX) (fr tm : List Value) : (List Value → Bool) → Bool :=
  List.rec (motive := fun _ => (List Value → Bool) → Bool) (fun K => K []) (fun x _ ih K => evX x fr tm fun v => ih fun vs => K (v :: vs)) l
theorem evXs_eq : ∀ (l : List AX) (fr tm : List Value) (K : List Value → Bool), evXs l fr tm K = K (l.map (AX.ev fr tm))
  | [], fr, tm, K => rfl
  | x :: l, fr, tm, K => by
    have : evXs (x :: l) fr tm K = evX x fr tm fun v => evXs l fr tm fun vs => K (v :: vs) := rfl
    rw [this, evX_eq, evXs_eq l]; rfl
noncomputable def evO (x : Option AX) (fr tm : List Value) (K : Option Value → Bool) : Bool := match x with
  | none => K none
  | some x => evX x fr tm fun v => K (some v)
theorem evO_eq (x : Option AX) (fr tm : List Value) (K : Option Value → Bool) : evO x fr tm K = K (x.map (AX.ev fr tm)) := by
  cases x <;> simp only [evO, evX_eq, Option.map]
noncomputable def evPs (l : List (Nat × Nat × AX)) (fr tm : List Value) : (List (Nat × Nat × Value) → Bool) → Bool :=
  List.rec (motive := fun _ => (List (Nat × Nat × Value) → Bool) → Bool) (fun K => K []) (fun p _ ih K => evX p.2.2 fr tm fun v => ih fun vs => K ((p.1, p.2.1, v) :: vs)) l
theorem evPs_eq : ∀ (l : List (Nat × Nat × AX)) (fr tm : List Value) (K : List (Nat × Nat × Value) → Bool), evPs l fr tm K = K (l.map fun p => (p.1, p.2.1, p.2.2.ev fr tm))
  | [], fr, tm, K => rfl
  | x :: l, fr, tm, K => by
    have : evPs (x :: l) fr tm K = evX x.2.2 fr tm fun v => evPs l fr tm fun vs => K ((x.1, x.2.1, v) :: vs) := rfl
    rw [this, evX_eq, evPs_eq l]; rfl

/-! ### Numbers -/
def kNum : IntKind → Nat
  | .i8 => 0 | .i16 => 1 | .i32 => 2 | .i64 => 3 | .u8 => 4 | .u16 => 5 | .u32 => 6 | .u64 => 7

theorem kNum_inj {a b : IntKind} (h : Nat.beq (kNum a) (kNum b) = true) : a = b := by
  have := Nat.eq_of_beq_eq_true h
  cases a <;> cases b <;> first | rfl | (exact absurd this (by decide))

def kMax : IntKind → Nat
  | .i8 => 128 | .i16 => 32768 | .i32 => 2147483648 | .i64 => 9223372036854775808 | .u8 => 256 | .u16 => 65536 | .u32 => 4294967296 | .u64 => 18446744073709551616
/-- Numbers of no sign that fit stay. -/
noncomputable def wrapT (k : IntKind) (n : Int) (K : Int → Bool) : Bool :=
  Int.rec (motive := fun _ => Bool) (fun m => forceB (Nat.ble (kMax k) m) fun b => Bool.rec (motive := fun _ => Bool) (forceN m fun m => K (.ofNat m)) (forceI (k.wrap (.ofNat m)) K) b)
    (fun m => forceI (k.wrap (.negSucc m)) K) n
theorem wrap_fit {k : IntKind} {m : Nat} (h : m < kMax k) : k.wrap (m : Int) = m := by
  cases k <;> simp [kMax, IntKind.wrap, IntKind.bits, IntKind.signed] at h ⊢ <;> omega
theorem wrapT_eq (k : IntKind) (n : Int) (K : Int → Bool) : wrapT k n K = K (k.wrap n) := by
  cases n with
  | negSucc m => simp only [wrapT, forceI_eq]
  | ofNat m =>
    simp only [wrapT, forceB_eq, forceN_eq, forceI_eq]
    cases h : Nat.ble (kMax k) m
    · have : ¬ kMax k ≤ m := fun h2 => by rw [Nat.ble_eq_true_of_le h2] at h; cases h
      have := wrap_fit (k := k) (m := m) (by omega)
      show K (Int.ofNat m) = _
      rw [show Int.ofNat m = (m : Int) from rfl, this]
    · rfl

def iLt : Int → Int → Bool
  | .ofNat a, .ofNat b => Nat.ble (a + 1) b
  | .ofNat _, .negSucc _ => false
  | .negSucc _, .ofNat _ => true
  | .negSucc a, .negSucc b => Nat.ble (b + 1) a
theorem iLt_eq (a b : Int) : iLt a b = decide (a < b) := by
  cases a <;> cases b <;> simp only [iLt] <;> rw [Bool.eq_iff_iff] <;> simp <;> omega
def iEq : Int → Int → Bool
  | .ofNat a, .ofNat b => Nat.beq a b
  | .negSucc a, .negSucc b => Nat.beq a b
  | _, _ => false
theorem iEq_eq (a b : Int) : iEq a b = (a == b) := by
  cases a <;> cases b <;> simp only [iEq] <;> rw [Bool.eq_iff_iff] <;> simp [Nat.beq_eq] <;> omega

/-- Two numbers that fit, bit by bit. -/
noncomputable def bitT (k : IntKind) (f : Nat → Nat → Nat) (slow : Int) (a b : Int) (K : Int → Bool) : Bool :=
  match a, b with
  | .ofNat m, .ofNat n => forceB (Nat.ble (kMax k) m) fun x => forceB (Nat.ble (kMax k) n) fun y => match x, y with
    | false, false => forceN (f m n) fun r => K (.ofNat r)
    | _, _ => forceI slow K
  | _, _ => forceI slow K
theorem kMax_le (k : IntKind) : kMax k ≤ 2 ^ k.bits := by cases k <;> decide
theorem kMax_pow (k : IntKind) : ∃ j, kMax k = 2 ^ j := by
  cases k
  · exact ⟨7, rfl⟩
  · exact ⟨15, rfl⟩
  · exact ⟨31, rfl⟩
  · exact ⟨63, rfl⟩
  · exact ⟨8, rfl⟩
  · exact ⟨16, rfl⟩
  · exact ⟨32, rfl⟩
  · exact ⟨64, rfl⟩
theorem bitT_eq {k : IntKind} {f : Nat → Nat → Nat} {slow a b : Int} {K : Int → Bool} (h : ∀ m n : Nat, m < kMax k → n < kMax k → a = m → b = n → slow = (f m n : Nat)) : bitT k f slow a b K = K slow := by
  cases a with
  | negSucc m => simp only [bitT, forceI_eq]
  | ofNat m =>
    cases b with
    | negSucc n => simp only [bitT, forceI_eq]
    | ofNat n =>
      simp only [bitT, forceB_eq]
      cases h1 : Nat.ble (kMax k) m <;> cases h2 : Nat.ble (kMax k) n <;> simp only [forceI_eq, forceN_eq]
      have a1 : ¬ kMax k ≤ m := fun h2 => by rw [Nat.ble_eq_true_of_le h2] at h1; cases h1
      have a2 : ¬ kMax k ≤ n := fun h3 => by rw [Nat.ble_eq_true_of_le h3] at h2; cases h2
      rw [h m n (by omega) (by omega) rfl rfl]
      rfl
theorem ofInt_fit {k : IntKind} {m : Nat} (h : m < kMax k) : (BitVec.ofInt k.bits (m : Int)).toNat = m := by
  rw [BitVec.ofInt_natCast, BitVec.toNat_ofNat]
  exact Nat.mod_eq_of_lt (Nat.lt_of_lt_of_le h (kMax_le k))
theorem and_fit {k : IntKind} {m n : Nat} (h1 : m < kMax k) (h2 : n < kMax k) : k.wrap ((BitVec.ofInt k.bits (m : Int) &&& BitVec.ofInt k.bits (n : Int)).toNat : Int) = ((Nat.land m n : Nat) : Int) := by
  rw [BitVec.toNat_and, ofInt_fit h1, ofInt_fit h2]
  exact wrap_fit (Nat.lt_of_le_of_lt Nat.and_le_left h1)
theorem or_fit {k : IntKind} {m n : Nat} (h1 : m < kMax k) (h2 : n < kMax k) : k.wrap ((BitVec.ofInt k.bits (m : Int) ||| BitVec.ofInt k.bits (n : Int)).toNat : Int) = ((Nat.lor m n : Nat) : Int) := by
  rw [BitVec.toNat_or, ofInt_fit h1, ofInt_fit h2]
  obtain ⟨j, hj⟩ := kMax_pow k
  exact wrap_fit (by rw [hj] at h1 h2 ⊢; exact Nat.or_lt_two_pow h1 h2)
theorem xor_fit {k : IntKind} {m n : Nat} (h1 : m < kMax k) (h2 : n < kMax k) : k.wrap ((BitVec.ofInt k.bits (m : Int) ^^^ BitVec.ofInt k.bits (n : Int)).toNat : Int) = ((Nat.xor m n : Nat) : Int) := by
  rw [BitVec.toNat_xor, ofInt_fit h1, ofInt_fit h2]
  obtain ⟨j, hj⟩ := kMax_pow k
  exact wrap_fit (by rw [hj] at h1 h2 ⊢; exact Nat.xor_lt_two_pow h1 h2)

theorem andNot_eq {w : Nat} (x y : BitVec w) : x &&& ~~~y = x ^^^ (x &&& y) := by
  apply BitVec.eq_of_getLsbD_eq
  intro i hi
  simp only [BitVec.getLsbD_and, BitVec.getLsbD_not, BitVec.getLsbD_xor, hi, decide_true, Bool.true_and]
  cases x.getLsbD i <;> cases y.getLsbD i <;> rfl
theorem andNot_fit {k : IntKind} {m n : Nat} (h1 : m < kMax k) (h2 : n < kMax k) : k.wrap ((BitVec.ofInt k.bits (m : Int) &&& ~~~ BitVec.ofInt k.bits (n : Int)).toNat : Int) = ((Nat.xor m (Nat.land m n) : Nat) : Int) := by
  rw [andNot_eq, BitVec.toNat_xor, BitVec.toNat_and, ofInt_fit h1, ofInt_fit h2]
  obtain ⟨j, hj⟩ := kMax_pow k
  exact wrap_fit (by rw [hj] at h1 h2 ⊢; exact Nat.xor_lt_two_pow h1 (Nat.lt_of_le_of_lt Nat.and_le_left h1))

noncomputable def shT (k : IntKind) (b : Int) (K : Nat → Bool) : Bool := match b with
  | .ofNat s => Bool.rec (motive := fun _ => Bool) (K k.bits) (forceN s K) (Nat.ble s k.bits)
  | .negSucc _ => false
theorem shT_true {k : IntKind} {b : Int} {K : Nat → Bool} (h : shT k b K = true) : 0 ≤ b ∧ K (min b.toNat k.bits) = true := by
  cases b with
  | negSucc _ => cases h
  | ofNat s =>
    refine ⟨Int.natCast_nonneg _, ?_⟩
    simp only [shT] at h
    cases e : Nat.ble s k.bits <;> rw [e] at h <;> simp only [forceN_eq] at h
    · have : ¬ s ≤ k.bits := fun h2 => by rw [Nat.ble_eq_true_of_le h2] at e; cases e
      rw [show min (Int.ofNat s).toNat k.bits = k.bits from by simp; omega]; exact h
    · have := Nat.le_of_ble_eq_true e
      rw [show min (Int.ofNat s).toNat k.bits = s from by simp; omega]; exact h
/-- By a power of two, up and down. -/
def upT (a : Int) (s : Nat) : Int := match a with
  | .ofNat m => .ofNat (Nat.mul m (Nat.pow 2 s))
  | a => a * 2 ^ s
def downT (a : Int) (s : Nat) : Int := match a with
  | .ofNat m => .ofNat (Nat.div m (Nat.pow 2 s))
  | a => a.fdiv (2 ^ s)
theorem upT_eq (a : Int) (s : Nat) : upT a s = a * 2 ^ s := by
  cases a with
  | negSucc m => rfl
  | ofNat m =>
    show ((m * 2 ^ s : Nat) : Int) = (m : Int) * 2 ^ s
    push_cast; rfl
theorem downT_eq (a : Int) (s : Nat) : downT a s = a.fdiv (2 ^ s) := by
  cases a with
  | negSucc m => rfl
  | ofNat m =>
    show ((m / 2 ^ s : Nat) : Int) = (m : Int).fdiv (2 ^ s)
    rw [show ((2 : Int) ^ s) = ((2 ^ s : Nat) : Int) by push_cast; rfl, Int.fdiv_eq_ediv_of_nonneg _ (Int.natCast_nonneg _)]
    push_cast; rfl

noncomputable def intT (op : BinOp) (k : IntKind) (a b : Int) (K : Value → Bool) : Bool := match op with
  | .add => wrapT k (a + b) fun r => K (.int k r)
  | .sub => wrapT k (a - b) fun r => K (.int k r)
  | .mul => wrapT k (a * b) fun r => K (.int k r)
  | .quo => Bool.rec (motive := fun _ => Bool) (wrapT k (a.tdiv b) fun r => K (.int k r)) false (iEq b 0)
  | .rem => Bool.rec (motive := fun _ => Bool) (forceI (a.tmod b) fun r => K (.int k r)) false (iEq b 0)
  | .and => bitT k Nat.land (k.wrap (BitVec.ofInt k.bits a &&& BitVec.ofInt k.bits b).toNat) a b fun r => K (.int k r)
  | .or => bitT k Nat.lor (k.wrap (BitVec.ofInt k.bits a ||| BitVec.ofInt k.bits b).toNat) a b fun r => K (.int k r)
  | .xor => bitT k Nat.xor (k.wrap (BitVec.ofInt k.bits a ^^^ BitVec.ofInt k.bits b).toNat) a b fun r => K (.int k r)
  | .andNot => bitT k (fun m n => Nat.xor m (Nat.land m n)) (k.wrap (BitVec.ofInt k.bits a &&& ~~~ BitVec.ofInt k.bits b).toNat) a b fun r => K (.int k r)
  | .eql => forceB (iEq a b) fun r => K (.bool r)
  | .neq => forceB (iEq a b) fun r => K (.bool (!r))
  | .lss => forceB (iLt a b) fun r => K (.bool r)
  | .leq => forceB (iLt b a) fun r => K (.bool (!r))
  | .gtr => forceB (iLt b a) fun r => K (.bool r)
  | .geq => forceB (iLt a b) fun r => K (.bool (!r))
  | _ => false
theorem iEq_zero {b : Int} : iEq b 0 = decide (b = 0) := by rw [iEq_eq, Bool.eq_iff_iff]; simp
theorem intT_true {op : BinOp} {k : IntKind} {a b : Int} {K : Value → Bool} (h : intT op k a b K = true) : ∃ v, intA op k a b = some v ∧ K v = true := by
  cases op <;> simp only [intT, wrapT_eq, forceB_eq, forceI_eq, iLt_eq, iEq_zero] at h <;> simp only [intA]
  case quo =>
    by_cases hb : b = 0
    · subst hb; cases h
    · rw [if_neg hb]; simp only [hb, decide_false] at h; exact ⟨_, rfl, h⟩
  case rem =>
    by_cases hb : b = 0
    · subst hb; cases h
    · rw [if_neg hb]; simp only [hb, decide_false] at h; exact ⟨_, rfl, h⟩
  case and => rw [bitT_eq (fun m n h1 h2 e1 e2 => by subst e1 e2; exact and_fit h1 h2)] at h; exact ⟨_, rfl, h⟩
  case or => rw [bitT_eq (fun m n h1 h2 e1 e2 => by subst e1 e2; exact or_fit h1 h2)] at h; exact ⟨_, rfl, h⟩
  case xor => rw [bitT_eq (fun m n h1 h2 e1 e2 => by subst e1 e2; exact xor_fit h1 h2)] at h; exact ⟨_, rfl, h⟩
  case andNot => rw [bitT_eq (fun m n h1 h2 e1 e2 => by subst e1 e2; exact andNot_fit h1 h2)] at h; exact ⟨_, rfl, h⟩
  case eql => rw [iEq_eq] at h; exact ⟨_, rfl, h⟩
  case neq => rw [iEq_eq] at h; exact ⟨_, rfl, by rw [show (a != b) = !(a == b) from rfl]; exact h⟩
  case leq => exact ⟨_, rfl, by rw [show decide (a ≤ b) = !decide (b < a) from by rw [Bool.eq_iff_iff]; simp]; exact h⟩
  case geq => exact ⟨_, rfl, by rw [show decide (b ≤ a) = !decide (a < b) from by rw [Bool.eq_iff_iff]; simp]; exact h⟩
  all_goals first | exact ⟨_, rfl, h⟩ | (cases h; done)

/-! ### Texts -/
noncomputable def bEq (a b : List UInt8) : Bool :=
  List.rec (motive := fun _ => List UInt8 → Bool) (fun b => List.rec (motive := fun _ => Bool) true (fun _ _ _ => false) b)
    (fun x _ ih b => List.rec (motive := fun _ => Bool) false (fun y r _ => Bool.rec (motive := fun _ => Bool) false (ih r) (Nat.beq x.toNat y.toNat)) b) a b
theorem bEq_eq : ∀ a b : List UInt8, bEq a b = decide (a = b)
  | [], [] => by simp [bEq]
  | [], y :: b => by simp [bEq]
  | x :: a, [] => by simp [bEq]
  | x :: a, y :: b => by
    have h : bEq (x :: a) (y :: b) = Bool.rec (motive := fun _ => Bool) false (bEq a b) (Nat.beq x.toNat y.toNat) := rfl
    rw [h, bEq_eq a b]
    cases e : Nat.beq x.toNat y.toNat
    · have : x ≠ y := fun h => by subst h; rw [Nat.beq_refl] at e; cases e
      simp [this]
    · have : x = y := UInt8.toNat_inj.1 (Nat.eq_of_beq_eq_true e)
      simp [this]
theorem bstr_eq (a b : ByteArray) : decide (a = b) = bEq a.data.toList b.data.toList := by
  rw [bEq_eq, Bool.eq_iff_iff]
  simp only [decide_eq_true_eq]
  constructor
  · intro h; rw [h]
  · intro h
    have : a.data = b.data := Array.toList_inj.1 h
    cases a; cases b; simp_all
def bCat (a b : ByteArray) : ByteArray := ⟨⟨a.data.toList ++ b.data.toList⟩⟩
theorem bCat_eq (a b : ByteArray) : bCat a b = a ++ b := by
  have : (a ++ b).data.toList = a.data.toList ++ b.data.toList := by rw [ByteArray.data_append]; simp
  have h2 : (bCat a b).data = (a ++ b).data := Array.toList_inj.1 (by rw [this]; rfl)
  cases h : bCat a b; cases h3 : a ++ b; rw [h, h3] at h2; simp_all
def bSub (s : ByteArray) (l h : Nat) : ByteArray := ⟨⟨(s.data.toList.take h).drop l⟩⟩
theorem bSub_eq (s : ByteArray) (l h : Nat) : bSub s l h = s.extract l h := by
  have : (s.extract l h).data.toList = (s.data.toList.take h).drop l := by
    rw [ByteArray.data_extract]; simp [List.extract_eq_take_drop, List.drop_take]
  have h2 : (bSub s l h).data = (s.extract l h).data := Array.toList_inj.1 (by rw [this]; rfl)
  cases h3 : bSub s l h; cases h4 : s.extract l h; rw [h3, h4] at h2; simp_all
def bLen (s : ByteArray) : Nat := s.data.toList.length
theorem bLen_eq (s : ByteArray) : bLen s = s.size := by simp [bLen]

noncomputable def strT (op : BinOp) (a b : ByteArray) (K : Value → Bool) : Bool := match op with
  | .add => Bool.rec (motive := fun _ => Bool) false (K (.string (bCat a b))) (Nat.ble (bLen a + bLen b) 140737488355328)
  | .eql => forceB (bEq a.data.toList b.data.toList) fun r => K (.bool r)
  | .neq => forceB (bEq a.data.toList b.data.toList) fun r => K (.bool (!r))
  | .lss => forceB (Op.bytesLess a.data.toList b.data.toList) fun r => K (.bool r)
  | .leq => forceB (Op.bytesLess a.data.toList b.data.toList || bEq a.data.toList b.data.toList) fun r => K (.bool r)
  | .gtr => forceB (!(Op.bytesLess a.data.toList b.data.toList || bEq a.data.toList b.data.toList)) fun r => K (.bool r)
  | .geq => forceB (!Op.bytesLess a.data.toList b.data.toList) fun r => K (.bool r)
  | _ => false
theorem strT_true {op : BinOp} {a b : ByteArray} {K : Value → Bool} (h : strT op a b K = true) : ∃ v, strA op a b = some v ∧ K v = true := by
  cases op <;> simp only [strT, forceB_eq, bCat_eq, bLen_eq, ← bstr_eq] at h <;> simp only [strA]
  case add =>
    cases e : Nat.ble (a.size + b.size) 140737488355328
    · rw [e] at h; cases h
    · rw [e] at h
      rw [if_pos (Nat.le_of_ble_eq_true e)]; exact ⟨_, rfl, h⟩
  all_goals first | exact ⟨_, rfl, h⟩ | (cases h; done)

noncomputable def binT (op : BinOp) (x y : Value) (K : Value → Bool) : Bool := match x, y with
  | .int k a, .int k' b => match op with
    | .shl => shT k b fun s => wrapT k (upT a s) fun r => K (.int k r)
    | .shr => shT k b fun s => forceI (downT a s) fun r => K (.int k r)
    | op => Bool.rec (motive := fun _ => Bool) false (intT op k a b K) (Nat.beq (kNum k) (kNum k'))
  | .string a, .string b => strT op a b K
  | _, _ => false
theorem binT_true {op : BinOp} {x y : Value} {K : Value → Bool} (h : binT op x y K = true) : ∃ v, binA op x y = some v ∧ K v = true := by
  unfold binT at h
  split at h
  · rename_i k a k' b
    split at h
    · obtain ⟨h1, h2⟩ := shT_true h
      rw [wrapT_eq, upT_eq] at h2
      exact ⟨_, by simp only [binA, h1, if_true], h2⟩
    · obtain ⟨h1, h2⟩ := shT_true h
      rw [forceI_eq, downT_eq] at h2
      exact ⟨_, by simp only [binA, h1, if_true], h2⟩
    · rename_i n1 n2
      cases e : Nat.beq (kNum k) (kNum k')
      · rw [e] at h; cases h
      · rw [e] at h
        have := kNum_inj e
        subst this
        obtain ⟨v, h1, h2⟩ := intT_true h
        refine ⟨v, ?_, h2⟩
        cases op <;> first | exact absurd rfl n1 | exact absurd rfl n2 | (simp only [binA, if_true]; exact h1)
  · obtain ⟨v, h1, h2⟩ := strT_true h
    exact ⟨v, h1, h2⟩
  · cases h
end Go.AM
