/- The abstract machine, part X: for walks: code, numbers, growing slices, what is kept. -/
import Derived.Test.YtlmikadohcdclaaAmW
set_option linter.unusedSimpArgs false
set_option linter.unusedVariables false
namespace Go.AM

section
variable {P : Program} {ng : Nat} {H : AHeap} {Q : AQ} {fr tm : List Value}

theorem W_skip : W P ng .skip Q fr H = Q .normal fr H := _root_.id rfl
theorem W_reg (l : List AOper) : W P ng (.reg l) Q fr H = RW P ng l fr [] H (Q .normal) := _root_.id rfl
theorem W_dreg (l : List (AOper × List Nat)) : W P ng (.dreg l) Q fr H = RD P ng l fr [] H [] (Q .normal) := _root_.id rfl
theorem W_seq (a b : ACode) : W P ng (.seq a b) Q fr H = W P ng a (Q.andThen (W P ng b Q)) fr H := _root_.id rfl
theorem W_cond (c : AX) (t e : ACode) : W P ng (.cond c t e) Q fr H = match c.ev fr [] with
    | .bool b => if b then W P ng t Q fr H else W P ng e Q fr H
    | _ => False := rfl
theorem W_block (id : Nat) (c : ACode) : W P ng (.block id c) Q fr H = W P ng c (Q.inBlock id) fr H := _root_.id rfl
theorem W_exit (id : Nat) : W P ng (.exit id) Q fr H = Q (.exit id) fr H := _root_.id rfl
theorem W_ret : W P ng .ret Q fr H = Q .ret fr H := _root_.id rfl
theorem W_loop {c : ACode} (I : Nat → List Value → AHeap → Prop) (n : Nat) (h0 : I n fr H) (hs : ∀ k fr H, I k fr H → W P ng c (Q.andThen fun fr H => ∃ k', k' < k ∧ I k' fr H) fr H) : W P ng (.loop c) Q fr H :=
  ⟨I, n, h0, hs⟩
theorem getD_nil' (n : Nat) : ([] : List Value).getD n undef = undef := _root_.id rfl

def argsOK (P : Program) (f n : Nat) : Bool := match P.funcs[f]? with
  | some fn => decide (n ≤ fn.ntmps)
  | none => true
theorem walk {f : Nat} {sl : List Nat} {af : AFunc} (hc : compF P ng sl f = some af) {args : List Value} {R : Value → AHeap → Prop} (hargs : argsOK P f args.length = true)
    (h : W P ng af.body (fun e fr H2 => match e with | .normal | .ret => ∃ v, resO af.res fr H2 = some v ∧ R v H2 | _ => False) (initFr af.sl args) H) : ∃ v H', ARun P ng f args H v H' ∧ R v H' :=
  run_of hc (fun fn hf => by unfold argsOK at hargs; rw [hf] at hargs; simpa using hargs) h

/-! ### Numbers -/
theorem wrap_i64 {n : Int} (h1 : -9223372036854775808 ≤ n) (h2 : n ≤ 9223372036854775807) : IntKind.i64.wrap n = n := by
  simp only [IntKind.wrap, IntKind.bits, IntKind.signed]
  simp
  split <;> omega
theorem wrap_u8 (n : Int) : IntKind.u8.wrap n = n % 256 := by simp [IntKind.wrap, IntKind.bits, IntKind.signed]
theorem wrap_u16 (n : Int) : IntKind.u16.wrap n = n % 65536 := by simp [IntKind.wrap, IntKind.bits, IntKind.signed]
theorem wrap_u32 (n : Int) : IntKind.u32.wrap n = n % 4294967296 := by simp [IntKind.wrap, IntKind.bits, IntKind.signed]
theorem wrap_u64 (n : Int) : IntKind.u64.wrap n = n % 18446744073709551616 := by simp [IntKind.wrap, IntKind.bits, IntKind.signed]

variable (k : IntKind) (a b : Int)
theorem b_add : binA .add (.int k a) (.int k b) = some (.int k (k.wrap (a + b))) := by simp [binA, intA]
theorem b_sub : binA .sub (.int k a) (.int k b) = some (.int k (k.wrap (a - b))) := by simp [binA, intA]
theorem b_mul : binA .mul (.int k a) (.int k b) = some (.int k (k.wrap (a * b))) := by simp [binA, intA]
theorem b_eql : binA .eql (.int k a) (.int k b) = some (.bool (a == b)) := by simp [binA, intA]
theorem b_neq : binA .neq (.int k a) (.int k b) = some (.bool (a != b)) := by simp [binA, intA]
theorem b_lss : binA .lss (.int k a) (.int k b) = some (.bool (decide (a < b))) := by simp [binA, intA]
theorem b_leq : binA .leq (.int k a) (.int k b) = some (.bool (decide (a ≤ b))) := by simp [binA, intA]
theorem b_gtr : binA .gtr (.int k a) (.int k b) = some (.bool (decide (b < a))) := by simp [binA, intA]
theorem b_geq : binA .geq (.int k a) (.int k b) = some (.bool (decide (b ≤ a))) := by simp [binA, intA]
theorem b_and : binA .and (.int k a) (.int k b) = some (.int k (k.wrap (BitVec.ofInt k.bits a &&& BitVec.ofInt k.bits b).toNat)) := by simp [binA, intA]
theorem b_or : binA .or (.int k a) (.int k b) = some (.int k (k.wrap (BitVec.ofInt k.bits a ||| BitVec.ofInt k.bits b).toNat)) := by simp [binA, intA]
theorem b_xor : binA .xor (.int k a) (.int k b) = some (.int k (k.wrap (BitVec.ofInt k.bits a ^^^ BitVec.ofInt k.bits b).toNat)) := by simp [binA, intA]
theorem b_quo (h : b ≠ 0) : binA .quo (.int k a) (.int k b) = some (.int k (k.wrap (a.tdiv b))) := by simp [binA, intA, h]
theorem b_rem (h : b ≠ 0) : binA .rem (.int k a) (.int k b) = some (.int k (a.tmod b)) := by simp [binA, intA, h]
theorem b_shl (k' : IntKind) (h : 0 ≤ b) : binA .shl (.int k a) (.int k' b) = some (.int k (k.wrap (a * 2 ^ (min b.toNat k.bits)))) := by simp [binA, h]
theorem b_shr (k' : IntKind) (h : 0 ≤ b) : binA .shr (.int k a) (.int k' b) = some (.int k (a.fdiv (2 ^ (min b.toNat k.bits)))) := by simp [binA, h]
theorem b_seql (a b : ByteArray) : binA .eql (.string a) (.string b) = some (.bool (decide (a = b))) := by simp [binA, strA]
theorem b_sneq (a b : ByteArray) : binA .neq (.string a) (.string b) = some (.bool (!decide (a = b))) := by simp [binA, strA]
theorem b_slss (a b : ByteArray) : binA .lss (.string a) (.string b) = some (.bool (Op.bytesLess a.data.toList b.data.toList)) := by simp [binA, strA]
theorem b_sadd {a b : ByteArray} (h : a.size + b.size ≤ 140737488355328) : binA .add (.string a) (.string b) = some (.string (a ++ b)) := by simp [binA, strA, h]

/-! ### What is kept -/
/-- The blocks that are there stay as they are. -/
structure Keeps (H0 H : AHeap) : Prop where
  n : H0.n ≤ H.n
  get : ∀ b, b < H0.n → H.get b = H0.get b
theorem Keeps.refl (H : AHeap) : Keeps H H := ⟨Nat.le_refl _, fun _ _ => rfl⟩
theorem Keeps.trans {A B C : AHeap} (h : Keeps A B) (k : Keeps B C) : Keeps A C := ⟨Nat.le_trans h.n k.n, fun b hb => (k.get b (Nat.lt_of_lt_of_le hb h.n)).trans (h.get b hb)⟩
theorem Keeps.alloc {A B : AHeap} (h : Keeps A B) (o : AO) : Keeps A (B.alloc o) := ⟨by rw [alloc_n]; have := h.n; omega, fun b hb => by
  rw [alloc_get, if_neg (by have := h.n; omega)]; exact h.get b hb⟩
theorem Keeps.set {A B : AHeap} (h : Keeps A B) {b : Nat} (hb : A.n ≤ b) (hb2 : b < B.n) (o : AO) : Keeps A (B.set b o) :=
  ⟨by rw [set_n]; exact h.n, fun x hx => by rw [AHeap.get_set_other B (by omega) hb2]; exact h.get x hx⟩
theorem Keeps.at_ {A B : AHeap} (h : Keeps A B) {b : Nat} {o : AO} (hb : A.get b = some o) : B.get b = some o := by rw [h.get b (AHeap.get_lt hb)]; exact hb

/-- No block that is there has changed, but those of a list. -/
structure Chg (S : List Nat) (H H' : AHeap) : Prop where
  n : H.n ≤ H'.n
  get : ∀ b, b < H.n → b ∉ S → H'.get b = H.get b
theorem Chg.refl (S : List Nat) (H : AHeap) : Chg S H H := ⟨Nat.le_refl _, fun _ _ _ => rfl⟩
theorem Keeps.chg {A B : AHeap} (h : Keeps A B) (S : List Nat) : Chg S A B := ⟨h.n, fun b hb _ => h.get b hb⟩
theorem Chg.trans {S T : List Nat} {A B C : AHeap} (h : Chg S A B) (k : Chg T B C) (hT : ∀ x ∈ T, x ∈ S ∨ A.n ≤ x) : Chg S A C :=
  ⟨Nat.le_trans h.n k.n, fun b hb hx => (k.get b (Nat.lt_of_lt_of_le hb h.n) (fun e => by rcases hT b e with h1 | h1; exact hx h1; omega)).trans (h.get b hb hx)⟩
theorem Chg.keeps {S : List Nat} {A B : AHeap} (h : Chg S A B) (hS : ∀ x ∈ S, A.n ≤ x) : Keeps A B := ⟨h.n, fun b hb => h.get b hb (fun e => by have := hS b e; omega)⟩
theorem Keeps.chg_trans {S : List Nat} {A B C : AHeap} (h : Keeps A B) (k : Chg S B C) (hS : ∀ x ∈ S, A.n ≤ x) : Keeps A C :=
  ⟨Nat.le_trans h.n k.n, fun b hb => (k.get b (Nat.lt_of_lt_of_le hb h.n) (fun e => by have := hS b e; omega)).trans (h.get b hb)⟩
theorem Chg.mono {S T : List Nat} {A B : AHeap} (h : Chg S A B) (hS : ∀ x ∈ S, x ∈ T) : Chg T A B := ⟨h.n, fun b hb hx => h.get b hb (fun e => hx (hS b e))⟩
theorem Chg.set (H : AHeap) {b : Nat} (hb : b < H.n) (o : AO) : Chg [b] H (H.set b o) := ⟨Nat.le_refl _, fun x hx hn => AHeap.get_set_other H (fun e => hn (by simp [e])) hb o⟩
theorem Chg.alloc {S : List Nat} {A B : AHeap} (h : Chg S A B) (o : AO) : Chg S A (B.alloc o) := h.trans ((Keeps.refl B).alloc o |>.chg []) (by simp)
theorem Chg.at_ {S : List Nat} {A B : AHeap} (h : Chg S A B) {b : Nat} {o : AO} (hb : A.get b = some o) (hS : b ∉ S) : B.get b = some o := by rw [h.get b (AHeap.get_lt hb) hS]; exact hb

/-- The block that a value leads to. -/
def blk : Value → Option Nat
  | .pointer (some a) => some a.block
  | .slice (some a) _ _ => some a.block
  | _ => none
def blkL (v : Value) : List Nat := (blk v).toList
theorem mem_blkL {v : Value} {b : Nat} : b ∈ blkL v ↔ blk v = some b := by unfold blkL; cases blk v <;> simp [eq_comm]
def Fresh (n : Nat) (v : Value) : Prop := ∀ b, blk v = some b → n ≤ b

/-- A slice that reads as bytes. -/
structure BS (H : AHeap) (v : Value) (l : List UInt8) : Prop where
  sh : ∃ a k, v = .slice a l.length k
  el : elemsA H 1 v = some (cellsOf l)
theorem BS.chg {H H' : AHeap} {v : Value} {l : List UInt8} {S : List Nat} (h : BS H v l) (k : Chg S H H') (hS : ∀ x ∈ blkL v, x ∉ S) : BS H' v l := by
  refine ⟨h.sh, ?_⟩
  have h2 := h.el
  obtain ⟨a, c, rfl⟩ := h.sh
  match a, h2 with
  | none, h2 => exact h2
  | some ⟨b, o, none⟩, h2 =>
    have hb := k.get b
    simp only [elemsA] at h2 ⊢
    cases hg : H.get b with
    | none => rw [hg] at h2; cases h2
    | some ob =>
      have := k.at_ hg (hS b (mem_blkL.2 rfl))
      rw [hg] at h2
      rw [this]; exact h2
  | some ⟨b, o, some _⟩, h2 => simpa [elemsA] using h2
/-- The bytes of such a slice, one by one. -/
theorem BS.split {H : AHeap} {v : Value} {l : List UInt8} (h : BS H v l) (hl : l ≠ []) : ∃ b o k, v = slc b o l.length k ∧ ∀ (i : Nat) (hi : i < l.length), cellA H b (o + i) = some (.int .u8 l[i].toNat) := by
  have h2 := h.el
  obtain ⟨a, c, rfl⟩ := h.sh
  match a, h2 with
  | none, h2 =>
    simp only [elemsA, Option.some.injEq] at h2
    have := congrArg List.length h2
    rw [cellsOf_length] at this
    exact absurd (List.length_eq_zero_iff.1 this.symm) hl
  | some ⟨b, o, none⟩, h2 =>
    refine ⟨b, o, c, rfl, fun i hi => ?_⟩
    simp only [elemsA] at h2
    unfold cellA
    split at h2
    · rename_i own room esz cc e hg
      split at h2
      · simp only [Option.some.injEq] at h2
        have h3 : ((cc.drop o).take (l.length * 1))[i]? = (cellsOf l)[i]? := by rw [h2]
        rw [List.getElem?_take_of_lt (by omega), List.getElem?_drop] at h3
        rw [h3]
        simp [cellsOf, hi]
      · cases h2
    · cases h2
  | some ⟨b, o, some _⟩, h2 => simp [elemsA] at h2; exact absurd h2.1 hl
theorem BS.keeps {H H' : AHeap} {v : Value} {l : List UInt8} (h : BS H v l) (k : Keeps H H') : BS H' v l := h.chg (k.chg []) (by simp)
theorem BS.nil (H : AHeap) : BS H (.slice none 0 0) [] := ⟨⟨_, _, rfl⟩, rfl⟩

/-- A slice of one's own, with all that its block holds: n elements, their cells. -/
def AP (H : AHeap) (e esz : Nat) (v : Value) (n : Nat) (c : List Value) : Prop :=
  (v = .slice none 0 0 ∧ n = 0 ∧ c = []) ∨ ∃ b room, v = slc b 0 n n ∧ c.length = n * esz ∧ H.get b = some (.cells true room esz c e)

theorem AP.elems {H : AHeap} {e esz : Nat} {v : Value} {n : Nat} {c : List Value} (h : AP H e esz v n c) : elemsA H esz v = some c := by
  rcases h with ⟨rfl, rfl, rfl⟩ | ⟨b, room, rfl, h1, h2⟩
  · rfl
  · simp only [elemsA, slc, h2]
    rw [if_pos (by omega), List.drop_zero, ← h1, List.take_length]
theorem AP.shape {H : AHeap} {e esz : Nat} {v : Value} {n : Nat} {c : List Value} (h : AP H e esz v n c) : ∃ a, v = .slice a n n := by
  rcases h with ⟨rfl, rfl, rfl⟩ | ⟨b, room, rfl, h1, h2⟩
  · exact ⟨_, rfl⟩
  · exact ⟨_, rfl⟩
theorem AP.bs {H : AHeap} {e : Nat} {v : Value} {n : Nat} {l : List UInt8} (h : AP H e 1 v n (cellsOf l)) : BS H v l := by
  have hn : n = l.length := by
    rcases h with ⟨_, rfl, h3⟩ | ⟨b, room, rfl, h1, h2⟩
    · have := congrArg List.length h3; rw [cellsOf_length] at this; simpa using this.symm
    · rw [cellsOf_length] at h1; omega
  obtain ⟨a, ha⟩ := h.shape
  exact ⟨⟨a, n, by rw [← hn]; exact ha⟩, h.elems⟩
theorem AP.chg {A B : AHeap} {S : List Nat} {e esz : Nat} {v : Value} {n : Nat} {c : List Value} (h : AP A e esz v n c) (k : Chg S A B) (hS : ∀ x ∈ blkL v, x ∉ S) : AP B e esz v n c := by
  rcases h with ⟨rfl, rfl, rfl⟩ | ⟨b, room, rfl, h1, h2⟩
  · exact .inl ⟨rfl, rfl, rfl⟩
  · exact .inr ⟨b, room, rfl, h1, k.at_ h2 (hS b (mem_blkL.2 rfl))⟩
theorem AP.lt {A : AHeap} {e esz : Nat} {v : Value} {n : Nat} {c : List Value} (h : AP A e esz v n c) {b : Nat} (hb : blk v = some b) : b < A.n := by
  rcases h with ⟨rfl, rfl, rfl⟩ | ⟨b', room, rfl, h1, h2⟩
  · cases hb
  · cases hb; exact AHeap.get_lt h2
theorem AP.keeps {A B : AHeap} {e esz : Nat} {v : Value} {n : Nat} {c : List Value} (h : AP A e esz v n c) (k : Keeps A B) : AP B e esz v n c := by
  rcases h with ⟨rfl, rfl, rfl⟩ | ⟨b, room, rfl, h1, h2⟩
  · exact .inl ⟨rfl, rfl, rfl⟩
  · exact .inr ⟨b, room, rfl, h1, k.at_ h2⟩

theorem AP.app {H : AHeap} {e esz bytes : Nat} {v : Value} {n m : Nat} {c news : List Value} (h : AP H e esz v n c) (hm : news.length = m * esz) (hs : (n + m) * bytes ≤ 140737488355328 ∧ n + m ≤ 140737488355328) :
    ∃ v' H', appA H e esz bytes v m news = some (v', H') ∧ AP H' e esz v' (n + m) (c ++ news) ∧ Chg (blkL v) H H' ∧ (blk v' = blk v ∨ blk v' = some H.n) := by
  rcases h with ⟨rfl, rfl, rfl⟩ | ⟨b, room, rfl, h1, h2⟩
  · simp only [appA]
    by_cases hm0 : m = 0
    · subst hm0
      have : news = [] := by rw [← List.length_eq_zero_iff]; omega
      subst this
      exact ⟨_, _, by simp, .inl ⟨rfl, rfl, rfl⟩, Chg.refl _ _, .inl rfl⟩
    · refine ⟨slc H.n 0 m m, H.alloc (.cells true true esz news e), by simp only [Nat.zero_add] at hs; simp [hm0, hs], .inr ⟨H.n, true, by simp, by simpa using hm, by simpa using AHeap.get_alloc_new H _⟩, (Chg.refl _ _).alloc _, .inr rfl⟩
  · simp only [appA, slc]
    by_cases hm0 : m = 0
    · subst hm0
      have : news = [] := by rw [← List.length_eq_zero_iff]; omega
      subst this
      rw [if_pos rfl]
      exact ⟨_, _, rfl, .inr ⟨b, room, rfl, by simpa using h1, by simpa using h2⟩, Chg.refl _ _, .inl rfl⟩
    · rw [if_neg hm0, if_pos hs]
      simp only [h2, true_and]
      rw [if_pos (show 0 + n * esz ≤ c.length by omega), if_neg (show ¬ n + m ≤ n by omega)]
      have hnew : (c.drop 0).take (n * esz) ++ news = c ++ news := by rw [List.drop_zero, ← h1, List.take_length]
      rw [hnew]
      have hlen : (c ++ news).length = (n + m) * esz := by rw [List.length_append, h1, hm, Nat.add_mul]
      split
      · refine ⟨_, _, rfl, .inr ⟨H.n, true, rfl, hlen, AHeap.get_alloc_new H _⟩, (Chg.refl _ _).alloc _, .inr rfl⟩
      · refine ⟨_, _, rfl, .inr ⟨H.n, true, rfl, hlen, AHeap.get_alloc_new (H.set b .dead) _⟩, (Chg.set H (AHeap.get_lt h2) _).alloc _, .inr rfl⟩

theorem s_appAP {K : Value → AHeap → Prop} {e esz bytes : Nat} {s x : Value} {n m : Nat} {c news : List Value} (h : AP H e esz s n c) (hx : ∃ a k, x = .slice a m k) (h1 : elemsA H esz x = some news) (hm : news.length = m * esz)
    (hs : (n + m) * bytes ≤ 140737488355328 ∧ n + m ≤ 140737488355328)
    (hk : ∀ v' H', AP H' e esz v' (n + m) (c ++ news) → Chg (blkL s) H H' → (blk v' = blk s ∨ blk v' = some H.n) → K v' H') : stepA P ng (.app e esz bytes s x) H K := by
  obtain ⟨a, k, rfl⟩ := hx
  obtain ⟨v', H', k1, k2, k3, k4⟩ := h.app (bytes := bytes) hm hs
  rw [s_app rfl h1 k1]
  exact hk v' H' k2 k3 k4
theorem Fresh.L {n : Nat} {v : Value} (h : Fresh n v) : ∀ x ∈ blkL v, n ≤ x := fun x hx => h x (mem_blkL.1 hx)
theorem Fresh.app {n : Nat} {s v' : Value} (h : Fresh n s) (hn : n ≤ H.n) (hv : blk v' = blk s ∨ blk v' = some H.n) : Fresh n v' := by
  intro b hb
  rcases hv with hv | hv
  · exact h b (by rw [← hv]; exact hb)
  · rw [hv] at hb; cases hb; exact hn
theorem RD_nil {tr : List TE} {KF : List Value → AHeap → Prop} : RD P ng [] fr tm H tr KF = KF fr H := _root_.id rfl
theorem RD_cons {tr : List TE} {KF : List Value → AHeap → Prop} (op : AOp AX) (d : D) (un : List Nat) (r : List (AOper × List Nat)) : RD P ng ((⟨op, d, none⟩, un) :: r) fr tm H tr KF =
    stepA P ng (op.map (AX.ev fr tm)) H fun v H' => oblA (clsA op) (touchA (op.map (AX.ev fr tm)) H) H H' tr un ∧ RD P ng r (d.frame v fr) (d.temps v tm) H' (tr ++ [⟨clsA op, touchA (op.map (AX.ev fr tm)) H, H, H'⟩]) KF := by
  simp only [RD, wantA, if_true]
theorem RD_consg {tr : List TE} {KF : List Value → AHeap → Prop} (op : AOp AX) (d : D) (x : AX) (b : Bool) (un : List Nat) (r : List (AOper × List Nat)) : RD P ng ((⟨op, d, some (x, b)⟩, un) :: r) fr tm H tr KF =
    if wantA (some (x, b)) fr tm then
    stepA P ng (op.map (AX.ev fr tm)) H fun v H' => oblA (clsA op) (touchA (op.map (AX.ev fr tm)) H) H H' tr un ∧ RD P ng r (d.frame v fr) (d.temps v tm) H' (tr ++ [⟨clsA op, touchA (op.map (AX.ev fr tm)) H, H, H'⟩]) KF
    else RD P ng r (d.frame undef fr) (d.temps undef tm) H (tr ++ [⟨9, [], H, H⟩]) KF := by
  simp only [RD]
theorem obl_nil (k : Nat) (bs : List Nat) (A B : AHeap) (tr : List TE) : oblA k bs A B tr [] = True := _root_.id rfl
theorem cellA_of {b o : Nat} {own room : Bool} {esz e : Nat} {c : List Value} (h : H.get b = some (.cells own room esz c e)) : cellA H b o = c[o]? := by simp only [cellA, h]
theorem rangeA_of {b o n : Nat} {own room : Bool} {esz e : Nat} {c : List Value} (h : H.get b = some (.cells own room esz c e)) : rangeA H b o n = if o + n ≤ c.length then some ((c.drop o).take n) else none := by simp only [rangeA, h]
theorem resO0 (fr : List Value) : resO [] fr H = some (.tuple #[]) := _root_.id rfl
theorem resO1 (i : Nat) (fr : List Value) : resO [.t i] fr H = some (fr.getD i undef) := _root_.id rfl
theorem resO2 (i j : Nat) (fr : List Value) : resO [.t i, .t j] fr H = some (.tuple #[fr.getD i undef, fr.getD j undef]) := _root_.id rfl
theorem resO3 (i j k : Nat) (fr : List Value) : resO [.t i, .t j, .t k] fr H = some (.tuple #[fr.getD i undef, fr.getD j undef, fr.getD k undef]) := _root_.id rfl
/-! slice expressions -/
theorem s_slsl_nil {esz : Nat} {lo hi mx : Option Value} {K : Value → AHeap → Prop} (h : ∃ m hh l, bndA mx 0 0 = some m ∧ bndA hi 0 m = some hh ∧ bndA lo 0 hh = some l) : stepA P ng (.slsl esz (.slice none 0 0) lo hi mx) H K = K (.slice none 0 0) H := by
  obtain ⟨m, hh, l, h1, h2, h3⟩ := h
  exact stepS (by simp only [asem, h1, h2, h3])
theorem s_slsl {esz b o n k m hh l e : Nat} {own room : Bool} {c : List Value} {lo hi mx : Option Value} {K : Value → AHeap → Prop} (hb : H.get b = some (.cells own room esz c e)) (h1 : bndA mx k k = some m) (h2 : bndA hi n m = some hh) (h3 : bndA lo 0 hh = some l) :
    stepA P ng (.slsl esz (slc b o n k) lo hi mx) H K = K (slc b (o + l * esz) (hh - l) (m - l)) H :=
  stepS (by simp only [asem, slc, h1, h2, h3, hb, true_or, if_true])
theorem bnd_none (d t : Nat) : bndA none d t = some d := _root_.id rfl
theorem bnd_some (k : IntKind) (i d t : Nat) (h : i ≤ t) : bndA (some (.int k (i : Int))) d t = some i := by
  simp only [bndA]
  rw [if_pos (by omega)]
  simp

theorem e_sn (n k n' k' : Nat) : eqA 2 (.slice none n k) (.slice none n' k') = some true := _root_.id rfl
theorem e_ss (a : Addr) (n k n' k' : Nat) : eqA 2 (.slice (some a) n k) (.slice none n' k') = some false := _root_.id rfl
theorem e_pn : eqA 1 (.pointer none) (.pointer none) = some true := _root_.id rfl
theorem e_ps (b o : Nat) : eqA 1 (ptr b o) (.pointer none) = some false := _root_.id rfl
theorem e_bb (a b : Bool) : eqA 0 (.bool a) (.bool b) = some (a == b) := _root_.id rfl
theorem fill0 (c : List Value) : fillA c [] = some c := _root_.id rfl
theorem fill1 (z : Value) (k : IntKind) (n : Int) : fillA [z] [(0, 1, .int k n)] = some [.int k n] := by simp [fillA, Value.cells]
theorem elems_own {H : AHeap} {b : Nat} {own room : Bool} {esz e n k : Nat} {c : List Value} (h : H.get b = some (.cells own room esz c e)) (hn : c.length = n * esz) : elemsA H esz (slc b 0 n k) = some c := by
  simp only [elemsA, slc, h]
  rw [if_pos (by omega), List.drop_zero, ← hn, List.take_length]

end
end Go.AM
