/- Part of the proof. -/
import Derived.Test.YtlmikadohcdclaaGBytes01
import Derived.Test.YtlmikadohcdclaaProg
import Derived.KernelRfl
set_option linter.unusedSimpArgs false
set_option linter.unusedVariables false
set_option linter.unusedSimpArgs false
set_option linter.unusedVariables false
namespace Go.AM
section
variable {P : Program} {ng : Nat} {H : AHeap} {Q : AQ} {fr tm : List Value}
theorem W_skip : W P ng .skip Q fr H = Q .normal fr H := _root_.id rfl
theorem W_reg (l : List AOper) : W P ng (.reg l) Q fr H = RW P ng l fr [] H (Q .normal) := _root_.id rfl
theorem W_dreg (l : List (AOper × List Nat)) : W P ng (.dreg l) Q fr H = RD P ng l fr [] H [] (Q .normal) := _root_.id rfl
theorem W_seq (a b : ACode) : W P ng (.seq a b) Q fr H = W P ng a (Q.andThen (W P ng b Q)) fr H := _root_.id rfl
theorem W_cond (c : AX) (t e : ACode) : W P ng (.cond c t e) Q fr H = match c.ev fr [] with
    | .bool b => if b then W P ng t Q fr H else W P ng e Q fr H
    | _ => False := rfl
theorem W_block (id : Nat) (c : ACode) : W P ng (.block id c) Q fr H = W P ng c (Q.inBlock id) fr H := _root_.id rfl
theorem W_exit (id : Nat) : W P ng (.exit id) Q fr H = Q (.exit id) fr H := _root_.id rfl
theorem W_ret : W P ng .ret Q fr H = Q .ret fr H := _root_.id rfl
theorem W_loop {c : ACode} (I : Nat → List Value → AHeap → Prop) (n : Nat) (h0 : I n fr H) (hs : ∀ k fr H, I k fr H → W P ng c (Q.andThen fun fr H => ∃ k', k' < k ∧ I k' fr H) fr H) : W P ng (.loop c) Q fr H :=
  ⟨I, n, h0, hs⟩
theorem getD_nil' (n : Nat) : ([] : List Value).getD n undef = undef := _root_.id rfl
def argsOK (P : Program) (f n : Nat) : Bool := match P.funcs[f]? with
  | some fn => decide (n ≤ fn.ntmps)
  | none => true
theorem walk {f : Nat} {sl : List Nat} {af : AFunc} (hc : compF P ng sl f = some af) {args : List Value} {R : Value → AHeap → Prop} (hargs : argsOK P f args.length = true)
    (h : W P ng af.body (fun e fr H2 => match e with | .normal | .ret => ∃ v, resO af.res fr H2 = some v ∧ R v H2 | _ => False) (initFr af.sl args) H) : ∃ v H', ARun P ng f args H v H' ∧ R v H' :=
  run_of hc (fun fn hf => by unfold argsOK at hargs; rw [hf] at hargs; simpa using hargs) h
theorem wrap_i64 {n : Int} (h1 : -9223372036854775808 ≤ n) (h2 : n ≤ 9223372036854775807) : IntKind.i64.wrap n = n := by
  simp only [IntKind.wrap, IntKind.bits, IntKind.signed]
  simp
  split <;> omega
theorem wrap_u8 (n : Int) : IntKind.u8.wrap n = n % 256 := by simp [IntKind.wrap, IntKind.bits, IntKind.signed]
theorem wrap_u16 (n : Int) : IntKind.u16.wrap n = n % 65536 := by simp [IntKind.wrap, IntKind.bits, IntKind.signed]
theorem wrap_u32 (n : Int) : IntKind.u32.wrap n = n % 4294967296 := by simp [IntKind.wrap, IntKind.bits, IntKind.signed]
theorem wrap_u64 (n : Int) : IntKind.u64.wrap n = n % 18446744073709551616 := by simp [IntKind.wrap, IntKind.bits, IntKind.signed]
variable (k : IntKind) (a b : Int)
theorem b_add : binA .add (.int k a) (.int k b) = some (.int k (k.wrap (a + b))) := by simp [binA, intA]
theorem b_sub : binA .sub (.int k a) (.int k b) = some (.int k (k.wrap (a - b))) := by simp [binA, intA]
theorem b_mul : binA .mul (.int k a) (.int k b) = some (.int k (k.wrap (a * b))) := by simp [binA, intA]
theorem b_eql : binA .eql (.int k a) (.int k b) = some (.bool (a == b)) := by simp [binA, intA]
theorem b_neq : binA .neq (.int k a) (.int k b) = some (.bool (a != b)) := by simp [binA, intA]
theorem b_lss : binA .lss (.int k a) (.int k b) = some (.bool (decide (a < b))) := by simp [binA, intA]
theorem b_leq : binA .leq (.int k a) (.int k b) = some (.bool (decide (a ≤ b))) := by simp [binA, intA]
theorem b_gtr : binA .gtr (.int k a) (.int k b) = some (.bool (decide (b < a))) := by simp [binA, intA]
theorem b_geq : binA .geq (.int k a) (.int k b) = some (.bool (decide (b ≤ a))) := by simp [binA, intA]
theorem b_and : binA .and (.int k a) (.int k b) = some (.int k (k.wrap (BitVec.ofInt k.bits a &&& BitVec.ofInt k.bits b).toNat)) := by simp [binA, intA]
theorem b_or : binA .or (.int k a) (.int k b) = some (.int k (k.wrap (BitVec.ofInt k.bits a ||| BitVec.ofInt k.bits b).toNat)) := by simp [binA, intA]
theorem b_xor : binA .xor (.int k a) (.int k b) = some (.int k (k.wrap (BitVec.ofInt k.bits a ^^^ BitVec.ofInt k.bits b).toNat)) := by simp [binA, intA]
theorem b_shl (k' : IntKind) (h : 0 ≤ b) : binA .shl (.int k a) (.int k' b) = some (.int k (k.wrap (a * 2 ^ (min b.toNat k.bits)))) := by simp [binA, h]
theorem b_shr (k' : IntKind) (h : 0 ≤ b) : binA .shr (.int k a) (.int k' b) = some (.int k (a.fdiv (2 ^ (min b.toNat k.bits)))) := by simp [binA, h]
theorem b_seql (a b : ByteArray) : binA .eql (.string a) (.string b) = some (.bool (decide (a = b))) := by simp [binA, strA]
theorem b_sneq (a b : ByteArray) : binA .neq (.string a) (.string b) = some (.bool (!decide (a = b))) := by simp [binA, strA]
theorem b_slss (a b : ByteArray) : binA .lss (.string a) (.string b) = some (.bool (Op.bytesLess a.data.toList b.data.toList)) := by simp [binA, strA]
structure Keeps (H0 H : AHeap) : Prop where
  n : H0.n ≤ H.n
  get : ∀ b, b < H0.n → H.get b = H0.get b
theorem Keeps.refl (H : AHeap) : Keeps H H := ⟨Nat.le_refl _, fun _ _ => rfl⟩
theorem Keeps.trans {A B C : AHeap} (h : Keeps A B) (k : Keeps B C) : Keeps A C := ⟨Nat.le_trans h.n k.n, fun b hb => (k.get b (Nat.lt_of_lt_of_le hb h.n)).trans (h.get b hb)⟩
theorem Keeps.alloc {A B : AHeap} (h : Keeps A B) (o : AO) : Keeps A (B.alloc o) := ⟨by rw [alloc_n]; have := h.n; omega, fun b hb => by
  rw [alloc_get, if_neg (by have := h.n; omega)]; exact h.get b hb⟩
theorem Keeps.set {A B : AHeap} (h : Keeps A B) {b : Nat} (hb : A.n ≤ b) (hb2 : b < B.n) (o : AO) : Keeps A (B.set b o) :=
  ⟨by rw [set_n]; exact h.n, fun x hx => by rw [AHeap.get_set_other B (by omega) hb2]; exact h.get x hx⟩
theorem Keeps.at_ {A B : AHeap} (h : Keeps A B) {b : Nat} {o : AO} (hb : A.get b = some o) : B.get b = some o := by rw [h.get b (AHeap.get_lt hb)]; exact hb
structure Chg (S : List Nat) (H H' : AHeap) : Prop where
  n : H.n ≤ H'.n
  get : ∀ b, b < H.n → b ∉ S → H'.get b = H.get b
theorem Chg.refl (S : List Nat) (H : AHeap) : Chg S H H := ⟨Nat.le_refl _, fun _ _ _ => rfl⟩
theorem Keeps.chg {A B : AHeap} (h : Keeps A B) (S : List Nat) : Chg S A B := ⟨h.n, fun b hb _ => h.get b hb⟩
theorem Chg.trans {S T : List Nat} {A B C : AHeap} (h : Chg S A B) (k : Chg T B C) (hT : ∀ x ∈ T, x ∈ S ∨ A.n ≤ x) : Chg S A C :=
  ⟨Nat.le_trans h.n k.n, fun b hb hx => (k.get b (Nat.lt_of_lt_of_le hb h.n) (fun e => by rcases hT b e with h1 | h1; exact hx h1; omega)).trans (h.get b hb hx)⟩
theorem Chg.keeps {S : List Nat} {A B : AHeap} (h : Chg S A B) (hS : ∀ x ∈ S, A.n ≤ x) : Keeps A B := ⟨h.n, fun b hb => h.get b hb (fun e => by have := hS b e; omega)⟩
theorem Keeps.chg_trans {S : List Nat} {A B C : AHeap} (h : Keeps A B) (k : Chg S B C) (hS : ∀ x ∈ S, A.n ≤ x) : Keeps A C :=
  ⟨Nat.le_trans h.n k.n, fun b hb => (k.get b (Nat.lt_of_lt_of_le hb h.n) (fun e => by have := hS b e; omega)).trans (h.get b hb)⟩
theorem Chg.mono {S T : List Nat} {A B : AHeap} (h : Chg S A B) (hS : ∀ x ∈ S, x ∈ T) : Chg T A B := ⟨h.n, fun b hb hx => h.get b hb (fun e => hx (hS b e))⟩
theorem Chg.set (H : AHeap) {b : Nat} (hb : b < H.n) (o : AO) : Chg [b] H (H.set b o) := ⟨Nat.le_refl _, fun x hx hn => AHeap.get_set_other H (fun e => hn (by simp [e])) hb o⟩
theorem Chg.alloc {S : List Nat} {A B : AHeap} (h : Chg S A B) (o : AO) : Chg S A (B.alloc o) := h.trans ((Keeps.refl B).alloc o |>.chg []) (by simp)
theorem Chg.at_ {S : List Nat} {A B : AHeap} (h : Chg S A B) {b : Nat} {o : AO} (hb : A.get b = some o) (hS : b ∉ S) : B.get b = some o := by rw [h.get b (AHeap.get_lt hb) hS]; exact hb
def blk : Value → Option Nat
  | .pointer (some a) => some a.block
  | .slice (some a) _ _ => some a.block
  | _ => none
def blkL (v : Value) : List Nat := (blk v).toList
theorem mem_blkL {v : Value} {b : Nat} : b ∈ blkL v ↔ blk v = some b := by unfold blkL; cases blk v <;> simp [eq_comm]
def Fresh (n : Nat) (v : Value) : Prop := ∀ b, blk v = some b → n ≤ b
structure BS (H : AHeap) (v : Value) (l : List UInt8) : Prop where
  sh : ∃ a k, v = .slice a l.length k
  el : elemsA H 1 v = some (cellsOf l)
theorem BS.chg {H H' : AHeap} {v : Value} {l : List UInt8} {S : List Nat} (h : BS H v l) (k : Chg S H H') (hS : ∀ x ∈ blkL v, x ∉ S) : BS H' v l := by
  refine ⟨h.sh, ?_⟩
  have h2 := h.el
  obtain ⟨a, c, rfl⟩ := h.sh
  match a, h2 with
  | none, h2 => exact h2
  | some ⟨b, o, none⟩, h2 =>
    have hb := k.get b
    simp only [elemsA] at h2 ⊢
    cases hg : H.get b with
    | none => rw [hg] at h2; cases h2
    | some ob =>
      have := k.at_ hg (hS b (mem_blkL.2 rfl))
      rw [hg] at h2
      rw [this]; exact h2
  | some ⟨b, o, some _⟩, h2 => simpa [elemsA] using h2
theorem BS.split {H : AHeap} {v : Value} {l : List UInt8} (h : BS H v l) (hl : l ≠ []) : ∃ b o k, v = slc b o l.length k ∧ ∀ (i : Nat) (hi : i < l.length), cellA H b (o + i) = some (.int .u8 l[i].toNat) := by
  have h2 := h.el
  obtain ⟨a, c, rfl⟩ := h.sh
  match a, h2 with
  | none, h2 =>
    simp only [elemsA, Option.some.injEq] at h2
    have := congrArg List.length h2
    rw [cellsOf_length] at this
    exact absurd (List.length_eq_zero_iff.1 this.symm) hl
  | some ⟨b, o, none⟩, h2 =>
    refine ⟨b, o, c, rfl, fun i hi => ?_⟩
    simp only [elemsA] at h2
    unfold cellA
    split at h2
    · rename_i own room esz cc e hg
      split at h2
      · simp only [Option.some.injEq] at h2
        have h3 : ((cc.drop o).take (l.length * 1))[i]? = (cellsOf l)[i]? := by rw [h2]
        rw [List.getElem?_take_of_lt (by omega), List.getElem?_drop] at h3
        rw [h3]
        simp [cellsOf, hi]
      · cases h2
    · cases h2
  | some ⟨b, o, some _⟩, h2 => simp [elemsA] at h2; exact absurd h2.1 hl
theorem BS.keeps {H H' : AHeap} {v : Value} {l : List UInt8} (h : BS H v l) (k : Keeps H H') : BS H' v l := h.chg (k.chg []) (by simp)
theorem BS.nil (H : AHeap) : BS H (.slice none 0 0) [] := ⟨⟨_, _, rfl⟩, rfl⟩
def AP (H : AHeap) (e esz : Nat) (v : Value) (n : Nat) (c : List Value) : Prop :=
  (v = .slice none 0 0 ∧ n = 0 ∧ c = []) ∨ ∃ b room, v = slc b 0 n n ∧ c.length = n * esz ∧ H.get b = some (.cells true room esz c e)
theorem AP.elems {H : AHeap} {e esz : Nat} {v : Value} {n : Nat} {c : List Value} (h : AP H e esz v n c) : elemsA H esz v = some c := by
  rcases h with ⟨rfl, rfl, rfl⟩ | ⟨b, room, rfl, h1, h2⟩
  · rfl
  · simp only [elemsA, slc, h2]
    rw [if_pos (by omega), List.drop_zero, ← h1, List.take_length]
theorem AP.shape {H : AHeap} {e esz : Nat} {v : Value} {n : Nat} {c : List Value} (h : AP H e esz v n c) : ∃ a, v = .slice a n n := by
  rcases h with ⟨rfl, rfl, rfl⟩ | ⟨b, room, rfl, h1, h2⟩
  · exact ⟨_, rfl⟩
  · exact ⟨_, rfl⟩
theorem AP.bs {H : AHeap} {e : Nat} {v : Value} {n : Nat} {l : List UInt8} (h : AP H e 1 v n (cellsOf l)) : BS H v l := by
  have hn : n = l.length := by
    rcases h with ⟨_, rfl, h3⟩ | ⟨b, room, rfl, h1, h2⟩
    · have := congrArg List.length h3; rw [cellsOf_length] at this; simpa using this.symm
    · rw [cellsOf_length] at h1; omega
  obtain ⟨a, ha⟩ := h.shape
  exact ⟨⟨a, n, by rw [← hn]; exact ha⟩, h.elems⟩
theorem AP.chg {A B : AHeap} {S : List Nat} {e esz : Nat} {v : Value} {n : Nat} {c : List Value} (h : AP A e esz v n c) (k : Chg S A B) (hS : ∀ x ∈ blkL v, x ∉ S) : AP B e esz v n c := by
  rcases h with ⟨rfl, rfl, rfl⟩ | ⟨b, room, rfl, h1, h2⟩
  · exact .inl ⟨rfl, rfl, rfl⟩
  · exact .inr ⟨b, room, rfl, h1, k.at_ h2 (hS b (mem_blkL.2 rfl))⟩
theorem AP.lt {A : AHeap} {e esz : Nat} {v : Value} {n : Nat} {c : List Value} (h : AP A e esz v n c) {b : Nat} (hb : blk v = some b) : b < A.n := by
  rcases h with ⟨rfl, rfl, rfl⟩ | ⟨b', room, rfl, h1, h2⟩
  · cases hb
  · cases hb; exact AHeap.get_lt h2
theorem AP.keeps {A B : AHeap} {e esz : Nat} {v : Value} {n : Nat} {c : List Value} (h : AP A e esz v n c) (k : Keeps A B) : AP B e esz v n c := by
  rcases h with ⟨rfl, rfl, rfl⟩ | ⟨b, room, rfl, h1, h2⟩
  · exact .inl ⟨rfl, rfl, rfl⟩
  · exact .inr ⟨b, room, rfl, h1, k.at_ h2⟩
theorem AP.app {H : AHeap} {e esz bytes : Nat} {v : Value} {n m : Nat} {c news : List Value} (h : AP H e esz v n c) (hm : news.length = m * esz) (hs : (n + m) * bytes ≤ 140737488355328 ∧ n + m ≤ 140737488355328) :
    ∃ v' H', appA H e esz bytes v m news = some (v', H') ∧ AP H' e esz v' (n + m) (c ++ news) ∧ Chg (blkL v) H H' ∧ (blk v' = blk v ∨ blk v' = some H.n) := by
  rcases h with ⟨rfl, rfl, rfl⟩ | ⟨b, room, rfl, h1, h2⟩
  · simp only [appA]
    by_cases hm0 : m = 0
    · subst hm0
      have : news = [] := by rw [← List.length_eq_zero_iff]; omega
      subst this
      exact ⟨_, _, by simp, .inl ⟨rfl, rfl, rfl⟩, Chg.refl _ _, .inl rfl⟩
    · refine ⟨slc H.n 0 m m, H.alloc (.cells true true esz news e), by simp only [Nat.zero_add] at hs; simp [hm0, hs], .inr ⟨H.n, true, by simp, by simpa using hm, by simpa using AHeap.get_alloc_new H _⟩, (Chg.refl _ _).alloc _, .inr rfl⟩
  · simp only [appA, slc]
    by_cases hm0 : m = 0
    · subst hm0
      have : news = [] := by rw [← List.length_eq_zero_iff]; omega
      subst this
      rw [if_pos rfl]
      exact ⟨_, _, rfl, .inr ⟨b, room, rfl, by simpa using h1, by simpa using h2⟩, Chg.refl _ _, .inl rfl⟩
    · rw [if_neg hm0, if_pos hs]
      simp only [h2, true_and]
      rw [if_pos (show 0 + n * esz ≤ c.length by omega), if_neg (show ¬ n + m ≤ n by omega)]
      have hnew : (c.drop 0).take (n * esz) ++ news = c ++ news := by rw [List.drop_zero, ← h1, List.take_length]
      rw [hnew]
      have hlen : (c ++ news).length = (n + m) * esz := by rw [List.length_append, h1, hm, Nat.add_mul]
      split
      · refine ⟨_, _, rfl, .inr ⟨H.n, true, rfl, hlen, AHeap.get_alloc_new H _⟩, (Chg.refl _ _).alloc _, .inr rfl⟩
      · refine ⟨_, _, rfl, .inr ⟨H.n, true, rfl, hlen, AHeap.get_alloc_new (H.set b .dead) _⟩, (Chg.set H (AHeap.get_lt h2) _).alloc _, .inr rfl⟩
theorem s_appAP {K : Value → AHeap → Prop} {e esz bytes : Nat} {s x : Value} {n m : Nat} {c news : List Value} (h : AP H e esz s n c) (hx : ∃ a k, x = .slice a m k) (h1 : elemsA H esz x = some news) (hm : news.length = m * esz)
    (hs : (n + m) * bytes ≤ 140737488355328 ∧ n + m ≤ 140737488355328)
    (hk : ∀ v' H', AP H' e esz v' (n + m) (c ++ news) → Chg (blkL s) H H' → (blk v' = blk s ∨ blk v' = some H.n) → K v' H') : stepA P ng (.app e esz bytes s x) H K := by
  obtain ⟨a, k, rfl⟩ := hx
  obtain ⟨v', H', k1, k2, k3, k4⟩ := h.app (bytes := bytes) hm hs
  rw [s_app rfl h1 k1]
  exact hk v' H' k2 k3 k4
theorem Fresh.L {n : Nat} {v : Value} (h : Fresh n v) : ∀ x ∈ blkL v, n ≤ x := fun x hx => h x (mem_blkL.1 hx)
theorem Fresh.app {n : Nat} {s v' : Value} (h : Fresh n s) (hn : n ≤ H.n) (hv : blk v' = blk s ∨ blk v' = some H.n) : Fresh n v' := by
  intro b hb
  rcases hv with hv | hv
  · exact h b (by rw [← hv]; exact hb)
  · rw [hv] at hb; cases hb; exact hn
theorem RD_nil {tr : List TE} {KF : List Value → AHeap → Prop} : RD P ng [] fr tm H tr KF = KF fr H := _root_.id rfl
theorem RD_cons {tr : List TE} {KF : List Value → AHeap → Prop} (op : AOp AX) (d : D) (un : List Nat) (r : List (AOper × List Nat)) : RD P ng ((⟨op, d, none⟩, un) :: r) fr tm H tr KF =
    stepA P ng (op.map (AX.ev fr tm)) H fun v H' => oblA (clsA op) (touchA (op.map (AX.ev fr tm)) H) H H' tr un ∧ RD P ng r (d.frame v fr) (d.temps v tm) H' (tr ++ [⟨clsA op, touchA (op.map (AX.ev fr tm)) H, H, H'⟩]) KF := by
  simp only [RD, wantA, if_true]
theorem RD_consg {tr : List TE} {KF : List Value → AHeap → Prop} (op : AOp AX) (d : D) (x : AX) (b : Bool) (un : List Nat) (r : List (AOper × List Nat)) : RD P ng ((⟨op, d, some (x, b)⟩, un) :: r) fr tm H tr KF =
    if wantA (some (x, b)) fr tm then
    stepA P ng (op.map (AX.ev fr tm)) H fun v H' => oblA (clsA op) (touchA (op.map (AX.ev fr tm)) H) H H' tr un ∧ RD P ng r (d.frame v fr) (d.temps v tm) H' (tr ++ [⟨clsA op, touchA (op.map (AX.ev fr tm)) H, H, H'⟩]) KF
    else RD P ng r (d.frame undef fr) (d.temps undef tm) H (tr ++ [⟨9, [], H, H⟩]) KF := by
  simp only [RD]
theorem obl_nil (k : Nat) (bs : List Nat) (A B : AHeap) (tr : List TE) : oblA k bs A B tr [] = True := _root_.id rfl
theorem cellA_of {b o : Nat} {own room : Bool} {esz e : Nat} {c : List Value} (h : H.get b = some (.cells own room esz c e)) : cellA H b o = c[o]? := by simp only [cellA, h]
theorem rangeA_of {b o n : Nat} {own room : Bool} {esz e : Nat} {c : List Value} (h : H.get b = some (.cells own room esz c e)) : rangeA H b o n = if o + n ≤ c.length then some ((c.drop o).take n) else none := by simp only [rangeA, h]
theorem resO0 (fr : List Value) : resO [] fr H = some (.tuple #[]) := _root_.id rfl
theorem resO1 (i : Nat) (fr : List Value) : resO [.t i] fr H = some (fr.getD i undef) := _root_.id rfl
theorem resO2 (i j : Nat) (fr : List Value) : resO [.t i, .t j] fr H = some (.tuple #[fr.getD i undef, fr.getD j undef]) := _root_.id rfl
theorem resO3 (i j k : Nat) (fr : List Value) : resO [.t i, .t j, .t k] fr H = some (.tuple #[fr.getD i undef, fr.getD j undef, fr.getD k undef]) := _root_.id rfl
theorem bnd_none (d t : Nat) : bndA none d t = some d := _root_.id rfl
theorem bnd_some (k : IntKind) (i d t : Nat) (h : i ≤ t) : bndA (some (.int k (i : Int))) d t = some i := by
  simp only [bndA]
  rw [if_pos (by omega)]
  simp
theorem e_sn (n k n' k' : Nat) : eqA 2 (.slice none n k) (.slice none n' k') = some true := _root_.id rfl
theorem e_ss (a : Addr) (n k n' k' : Nat) : eqA 2 (.slice (some a) n k) (.slice none n' k') = some false := _root_.id rfl
theorem e_pn : eqA 1 (.pointer none) (.pointer none) = some true := _root_.id rfl
theorem e_ps (b o : Nat) : eqA 1 (ptr b o) (.pointer none) = some false := _root_.id rfl
theorem e_bb (a b : Bool) : eqA 0 (.bool a) (.bool b) = some (a == b) := _root_.id rfl
theorem fill0 (c : List Value) : fillA c [] = some c := _root_.id rfl
theorem fill1 (z : Value) (k : IntKind) (n : Int) : fillA [z] [(0, 1, .int k n)] = some [.int k n] := by simp [fillA, Value.cells]
theorem elems_own {H : AHeap} {b : Nat} {own room : Bool} {esz e n k : Nat} {c : List Value} (h : H.get b = some (.cells own room esz c e)) (hn : c.length = n * esz) : elemsA H esz (slc b 0 n k) = some c := by
  simp only [elemsA, slc, h]
  rw [if_pos (by omega), List.drop_zero, ← hn, List.take_length]
end
end Go.AM

set_option maxRecDepth 100000
namespace Go.AM.F
def Z78 : List Value := [(.int .u8 0), (.int .i64 0), (.int .i64 0), (.int .i64 0), (.int .i64 0), (.int .u64 0), (.int .u64 0), (.int .u64 0), (.int .u8 0), (.int .u8 0), (.int .u8 0), (.int .u8 0), (.int .u8 0), (.int .u8 0), (.int .u8 0), (.int .u8 0), (.int .u8 0), (.int .u8 0), (.int .u8 0), (.int .u8 0), (.int .u8 0), (.int .u8 0), (.int .u8 0), (.int .u8 0), (.int .u8 0), (.int .u8 0), (.int .u8 0), (.int .u8 0), (.int .u8 0), (.int .u8 0), (.int .u8 0), (.int .u8 0), (.int .u8 0), (.int .u8 0), (.int .u8 0), (.int .u8 0), (.int .u8 0), (.int .u8 0), (.int .u8 0), (.int .u8 0), (.int .u8 0), (.int .u8 0), (.int .u8 0), (.int .u8 0), (.int .u8 0), (.int .u8 0), (.int .u8 0), (.int .u8 0), (.int .u8 0), (.int .u8 0), (.int .u8 0), (.int .u8 0), (.int .u8 0), (.int .u8 0), (.int .u8 0), (.int .u8 0), (.int .u8 0), (.int .u8 0), (.int .u8 0), (.int .u8 0), (.int .u8 0), (.int .u8 0), (.int .u8 0), (.int .u8 0), (.int .u8 0), (.int .u8 0), (.int .u8 0), (.int .u8 0), (.int .u8 0), (.int .u8 0), (.int .u8 0), (.int .u8 0), (.int .u32 0), (.int .u64 0), (.int .u64 0), (.int .u64 0), (.int .u32 0), (.slice none 0 0)]
def Z68 : List Value := [(.int .u64 0), (.int .u64 0), (.int .u64 0), (.int .u8 0), (.int .u8 0), (.int .u8 0), (.int .u8 0), (.int .u8 0), (.int .u8 0), (.int .u8 0), (.int .u8 0), (.int .u8 0), (.int .u8 0), (.int .u8 0), (.int .u8 0), (.int .u8 0), (.int .u8 0), (.int .u8 0), (.int .u8 0), (.int .u8 0), (.int .u8 0), (.int .u8 0), (.int .u8 0), (.int .u8 0), (.int .u8 0), (.int .u8 0), (.int .u8 0), (.int .u8 0), (.int .u8 0), (.int .u8 0), (.int .u8 0), (.int .u8 0), (.int .u8 0), (.int .u8 0), (.int .u8 0), (.int .u8 0), (.int .u8 0), (.int .u8 0), (.int .u8 0), (.int .u8 0), (.int .u8 0), (.int .u8 0), (.int .u8 0), (.int .u8 0), (.int .u8 0), (.int .u8 0), (.int .u8 0), (.int .u8 0), (.int .u8 0), (.int .u8 0), (.int .u8 0), (.int .u8 0), (.int .u8 0), (.int .u8 0), (.int .u8 0), (.int .u8 0), (.int .u8 0), (.int .u8 0), (.int .u8 0), (.int .u8 0), (.int .u8 0), (.int .u8 0), (.int .u8 0), (.int .u8 0), (.int .u8 0), (.int .u8 0), (.int .u8 0), (.int .u32 0)]
def Z70 : List Value := [(.int .i64 0), (.int .i64 0), (.int .u64 0), (.int .u64 0), (.int .u64 0), (.int .u8 0), (.int .u8 0), (.int .u8 0), (.int .u8 0), (.int .u8 0), (.int .u8 0), (.int .u8 0), (.int .u8 0), (.int .u8 0), (.int .u8 0), (.int .u8 0), (.int .u8 0), (.int .u8 0), (.int .u8 0), (.int .u8 0), (.int .u8 0), (.int .u8 0), (.int .u8 0), (.int .u8 0), (.int .u8 0), (.int .u8 0), (.int .u8 0), (.int .u8 0), (.int .u8 0), (.int .u8 0), (.int .u8 0), (.int .u8 0), (.int .u8 0), (.int .u8 0), (.int .u8 0), (.int .u8 0), (.int .u8 0), (.int .u8 0), (.int .u8 0), (.int .u8 0), (.int .u8 0), (.int .u8 0), (.int .u8 0), (.int .u8 0), (.int .u8 0), (.int .u8 0), (.int .u8 0), (.int .u8 0), (.int .u8 0), (.int .u8 0), (.int .u8 0), (.int .u8 0), (.int .u8 0), (.int .u8 0), (.int .u8 0), (.int .u8 0), (.int .u8 0), (.int .u8 0), (.int .u8 0), (.int .u8 0), (.int .u8 0), (.int .u8 0), (.int .u8 0), (.int .u8 0), (.int .u8 0), (.int .u8 0), (.int .u8 0), (.int .u8 0), (.int .u8 0), (.int .u32 0)]
def f6 : AFunc := ⟨[0, 1, 2, 4, 5, 6, 7, 8, 9, 10, 11, 12, 13, 14, 24, 75, 84],
 .seq (.reg [
 ⟨.box 41 78 (.fr 0), .fr 2, none⟩,
 ⟨.mov (.c (.bool false)), .fr 3, none⟩]) <|
 .seq (.seq (.reg [
 ⟨.faddr 73 (.fr 2), .tm, none⟩,
 ⟨.faddr 4 (.tm 0), .tm, none⟩,
 ⟨.load1 (.tm 0), .tm, none⟩,
 ⟨.len false (.tm 0), .tm, none⟩,
 ⟨.bin .gtr (.tm 0) (.c (.int .i64 200)), .tm, none⟩,
 ⟨.mov (.tm 0), .tm, none⟩,
 ⟨.mov (.fr 1), .tm, some ((.tm 0), false)⟩,
 ⟨.len false (.tm 0), .tm, some ((.tm 1), false)⟩,
 ⟨.bin .gtr (.tm 0) (.c (.int .i64 1000)), .tm, some ((.tm 2), false)⟩,
 ⟨.pick (.tm 3) (.c (.bool true)) (.tm 0), .fr 14, none⟩]) <|
 .cond (.fr 14)
 (.seq (.reg [
 ⟨.callf 8 [], .tm, none⟩,
 ⟨.mov (.tm 0), .fr 3, none⟩]) <|
 .ret)
 (.skip)) <|
 .seq (.reg [
 ⟨.mov (.fr 1), .tm, none⟩,
 ⟨.b2s (.tm 0), .tm, none⟩,
 ⟨.s2b 5 (.tm 0), .tm, none⟩,
 ⟨.mov (.tm 0), .fr 4, none⟩]) <|
 .seq (.reg [
 ⟨.mov (.fr 4), .tm, none⟩,
 ⟨.callf 25 [(.tm 0)], .tm, none⟩,
 ⟨.mov (.tm 0), .tm, none⟩,
 ⟨.extract (.tm 0) 0, .tm, none⟩,
 ⟨.extract (.tm 1) 1, .tm, none⟩,
 ⟨.new 41 78 Z78, .fr 5, none⟩,
 ⟨.storen 78 (.fr 5) (.tm 1), .no, none⟩,
 ⟨.mov (.tm 0), .fr 6, none⟩]) <|
 .seq (.reg [
 ⟨.mov (.fr 1), .tm, none⟩,
 ⟨.callf 26 [(.tm 0)], .tm, none⟩,
 ⟨.mov (.tm 0), .tm, none⟩,
 ⟨.extract (.tm 0) 0, .tm, none⟩,
 ⟨.extract (.tm 1) 1, .tm, none⟩,
 ⟨.new 38 78 Z78, .fr 7, none⟩,
 ⟨.storen 78 (.fr 7) (.tm 1), .no, none⟩,
 ⟨.mov (.tm 0), .fr 8, none⟩]) <|
 .seq (.reg [
 ⟨.loadn 78 (.fr 2), .tm, none⟩,
 ⟨.callf 27 [(.tm 0)], .tm, none⟩,
 ⟨.mov (.tm 0), .fr 9, none⟩]) <|
 .seq (.seq (.dreg [
 (⟨.mov (.fr 9), .tm, none⟩, []),
 (⟨.b2s (.tm 0), .tm, none⟩, []),
 (⟨.loadn 78 (.fr 2), .tm, none⟩, []),
 (⟨.callf 12 [(.tm 0)], .tm, none⟩, [1]),
 (⟨.callf 28 [(.tm 0)], .tm, none⟩, [1]),
 (⟨.b2s (.tm 0), .tm, none⟩, []),
 (⟨.bin .neq (.tm 4) (.tm 0), .tm, none⟩, []),
 (⟨.mov (.tm 0), .tm, none⟩, []),
 (⟨.loadn 78 (.fr 5), .tm, some ((.tm 0), false)⟩, []),
 (⟨.callf 12 [(.tm 0)], .tm, some ((.tm 1), false)⟩, []),
 (⟨.loadn 78 (.fr 7), .tm, some ((.tm 2), false)⟩, [9]),
 (⟨.callf 13 [(.tm 1), (.tm 0)], .tm, some ((.tm 3), false)⟩, []),
 (⟨.un .not (.tm 0), .tm, some ((.tm 4), false)⟩, []),
 (⟨.pick (.tm 5) (.c (.bool true)) (.tm 0), .tm, none⟩, []),
 (⟨.mov (.tm 0), .tm, none⟩, []),
 (⟨.mov (.fr 6), .tm, some ((.tm 0), false)⟩, []),
 (⟨.bin .eql (.tm 0) (.c (.int .i64 0)), .tm, some ((.tm 1), false)⟩, []),
 (⟨.mov (.fr 8), .tm, some ((.tm 2), false)⟩, []),
 (⟨.eqv 0 true (.tm 1) (.tm 0), .tm, some ((.tm 3), false)⟩, []),
 (⟨.pick (.tm 4) (.c (.bool true)) (.tm 0), .tm, none⟩, []),
 (⟨.mov (.tm 0), .tm, none⟩, []),
 (⟨.mov (.fr 8), .tm, some ((.tm 0), false)⟩, []),
 (⟨.un .not (.tm 0), .tm, some ((.tm 1), false)⟩, []),
 (⟨.mov (.tm 0), .tm, some ((.tm 2), false)⟩, []),
 (⟨.mov (.fr 6), .tm, some ((.tm 0), true)⟩, []),
 (⟨.bin .neq (.tm 0) (.c (.int .i64 130)), .tm, some ((.tm 1), true)⟩, []),
 (⟨.pick (.tm 2) (.tm 0) (.c (.bool false)), .tm, some ((.tm 5), false)⟩, []),
 (⟨.pick (.tm 6) (.c (.bool true)) (.tm 0), .tm, none⟩, []),
 (⟨.mov (.tm 0), .tm, none⟩, []),
 (⟨.mov (.fr 4), .tm, some ((.tm 0), false)⟩, []),
 (⟨.b2s (.tm 0), .tm, some ((.tm 1), false)⟩, []),
 (⟨.mov (.fr 1), .tm, some ((.tm 2), false)⟩, []),
 (⟨.b2s (.tm 0), .tm, some ((.tm 3), false)⟩, []),
 (⟨.bin .neq (.tm 2) (.tm 0), .tm, some ((.tm 4), false)⟩, []),
 (⟨.pick (.tm 5) (.c (.bool true)) (.tm 0), .fr 15, none⟩, [])]) <|
 .cond (.fr 15)
 (.seq (.reg [
 ⟨.mov (.c (.bool false)), .fr 3, none⟩]) <|
 .ret)
 (.skip)) <|
 .seq (.seq (.dreg [
 (⟨.mov (.fr 8), .tm, none⟩, []),
 (⟨.mov (.tm 0), .tm, none⟩, []),
 (⟨.loadn 78 (.fr 5), .tm, some ((.tm 0), true)⟩, []),
 (⟨.callf 27 [(.tm 0)], .tm, some ((.tm 1), true)⟩, []),
 (⟨.b2s (.tm 0), .tm, some ((.tm 2), true)⟩, []),
 (⟨.mov (.fr 1), .tm, some ((.tm 3), true)⟩, []),
 (⟨.b2s (.tm 0), .tm, some ((.tm 4), true)⟩, [3]),
 (⟨.bin .neq (.tm 2) (.tm 0), .tm, some ((.tm 5), true)⟩, []),
 (⟨.pick (.tm 6) (.tm 0) (.c (.bool false)), .fr 16, none⟩, [])]) <|
 .cond (.fr 16)
 (.seq (.reg [
 ⟨.mov (.c (.bool false)), .fr 3, none⟩]) <|
 .ret)
 (.skip)) <|
 .seq (.reg [
 ⟨.mov (.fr 9), .tm, none⟩,
 ⟨.callf 25 [(.tm 0)], .tm, none⟩,
 ⟨.mov (.tm 0), .tm, none⟩,
 ⟨.extract (.tm 0) 0, .tm, none⟩,
 ⟨.extract (.tm 1) 1, .tm, none⟩,
 ⟨.new 41 78 Z78, .fr 10, none⟩,
 ⟨.storen 78 (.fr 10) (.tm 1), .no, none⟩,
 ⟨.mov (.tm 0), .fr 11, none⟩]) <|
 .seq (.reg [
 ⟨.mov (.fr 9), .tm, none⟩,
 ⟨.callf 26 [(.tm 0)], .tm, none⟩,
 ⟨.mov (.tm 0), .tm, none⟩,
 ⟨.extract (.tm 0) 0, .tm, none⟩,
 ⟨.extract (.tm 1) 1, .tm, none⟩,
 ⟨.new 38 78 Z78, .fr 12, none⟩,
 ⟨.storen 78 (.fr 12) (.tm 1), .no, none⟩,
 ⟨.mov (.tm 0), .fr 13, none⟩]) <|
 .seq (.dreg [
 (⟨.mov (.fr 11), .tm, none⟩, []),
 (⟨.bin .eql (.tm 0) (.c (.int .i64 0)), .tm, none⟩, []),
 (⟨.mov (.fr 13), .tm, none⟩, []),
 (⟨.eqv 0 false (.tm 1) (.tm 0), .tm, none⟩, []),
 (⟨.mov (.tm 0), .tm, none⟩, []),
 (⟨.loadn 78 (.fr 10), .tm, some ((.tm 0), true)⟩, []),
 (⟨.callf 12 [(.tm 0)], .tm, some ((.tm 1), true)⟩, []),
 (⟨.loadn 78 (.fr 12), .tm, some ((.tm 2), true)⟩, [6]),
 (⟨.callf 13 [(.tm 1), (.tm 0)], .tm, some ((.tm 3), true)⟩, []),
 (⟨.pick (.tm 4) (.tm 0) (.c (.bool false)), .tm, none⟩, []),
 (⟨.mov (.tm 0), .tm, none⟩, []),
 (⟨.callf 8 [], .tm, some ((.tm 0), true)⟩, []),
 (⟨.pick (.tm 1) (.tm 0) (.c (.bool false)), .tm, none⟩, []),
 (⟨.mov (.tm 0), .fr 3, none⟩, [])]) <|
 .ret, [.t 3]⟩
def f25 : AFunc := ⟨[0, 2, 3, 4, 5, 6, 7, 8, 40, 41, 58, 71, 72, 73, 88, 118],
 .seq (.reg [
 ⟨.new 41 78 Z78, .fr 1, none⟩,
 ⟨.mov (.c (.int .i64 0)), .fr 2, none⟩]) <|
 .seq (.reg [
 ⟨.mov (.fr 0), .tm, none⟩,
 ⟨.callf 44 [(.tm 0)], .tm, none⟩,
 ⟨.mov (.tm 0), .fr 3, none⟩]) <|
 .seq (.reg [
 ⟨.mov (.fr 3), .tm, none⟩,
 ⟨.callf 45 [(.tm 0)], .tm, none⟩,
 ⟨.mov (.fr 3), .tm, none⟩,
 ⟨.callf 46 [(.tm 0)], .tm, none⟩,
 ⟨.i2i .i64 (.tm 0), .tm, none⟩,
 ⟨.mov (.fr 3), .tm, none⟩,
 ⟨.callf 46 [(.tm 0)], .tm, none⟩,
 ⟨.i2i .i64 (.tm 0), .tm, none⟩,
 ⟨.mov (.fr 3), .tm, none⟩,
 ⟨.callf 46 [(.tm 0)], .tm, none⟩,
 ⟨.i2i .i64 (.tm 0), .tm, none⟩,
 ⟨.mov (.fr 3), .tm, none⟩,
 ⟨.callf 46 [(.tm 0)], .tm, none⟩,
 ⟨.i2i .i64 (.tm 0), .tm, none⟩,
 ⟨.build Z78 [(0, 1, (.tm 12)), (1, 1, (.tm 9)), (2, 1, (.tm 6)), (3, 1, (.tm 3)), (4, 1, (.tm 0))], .tm, none⟩,
 ⟨.new 41 78 Z78, .fr 4, none⟩,
 ⟨.storen 78 (.fr 4) (.tm 0), .no, none⟩]) <|
 .seq (.reg [
 ⟨.faddr 0 (.fr 4), .tm, none⟩,
 ⟨.load1 (.tm 0), .tm, none⟩,
 ⟨.bin .eql (.tm 0) (.c (.int .u8 2)), .tm, none⟩,
 ⟨.mov (.tm 0), .tm, none⟩,
 ⟨.faddr 3 (.fr 4), .tm, some ((.tm 0), false)⟩,
 ⟨.load1 (.tm 0), .tm, some ((.tm 1), false)⟩,
 ⟨.bin .eql (.tm 0) (.c (.int .i64 0)), .tm, some ((.tm 2), false)⟩,
 ⟨.mov (.tm 0), .tm, some ((.tm 3), false)⟩,
 ⟨.faddr 4 (.fr 4), .tm, some ((.tm 0), true)⟩,
 ⟨.load1 (.tm 0), .tm, some ((.tm 1), true)⟩,
 ⟨.bin .eql (.tm 0) (.c (.int .i64 0)), .tm, some ((.tm 2), true)⟩,
 ⟨.pick (.tm 3) (.tm 0) (.c (.bool false)), .tm, some ((.tm 7), false)⟩,
 ⟨.pick (.tm 8) (.c (.bool true)) (.tm 0), .tm, none⟩,
 ⟨.mov (.tm 0), .fr 5, none⟩]) <|
 .seq (.seq (.reg [
 ⟨.faddr 0 (.fr 4), .tm, none⟩,
 ⟨.load1 (.tm 0), .fr 8, none⟩]) <|
 .block 0 (.seq (.reg [
 ⟨.bin .eql (.fr 8) (.c (.int .u8 1)), .tm, none⟩,
 ⟨.mov (.tm 0), .fr 9, none⟩]) <|
 .cond (.fr 9)
 (.seq (.reg [
 ⟨.mov (.fr 3), .tm, none⟩,
 ⟨.mov (.fr 3), .tm, none⟩,
 ⟨.callf 49 [(.tm 0)], .tm, none⟩,
 ⟨.callf 48 [(.tm 2), (.tm 0)], .tm, none⟩,
 ⟨.callf 47 [(.tm 0)], .tm, none⟩,
 ⟨.mov (.tm 0), .tm, none⟩,
 ⟨.extract (.tm 0) 0, .tm, none⟩,
 ⟨.extract (.tm 1) 1, .tm, none⟩,
 ⟨.new 26 68 Z68, .fr 6, none⟩,
 ⟨.storen 68 (.fr 6) (.tm 1), .no, none⟩,
 ⟨.mov (.tm 0), .fr 7, none⟩]) <|
 .reg [
 ⟨.loadn 68 (.fr 6), .tm, none⟩,
 ⟨.mov (.fr 5), .tm, none⟩,
 ⟨.mov (.tm 0), .tm, none⟩,
 ⟨.mov (.fr 7), .tm, some ((.tm 0), true)⟩,
 ⟨.bin .eql (.tm 0) (.c (.int .i64 0)), .tm, some ((.tm 1), true)⟩,
 ⟨.pick (.tm 2) (.tm 0) (.c (.bool false)), .tm, none⟩,
 ⟨.faddr 5 (.fr 4), .tm, none⟩,
 ⟨.storen 68 (.tm 0) (.tm 6), .no, none⟩,
 ⟨.mov (.tm 1), .fr 5, none⟩])
 (.seq (.reg [
 ⟨.bin .eql (.fr 8) (.c (.int .u8 2)), .tm, none⟩,
 ⟨.mov (.tm 0), .fr 10, none⟩]) <|
 .cond (.fr 10)
 (.seq (.reg [
 ⟨.mov (.fr 3), .tm, none⟩,
 ⟨.callf 46 [(.tm 0)], .tm, none⟩,
 ⟨.mov (.fr 3), .tm, none⟩,
 ⟨.callf 46 [(.tm 0)], .tm, none⟩,
 ⟨.mov (.fr 3), .tm, none⟩,
 ⟨.callf 46 [(.tm 0)], .tm, none⟩,
 ⟨.mov (.fr 3), .tm, none⟩,
 ⟨.callf 50 [(.tm 0)], .tm, none⟩,
 ⟨.build [(.int .u64 0), (.int .u64 0), (.int .u64 0), (.int .u32 0), (.slice none 0 0)] [(0, 1, (.tm 6)), (1, 1, (.tm 4)), (2, 1, (.tm 2)), (3, 1, (.tm 0))], .tm, none⟩,
 ⟨.faddr 73 (.fr 4), .tm, none⟩,
 ⟨.storen 5 (.tm 0) (.tm 1), .no, none⟩]) <|
 .seq (.reg [
 ⟨.mov (.fr 3), .tm, none⟩,
 ⟨.callf 45 [(.tm 0)], .fr 11, none⟩,
 ⟨.mov (.c (.int .u8 0)), .fr 12, none⟩]) <|
 .block 1 (.loop (.seq (.reg [
 ⟨.bin .lss (.fr 12) (.fr 11), .fr 13, none⟩]) <|
 .seq (.cond (.fr 13)
 (.skip)
 (.exit 1)) <|
 .seq (.block 2 (.dreg [
 (⟨.faddr 73 (.fr 4), .tm, none⟩, []),
 (⟨.faddr 4 (.tm 0), .tm, none⟩, []),
 (⟨.load1 (.tm 0), .tm, none⟩, []),
 (⟨.mov (.fr 3), .tm, none⟩, []),
 (⟨.callf 45 [(.tm 0)], .tm, none⟩, [2]),
 (⟨.i2i .i64 (.tm 0), .tm, none⟩, []),
 (⟨.mov (.fr 3), .tm, none⟩, []),
 (⟨.callf 45 [(.tm 0)], .tm, none⟩, [2]),
 (⟨.build [(.int .i64 0), (.int .u8 0)] [(0, 1, (.tm 2)), (1, 1, (.tm 0))], .tm, none⟩, []),
 (⟨.bslice 90 2 1 [(.int .i64 0), (.int .u8 0)] [(0, 2, (.tm 0))], .tm, none⟩, []),
 (⟨.app 90 2 16 (.tm 7) (.tm 0), .tm, none⟩, []),
 (⟨.faddr 73 (.fr 4), .tm, none⟩, []),
 (⟨.faddr 4 (.tm 0), .tm, none⟩, []),
 (⟨.store1 (.tm 0) (.tm 2), .no, none⟩, [])])) <|
 .reg [
 ⟨.bin .add (.fr 12) (.c (.int .u8 1)), .tm, none⟩,
 ⟨.mov (.tm 0), .fr 12, none⟩])))
 (.seq (.reg [
 ⟨.bin .eql (.fr 8) (.c (.int .u8 4)), .tm, none⟩,
 ⟨.mov (.tm 0), .fr 14, none⟩]) <|
 .cond (.fr 14)
 (.reg [
 ⟨.mov (.fr 5), .tm, none⟩,
 ⟨.mov (.tm 0), .tm, none⟩,
 ⟨.faddr 1 (.fr 4), .tm, some ((.tm 0), true)⟩,
 ⟨.load1 (.tm 0), .tm, some ((.tm 1), true)⟩,
 ⟨.bin .eql (.tm 0) (.c (.int .i64 0)), .tm, some ((.tm 2), true)⟩,
 ⟨.pick (.tm 3) (.tm 0) (.c (.bool false)), .tm, none⟩,
 ⟨.mov (.tm 0), .tm, none⟩,
 ⟨.faddr 2 (.fr 4), .tm, some ((.tm 0), true)⟩,
 ⟨.load1 (.tm 0), .tm, some ((.tm 1), true)⟩,
 ⟨.bin .eql (.tm 0) (.c (.int .i64 0)), .tm, some ((.tm 2), true)⟩,
 ⟨.pick (.tm 3) (.tm 0) (.c (.bool false)), .tm, none⟩,
 ⟨.mov (.tm 0), .fr 5, none⟩])
 (.skip))))) <|
 .seq (.seq (.reg [
 ⟨.mov (.fr 5), .tm, none⟩,
 ⟨.un .not (.tm 0), .tm, none⟩,
 ⟨.mov (.tm 0), .tm, none⟩,
 ⟨.mov (.fr 3), .tm, some ((.tm 0), false)⟩,
 ⟨.callf 51 [(.tm 0)], .tm, some ((.tm 1), false)⟩,
 ⟨.pick (.tm 2) (.c (.bool true)) (.tm 0), .tm, none⟩,
 ⟨.mov (.tm 0), .tm, none⟩,
 ⟨.mov (.fr 0), .tm, some ((.tm 0), false)⟩,
 ⟨.len false (.tm 0), .tm, some ((.tm 1), false)⟩,
 ⟨.bin .eql (.tm 0) (.c (.int .i64 0)), .tm, some ((.tm 2), false)⟩,
 ⟨.pick (.tm 3) (.c (.bool true)) (.tm 0), .tm, none⟩,
 ⟨.mov (.tm 0), .tm, none⟩,
 ⟨.loadn 78 (.fr 4), .tm, some ((.tm 0), false)⟩,
 ⟨.callf 27 [(.tm 0)], .tm, some ((.tm 1), false)⟩,
 ⟨.mov (.fr 0), .tm, some ((.tm 2), false)⟩,
 ⟨.callf 52 [(.tm 1), (.tm 0)], .tm, some ((.tm 3), false)⟩,
 ⟨.un .not (.tm 0), .tm, some ((.tm 4), false)⟩,
 ⟨.pick (.tm 5) (.c (.bool true)) (.tm 0), .fr 15, none⟩]) <|
 .cond (.fr 15)
 (.seq (.reg [
 ⟨.build Z78 [], .tm, none⟩,
 ⟨.storen 78 (.fr 1) (.tm 0), .no, none⟩,
 ⟨.mov (.c (.int .i64 130)), .fr 2, none⟩]) <|
 .ret)
 (.skip)) <|
 .seq (.reg [
 ⟨.loadn 78 (.fr 4), .tm, none⟩,
 ⟨.storen 78 (.fr 1) (.tm 0), .no, none⟩,
 ⟨.mov (.c (.int .i64 0)), .fr 2, none⟩]) <|
 .ret, [.cn 78 1, .t 2]⟩
def f26 : AFunc := ⟨[0, 2, 3, 4, 5, 6, 7, 8, 11, 31, 49, 55, 74, 140],
 .seq (.reg [
 ⟨.new 38 78 Z78, .fr 1, none⟩,
 ⟨.mov (.c (.bool false)), .fr 2, none⟩]) <|
 .seq (.seq (.reg [
 ⟨.mov (.fr 0), .tm, none⟩,
 ⟨.len false (.tm 0), .tm, none⟩,
 ⟨.bin .lss (.tm 0) (.c (.int .i64 33)), .fr 8, none⟩]) <|
 .cond (.fr 8)
 (.seq (.reg [
 ⟨.build Z78 [], .tm, none⟩,
 ⟨.storen 78 (.fr 1) (.tm 0), .no, none⟩,
 ⟨.mov (.c (.bool false)), .fr 2, none⟩]) <|
 .ret)
 (.skip)) <|
 .seq (.dreg [
 (⟨.mov (.fr 0), .tm, none⟩, []),
 (⟨.iaddr 1 (.tm 0) (.c (.int .i64 0)), .tm, none⟩, []),
 (⟨.load1 (.tm 0), .tm, none⟩, []),
 (⟨.mov (.fr 0), .tm, none⟩, []),
 (⟨.callf 53 [(.tm 0), (.c (.int .i64 1)), (.c (.int .i64 8))], .tm, none⟩, [2]),
 (⟨.i2i .i64 (.tm 0), .tm, none⟩, []),
 (⟨.mov (.fr 0), .tm, none⟩, []),
 (⟨.callf 53 [(.tm 0), (.c (.int .i64 9)), (.c (.int .i64 8))], .tm, none⟩, [2]),
 (⟨.i2i .i64 (.tm 0), .tm, none⟩, []),
 (⟨.mov (.fr 0), .tm, none⟩, []),
 (⟨.callf 53 [(.tm 0), (.c (.int .i64 17)), (.c (.int .i64 8))], .tm, none⟩, [2]),
 (⟨.i2i .i64 (.tm 0), .tm, none⟩, []),
 (⟨.mov (.fr 0), .tm, none⟩, []),
 (⟨.callf 53 [(.tm 0), (.c (.int .i64 25)), (.c (.int .i64 8))], .tm, none⟩, [2]),
 (⟨.i2i .i64 (.tm 0), .tm, none⟩, []),
 (⟨.build Z78 [(0, 1, (.tm 12)), (1, 1, (.tm 9)), (2, 1, (.tm 6)), (3, 1, (.tm 3)), (4, 1, (.tm 0))], .tm, none⟩, []),
 (⟨.new 38 78 Z78, .fr 3, none⟩, []),
 (⟨.storen 78 (.fr 3) (.tm 0), .no, none⟩, [])]) <|
 .seq (.seq (.reg [
 ⟨.faddr 0 (.fr 3), .tm, none⟩,
 ⟨.load1 (.tm 0), .tm, none⟩,
 ⟨.bin .eql (.tm 0) (.c (.int .u8 1)), .fr 9, none⟩]) <|
 .cond (.fr 9)
 (.seq (.reg [
 ⟨.mov (.fr 0), .tm, none⟩,
 ⟨.slsl 1 (.tm 0) (some (.c (.int .i64 33))) none none, .tm, none⟩,
 ⟨.callf 54 [(.tm 0)], .tm, none⟩,
 ⟨.mov (.tm 0), .tm, none⟩,
 ⟨.extract (.tm 0) 0, .tm, none⟩,
 ⟨.extract (.tm 1) 1, .tm, none⟩,
 ⟨.new 26 68 Z68, .fr 4, none⟩,
 ⟨.storen 68 (.fr 4) (.tm 1), .no, none⟩,
 ⟨.mov (.tm 0), .fr 5, none⟩]) <|
 .seq (.seq (.reg [
 ⟨.mov (.fr 5), .tm, none⟩,
 ⟨.un .not (.tm 0), .tm, none⟩,
 ⟨.mov (.tm 0), .tm, none⟩,
 ⟨.faddr 3 (.fr 3), .tm, some ((.tm 0), false)⟩,
 ⟨.load1 (.tm 0), .tm, some ((.tm 1), false)⟩,
 ⟨.bin .neq (.tm 0) (.c (.int .i64 0)), .tm, some ((.tm 2), false)⟩,
 ⟨.pick (.tm 3) (.c (.bool true)) (.tm 0), .tm, none⟩,
 ⟨.mov (.tm 0), .tm, none⟩,
 ⟨.faddr 4 (.fr 3), .tm, some ((.tm 0), false)⟩,
 ⟨.load1 (.tm 0), .tm, some ((.tm 1), false)⟩,
 ⟨.bin .neq (.tm 0) (.c (.int .i64 0)), .tm, some ((.tm 2), false)⟩,
 ⟨.pick (.tm 3) (.c (.bool true)) (.tm 0), .fr 10, none⟩]) <|
 .cond (.fr 10)
 (.seq (.reg [
 ⟨.build Z78 [], .tm, none⟩,
 ⟨.storen 78 (.fr 1) (.tm 0), .no, none⟩,
 ⟨.mov (.c (.bool false)), .fr 2, none⟩]) <|
 .ret)
 (.skip)) <|
 .reg [
 ⟨.loadn 68 (.fr 4), .tm, none⟩,
 ⟨.faddr 5 (.fr 3), .tm, none⟩,
 ⟨.storen 68 (.tm 0) (.tm 1), .no, none⟩])
 (.skip)) <|
 .seq (.seq (.reg [
 ⟨.faddr 0 (.fr 3), .tm, none⟩,
 ⟨.load1 (.tm 0), .tm, none⟩,
 ⟨.bin .eql (.tm 0) (.c (.int .u8 2)), .fr 11, none⟩]) <|
 .cond (.fr 11)
 (.seq (.reg [
 ⟨.mov (.fr 0), .tm, none⟩,
 ⟨.callf 53 [(.tm 0), (.c (.int .i64 33)), (.c (.int .i64 8))], .tm, none⟩,
 ⟨.faddr 73 (.fr 3), .tm, none⟩,
 ⟨.store1 (.tm 0) (.tm 1), .no, none⟩]) <|
 .seq (.reg [
 ⟨.mov (.fr 0), .tm, none⟩,
 ⟨.callf 53 [(.tm 0), (.c (.int .i64 41)), (.c (.int .i64 8))], .tm, none⟩,
 ⟨.faddr 74 (.fr 3), .tm, none⟩,
 ⟨.store1 (.tm 0) (.tm 1), .no, none⟩]) <|
 .seq (.reg [
 ⟨.mov (.fr 0), .tm, none⟩,
 ⟨.callf 53 [(.tm 0), (.c (.int .i64 49)), (.c (.int .i64 8))], .tm, none⟩,
 ⟨.faddr 75 (.fr 3), .tm, none⟩,
 ⟨.store1 (.tm 0) (.tm 1), .no, none⟩]) <|
 .seq (.reg [
 ⟨.mov (.fr 0), .tm, none⟩,
 ⟨.callf 53 [(.tm 0), (.c (.int .i64 57)), (.c (.int .i64 4))], .tm, none⟩,
 ⟨.i2i .u32 (.tm 0), .tm, none⟩,
 ⟨.faddr 76 (.fr 3), .tm, none⟩,
 ⟨.store1 (.tm 0) (.tm 1), .no, none⟩]) <|
 .seq (.reg [
 ⟨.mov (.fr 0), .tm, none⟩,
 ⟨.callf 53 [(.tm 0), (.c (.int .i64 61)), (.c (.int .i64 1))], .tm, none⟩,
 ⟨.i2i .i64 (.tm 0), .tm, none⟩,
 ⟨.mov (.tm 0), .fr 6, none⟩]) <|
 .seq (.reg [
 ⟨.mov (.c (.int .i64 0)), .fr 7, none⟩]) <|
 .block 0 (.loop (.seq (.seq (.reg [
 ⟨.mov (.fr 7), .tm, none⟩,
 ⟨.mov (.fr 6), .tm, none⟩,
 ⟨.bin .lss (.tm 1) (.tm 0), .fr 12, none⟩]) <|
 .cond (.fr 12)
 (.skip)
 (.exit 0)) <|
 .seq (.block 1 (.dreg [
 (⟨.faddr 77 (.fr 3), .tm, none⟩, []),
 (⟨.load1 (.tm 0), .tm, none⟩, []),
 (⟨.mov (.fr 0), .tm, none⟩, []),
 (⟨.mov (.fr 7), .tm, none⟩, []),
 (⟨.bin .mul (.c (.int .i64 2)) (.tm 0), .tm, none⟩, []),
 (⟨.bin .add (.c (.int .i64 62)) (.tm 0), .tm, none⟩, []),
 (⟨.callf 53 [(.tm 3), (.tm 0), (.c (.int .i64 1))], .tm, none⟩, [1]),
 (⟨.i2i .i64 (.tm 0), .tm, none⟩, []),
 (⟨.mov (.fr 0), .tm, none⟩, []),
 (⟨.mov (.fr 7), .tm, none⟩, []),
 (⟨.bin .mul (.c (.int .i64 2)) (.tm 0), .tm, none⟩, []),
 (⟨.bin .add (.c (.int .i64 63)) (.tm 0), .tm, none⟩, []),
 (⟨.callf 53 [(.tm 3), (.tm 0), (.c (.int .i64 1))], .tm, none⟩, [1]),
 (⟨.i2i .u8 (.tm 0), .tm, none⟩, []),
 (⟨.build [(.int .i64 0), (.int .u8 0)] [(0, 1, (.tm 6)), (1, 1, (.tm 0))], .tm, none⟩, []),
 (⟨.bslice 92 2 1 [(.int .i64 0), (.int .u8 0)] [(0, 2, (.tm 0))], .tm, none⟩, []),
 (⟨.app 92 2 16 (.tm 14) (.tm 0), .tm, none⟩, []),
 (⟨.faddr 77 (.fr 3), .tm, none⟩, []),
 (⟨.store1 (.tm 0) (.tm 1), .no, none⟩, [])])) <|
 .reg [
 ⟨.mov (.fr 7), .tm, none⟩,
 ⟨.bin .add (.tm 0) (.c (.int .i64 1)), .tm, none⟩,
 ⟨.mov (.tm 0), .fr 7, none⟩])))
 (.skip)) <|
 .seq (.seq (.dreg [
 (⟨.faddr 0 (.fr 3), .tm, none⟩, []),
 (⟨.load1 (.tm 0), .tm, none⟩, []),
 (⟨.bin .eql (.tm 0) (.c (.int .u8 3)), .tm, none⟩, []),
 (⟨.mov (.tm 0), .tm, none⟩, []),
 (⟨.faddr 3 (.fr 3), .tm, some ((.tm 0), true)⟩, []),
 (⟨.load1 (.tm 0), .tm, some ((.tm 1), true)⟩, []),
 (⟨.bin .neq (.tm 0) (.c (.int .i64 0)), .tm, some ((.tm 2), true)⟩, []),
 (⟨.mov (.tm 0), .tm, some ((.tm 3), true)⟩, []),
 (⟨.faddr 4 (.fr 3), .tm, some ((.tm 0), false)⟩, []),
 (⟨.load1 (.tm 0), .tm, some ((.tm 1), false)⟩, []),
 (⟨.bin .neq (.tm 0) (.c (.int .i64 0)), .tm, some ((.tm 2), false)⟩, []),
 (⟨.pick (.tm 3) (.c (.bool true)) (.tm 0), .tm, some ((.tm 7), true)⟩, []),
 (⟨.pick (.tm 8) (.tm 0) (.c (.bool false)), .tm, none⟩, []),
 (⟨.mov (.tm 0), .tm, none⟩, []),
 (⟨.faddr 0 (.fr 3), .tm, some ((.tm 0), false)⟩, []),
 (⟨.load1 (.tm 0), .tm, some ((.tm 1), false)⟩, []),
 (⟨.bin .eql (.tm 0) (.c (.int .u8 4)), .tm, some ((.tm 2), false)⟩, []),
 (⟨.mov (.tm 0), .tm, some ((.tm 3), false)⟩, []),
 (⟨.faddr 1 (.fr 3), .tm, some ((.tm 0), true)⟩, []),
 (⟨.load1 (.tm 0), .tm, some ((.tm 1), true)⟩, []),
 (⟨.bin .neq (.tm 0) (.c (.int .i64 0)), .tm, some ((.tm 2), true)⟩, []),
 (⟨.mov (.tm 0), .tm, some ((.tm 3), true)⟩, []),
 (⟨.faddr 2 (.fr 3), .tm, some ((.tm 0), false)⟩, []),
 (⟨.load1 (.tm 0), .tm, some ((.tm 1), false)⟩, []),
 (⟨.bin .neq (.tm 0) (.c (.int .i64 0)), .tm, some ((.tm 2), false)⟩, []),
 (⟨.pick (.tm 3) (.c (.bool true)) (.tm 0), .tm, some ((.tm 7), true)⟩, []),
 (⟨.mov (.tm 0), .tm, some ((.tm 8), true)⟩, []),
 (⟨.faddr 3 (.fr 3), .tm, some ((.tm 0), false)⟩, []),
 (⟨.load1 (.tm 0), .tm, some ((.tm 1), false)⟩, []),
 (⟨.bin .neq (.tm 0) (.c (.int .i64 0)), .tm, some ((.tm 2), false)⟩, []),
 (⟨.pick (.tm 3) (.c (.bool true)) (.tm 0), .tm, some ((.tm 12), true)⟩, []),
 (⟨.mov (.tm 0), .tm, some ((.tm 13), true)⟩, []),
 (⟨.faddr 4 (.fr 3), .tm, some ((.tm 0), false)⟩, []),
 (⟨.load1 (.tm 0), .tm, some ((.tm 1), false)⟩, []),
 (⟨.bin .neq (.tm 0) (.c (.int .i64 0)), .tm, some ((.tm 2), false)⟩, []),
 (⟨.pick (.tm 3) (.c (.bool true)) (.tm 0), .tm, some ((.tm 17), true)⟩, []),
 (⟨.pick (.tm 18) (.tm 0) (.c (.bool false)), .tm, some ((.tm 22), false)⟩, []),
 (⟨.pick (.tm 23) (.c (.bool true)) (.tm 0), .tm, none⟩, []),
 (⟨.mov (.tm 0), .tm, none⟩, []),
 (⟨.loadn 78 (.fr 3), .tm, some ((.tm 0), false)⟩, []),
 (⟨.callf 28 [(.tm 0)], .tm, some ((.tm 1), false)⟩, []),
 (⟨.b2s (.tm 0), .tm, some ((.tm 2), false)⟩, []),
 (⟨.mov (.fr 0), .tm, some ((.tm 3), false)⟩, []),
 (⟨.b2s (.tm 0), .tm, some ((.tm 4), false)⟩, [40]),
 (⟨.bin .neq (.tm 2) (.tm 0), .tm, some ((.tm 5), false)⟩, []),
 (⟨.pick (.tm 6) (.c (.bool true)) (.tm 0), .fr 13, none⟩, [])]) <|
 .cond (.fr 13)
 (.seq (.reg [
 ⟨.build Z78 [], .tm, none⟩,
 ⟨.storen 78 (.fr 1) (.tm 0), .no, none⟩,
 ⟨.mov (.c (.bool false)), .fr 2, none⟩]) <|
 .ret)
 (.skip)) <|
 .seq (.reg [
 ⟨.loadn 78 (.fr 3), .tm, none⟩,
 ⟨.storen 78 (.fr 1) (.tm 0), .no, none⟩,
 ⟨.mov (.c (.bool true)), .fr 2, none⟩]) <|
 .ret, [.cn 78 1, .t 2]⟩
def f27 : AFunc := ⟨[0, 1, 2, 3, 5, 7, 9, 12, 24, 25, 26, 33, 34, 40, 51, 52, 53, 70, 71, 72, 73],
 .seq (.reg [
 ⟨.box 41 78 (.fr 0), .fr 1, none⟩,
 ⟨.mov (.c (.slice none 0 0)), .fr 2, none⟩]) <|
 .seq (.seq (.reg [
 ⟨.loadn 78 (.fr 1), .tm, none⟩,
 ⟨.callf 35 [(.tm 0)], .tm, none⟩,
 ⟨.un .not (.tm 0), .fr 7, none⟩]) <|
 .cond (.fr 7)
 (.seq (.reg [
 ⟨.mov (.c (.slice none 0 0)), .fr 2, none⟩]) <|
 .ret)
 (.skip)) <|
 .seq (.reg [
 ⟨.new 120 1 [(.slice none 0 0)], .fr 3, none⟩]) <|
 .seq (.reg [
 ⟨.faddr 0 (.fr 1), .tm, none⟩,
 ⟨.load1 (.tm 0), .tm, none⟩,
 ⟨.callf 55 [(.fr 3), (.tm 0)], .tm, none⟩]) <|
 .seq (.seq (.reg [
 ⟨.faddr 1 (.fr 1), .tm, none⟩,
 ⟨.load1 (.tm 0), .tm, none⟩,
 ⟨.faddr 2 (.fr 1), .tm, none⟩,
 ⟨.load1 (.tm 0), .tm, none⟩,
 ⟨.faddr 3 (.fr 1), .tm, none⟩,
 ⟨.load1 (.tm 0), .tm, none⟩,
 ⟨.faddr 4 (.fr 1), .tm, none⟩,
 ⟨.load1 (.tm 0), .tm, none⟩,
 ⟨.build [(.int .i64 0), (.int .i64 0), (.int .i64 0), (.int .i64 0)] [(0, 1, (.tm 6)), (1, 1, (.tm 4)), (2, 1, (.tm 2)), (3, 1, (.tm 0))], .fr 8, none⟩,
 ⟨.mov (.c (.int .i64 0)), .fr 9, none⟩]) <|
 .block 0 (.loop (.seq (.reg [
 ⟨.bin .lss (.fr 9) (.c (.int .i64 4)), .fr 10, none⟩]) <|
 .seq (.cond (.fr 10)
 (.skip)
 (.exit 0)) <|
 .seq (.block 1 (.seq (.reg [
 ⟨.idxa false 1 4 (.fr 8) (.fr 9), .tm, none⟩,
 ⟨.mov (.tm 0), .fr 4, none⟩]) <|
 .reg [
 ⟨.mov (.fr 4), .tm, none⟩,
 ⟨.i2i .u64 (.tm 0), .tm, none⟩,
 ⟨.callf 56 [(.fr 3), (.tm 0)], .tm, none⟩])) <|
 .reg [
 ⟨.bin .add (.fr 9) (.c (.int .i64 1)), .tm, none⟩,
 ⟨.mov (.tm 0), .fr 9, none⟩]))) <|
 .seq (.seq (.reg [
 ⟨.faddr 0 (.fr 1), .tm, none⟩,
 ⟨.load1 (.tm 0), .fr 11, none⟩]) <|
 .block 2 (.seq (.reg [
 ⟨.bin .eql (.fr 11) (.c (.int .u8 1)), .tm, none⟩,
 ⟨.mov (.tm 0), .fr 12, none⟩]) <|
 .cond (.fr 12)
 (.reg [
 ⟨.faddr 5 (.fr 1), .tm, none⟩,
 ⟨.loadn 68 (.tm 0), .tm, none⟩,
 ⟨.callf 58 [(.tm 0)], .tm, none⟩,
 ⟨.callf 57 [(.fr 3), (.tm 0)], .tm, none⟩])
 (.seq (.reg [
 ⟨.bin .eql (.fr 11) (.c (.int .u8 2)), .tm, none⟩,
 ⟨.mov (.tm 0), .fr 13, none⟩]) <|
 .cond (.fr 13)
 (.seq (.seq (.reg [
 ⟨.faddr 73 (.fr 1), .tm, none⟩,
 ⟨.faddr 0 (.tm 0), .tm, none⟩,
 ⟨.load1 (.tm 0), .tm, none⟩,
 ⟨.faddr 73 (.fr 1), .tm, none⟩,
 ⟨.faddr 1 (.tm 0), .tm, none⟩,
 ⟨.load1 (.tm 0), .tm, none⟩,
 ⟨.faddr 73 (.fr 1), .tm, none⟩,
 ⟨.faddr 2 (.tm 0), .tm, none⟩,
 ⟨.load1 (.tm 0), .tm, none⟩,
 ⟨.build [(.int .u64 0), (.int .u64 0), (.int .u64 0)] [(0, 1, (.tm 6)), (1, 1, (.tm 3)), (2, 1, (.tm 0))], .fr 14, none⟩,
 ⟨.mov (.c (.int .i64 0)), .fr 15, none⟩]) <|
 .block 3 (.loop (.seq (.reg [
 ⟨.bin .lss (.fr 15) (.c (.int .i64 3)), .fr 16, none⟩]) <|
 .seq (.cond (.fr 16)
 (.skip)
 (.exit 3)) <|
 .seq (.block 4 (.seq (.reg [
 ⟨.idxa false 1 3 (.fr 14) (.fr 15), .tm, none⟩,
 ⟨.mov (.tm 0), .fr 5, none⟩]) <|
 .reg [
 ⟨.mov (.fr 5), .tm, none⟩,
 ⟨.callf 56 [(.fr 3), (.tm 0)], .tm, none⟩])) <|
 .reg [
 ⟨.bin .add (.fr 15) (.c (.int .i64 1)), .tm, none⟩,
 ⟨.mov (.tm 0), .fr 15, none⟩]))) <|
 .seq (.reg [
 ⟨.faddr 73 (.fr 1), .tm, none⟩,
 ⟨.faddr 3 (.tm 0), .tm, none⟩,
 ⟨.load1 (.tm 0), .tm, none⟩,
 ⟨.callf 59 [(.fr 3), (.tm 0)], .tm, none⟩]) <|
 .seq (.reg [
 ⟨.faddr 73 (.fr 1), .tm, none⟩,
 ⟨.faddr 4 (.tm 0), .tm, none⟩,
 ⟨.load1 (.tm 0), .tm, none⟩,
 ⟨.len false (.tm 0), .tm, none⟩,
 ⟨.i2i .u8 (.tm 0), .tm, none⟩,
 ⟨.callf 55 [(.fr 3), (.tm 0)], .tm, none⟩]) <|
 .seq (.reg [
 ⟨.faddr 73 (.fr 1), .tm, none⟩,
 ⟨.faddr 4 (.tm 0), .tm, none⟩,
 ⟨.load1 (.tm 0), .fr 17, none⟩,
 ⟨.len false (.fr 17), .fr 18, none⟩,
 ⟨.mov (.c (.int .i64 0)), .fr 19, none⟩]) <|
 .block 5 (.loop (.seq (.reg [
 ⟨.bin .lss (.fr 19) (.fr 18), .fr 20, none⟩]) <|
 .seq (.cond (.fr 20)
 (.skip)
 (.exit 5)) <|
 .seq (.block 6 (.seq (.reg [
 ⟨.iaddr 2 (.fr 17) (.fr 19), .tm, none⟩,
 ⟨.loadn 2 (.tm 0), .tm, none⟩,
 ⟨.new 90 2 [(.int .i64 0), (.int .u8 0)], .fr 6, none⟩,
 ⟨.storen 2 (.fr 6) (.tm 0), .no, none⟩]) <|
 .seq (.reg [
 ⟨.faddr 0 (.fr 6), .tm, none⟩,
 ⟨.load1 (.tm 0), .tm, none⟩,
 ⟨.i2i .u8 (.tm 0), .tm, none⟩,
 ⟨.callf 55 [(.fr 3), (.tm 0)], .tm, none⟩]) <|
 .reg [
 ⟨.faddr 1 (.fr 6), .tm, none⟩,
 ⟨.load1 (.tm 0), .tm, none⟩,
 ⟨.callf 55 [(.fr 3), (.tm 0)], .tm, none⟩])) <|
 .reg [
 ⟨.bin .add (.fr 19) (.c (.int .i64 1)), .tm, none⟩,
 ⟨.mov (.tm 0), .fr 19, none⟩])))
 (.skip)))) <|
 .seq (.reg [
 ⟨.callf 60 [(.fr 3)], .tm, none⟩,
 ⟨.mov (.tm 0), .fr 2, none⟩]) <|
 .ret, [.t 2]⟩
def f28 : AFunc := ⟨[0, 1, 2, 3, 4, 5, 6, 9, 23, 36, 44, 77],
 .seq (.reg [
 ⟨.box 38 78 (.fr 0), .fr 1, none⟩,
 ⟨.mov (.c (.slice none 0 0)), .fr 2, none⟩]) <|
 .seq (.seq (.reg [
 ⟨.loadn 78 (.fr 1), .tm, none⟩,
 ⟨.callf 61 [(.tm 0)], .tm, none⟩,
 ⟨.un .not (.tm 0), .fr 7, none⟩]) <|
 .cond (.fr 7)
 (.seq (.reg [
 ⟨.mov (.c (.slice none 0 0)), .fr 2, none⟩]) <|
 .ret)
 (.skip)) <|
 .seq (.reg [
 ⟨.faddr 0 (.fr 1), .tm, none⟩,
 ⟨.load1 (.tm 0), .tm, none⟩,
 ⟨.bslice 5 1 1 [(.int .u8 0)] [(0, 1, (.tm 0))], .tm, none⟩,
 ⟨.mov (.tm 0), .fr 3, none⟩]) <|
 .seq (.reg [
 ⟨.faddr 1 (.fr 1), .tm, none⟩,
 ⟨.load1 (.tm 0), .tm, none⟩,
 ⟨.faddr 2 (.fr 1), .tm, none⟩,
 ⟨.load1 (.tm 0), .tm, none⟩,
 ⟨.faddr 3 (.fr 1), .tm, none⟩,
 ⟨.load1 (.tm 0), .tm, none⟩,
 ⟨.faddr 4 (.fr 1), .tm, none⟩,
 ⟨.load1 (.tm 0), .tm, none⟩,
 ⟨.bslice 2 1 4 [(.int .i64 0), (.int .i64 0), (.int .i64 0), (.int .i64 0)] [(0, 1, (.tm 6)), (1, 1, (.tm 4)), (2, 1, (.tm 2)), (3, 1, (.tm 0))], .tm, none⟩,
 ⟨.mov (.tm 0), .fr 4, none⟩]) <|
 .seq (.seq (.reg [
 ⟨.mov (.c (.int .i64 0)), .fr 5, none⟩]) <|
 .block 0 (.loop (.seq (.seq (.reg [
 ⟨.mov (.fr 5), .tm, none⟩,
 ⟨.bin .lss (.tm 0) (.c (.int .i64 4)), .fr 8, none⟩]) <|
 .cond (.fr 8)
 (.skip)
 (.exit 0)) <|
 .seq (.block 1 (.reg [
 ⟨.mov (.fr 3), .tm, none⟩,
 ⟨.mov (.fr 4), .tm, none⟩,
 ⟨.mov (.fr 5), .tm, none⟩,
 ⟨.iaddr 1 (.tm 1) (.tm 0), .tm, none⟩,
 ⟨.load1 (.tm 0), .tm, none⟩,
 ⟨.i2i .u64 (.tm 0), .tm, none⟩,
 ⟨.callf 62 [(.tm 0), (.c (.int .i64 8))], .tm, none⟩,
 ⟨.app 5 1 1 (.tm 6) (.tm 0), .tm, none⟩,
 ⟨.mov (.tm 0), .fr 3, none⟩])) <|
 .reg [
 ⟨.mov (.fr 5), .tm, none⟩,
 ⟨.bin .add (.tm 0) (.c (.int .i64 1)), .tm, none⟩,
 ⟨.mov (.tm 0), .fr 5, none⟩]))) <|
 .seq (.seq (.reg [
 ⟨.faddr 0 (.fr 1), .tm, none⟩,
 ⟨.load1 (.tm 0), .tm, none⟩,
 ⟨.bin .eql (.tm 0) (.c (.int .u8 1)), .fr 9, none⟩]) <|
 .cond (.fr 9)
 (.reg [
 ⟨.mov (.fr 3), .tm, none⟩,
 ⟨.faddr 5 (.fr 1), .tm, none⟩,
 ⟨.loadn 68 (.tm 0), .tm, none⟩,
 ⟨.callf 63 [(.tm 0)], .tm, none⟩,
 ⟨.app 5 1 1 (.tm 3) (.tm 0), .tm, none⟩,
 ⟨.mov (.tm 0), .fr 3, none⟩])
 (.skip)) <|
 .seq (.seq (.reg [
 ⟨.faddr 0 (.fr 1), .tm, none⟩,
 ⟨.load1 (.tm 0), .tm, none⟩,
 ⟨.bin .eql (.tm 0) (.c (.int .u8 2)), .fr 10, none⟩]) <|
 .cond (.fr 10)
 (.seq (.reg [
 ⟨.mov (.fr 3), .tm, none⟩,
 ⟨.faddr 73 (.fr 1), .tm, none⟩,
 ⟨.load1 (.tm 0), .tm, none⟩,
 ⟨.callf 62 [(.tm 0), (.c (.int .i64 8))], .tm, none⟩,
 ⟨.app 5 1 1 (.tm 3) (.tm 0), .tm, none⟩,
 ⟨.mov (.tm 0), .fr 3, none⟩]) <|
 .seq (.reg [
 ⟨.mov (.fr 3), .tm, none⟩,
 ⟨.faddr 74 (.fr 1), .tm, none⟩,
 ⟨.load1 (.tm 0), .tm, none⟩,
 ⟨.callf 62 [(.tm 0), (.c (.int .i64 8))], .tm, none⟩,
 ⟨.app 5 1 1 (.tm 3) (.tm 0), .tm, none⟩,
 ⟨.mov (.tm 0), .fr 3, none⟩]) <|
 .seq (.reg [
 ⟨.mov (.fr 3), .tm, none⟩,
 ⟨.faddr 75 (.fr 1), .tm, none⟩,
 ⟨.load1 (.tm 0), .tm, none⟩,
 ⟨.callf 62 [(.tm 0), (.c (.int .i64 8))], .tm, none⟩,
 ⟨.app 5 1 1 (.tm 3) (.tm 0), .tm, none⟩,
 ⟨.mov (.tm 0), .fr 3, none⟩]) <|
 .seq (.reg [
 ⟨.mov (.fr 3), .tm, none⟩,
 ⟨.faddr 76 (.fr 1), .tm, none⟩,
 ⟨.load1 (.tm 0), .tm, none⟩,
 ⟨.i2i .u64 (.tm 0), .tm, none⟩,
 ⟨.callf 62 [(.tm 0), (.c (.int .i64 4))], .tm, none⟩,
 ⟨.app 5 1 1 (.tm 4) (.tm 0), .tm, none⟩,
 ⟨.mov (.tm 0), .fr 3, none⟩]) <|
 .seq (.reg [
 ⟨.mov (.fr 3), .tm, none⟩,
 ⟨.faddr 77 (.fr 1), .tm, none⟩,
 ⟨.load1 (.tm 0), .tm, none⟩,
 ⟨.len false (.tm 0), .tm, none⟩,
 ⟨.i2i .u8 (.tm 0), .tm, none⟩,
 ⟨.bslice 5 1 1 [(.int .u8 0)] [(0, 1, (.tm 0))], .tm, none⟩,
 ⟨.app 5 1 1 (.tm 5) (.tm 0), .tm, none⟩,
 ⟨.mov (.tm 0), .fr 3, none⟩]) <|
 .seq (.reg [
 ⟨.mov (.c (.int .i64 0)), .fr 6, none⟩]) <|
 .block 2 (.loop (.seq (.seq (.reg [
 ⟨.mov (.fr 6), .tm, none⟩,
 ⟨.faddr 77 (.fr 1), .tm, none⟩,
 ⟨.load1 (.tm 0), .tm, none⟩,
 ⟨.len false (.tm 0), .tm, none⟩,
 ⟨.bin .lss (.tm 3) (.tm 0), .fr 11, none⟩]) <|
 .cond (.fr 11)
 (.skip)
 (.exit 2)) <|
 .seq (.block 3 (.dreg [
 (⟨.mov (.fr 3), .tm, none⟩, []),
 (⟨.faddr 77 (.fr 1), .tm, none⟩, []),
 (⟨.load1 (.tm 0), .tm, none⟩, []),
 (⟨.mov (.fr 6), .tm, none⟩, []),
 (⟨.iaddr 2 (.tm 1) (.tm 0), .tm, none⟩, []),
 (⟨.faddr 0 (.tm 0), .tm, none⟩, []),
 (⟨.load1 (.tm 0), .tm, none⟩, []),
 (⟨.i2i .u8 (.tm 0), .tm, none⟩, []),
 (⟨.faddr 77 (.fr 1), .tm, none⟩, []),
 (⟨.load1 (.tm 0), .tm, none⟩, []),
 (⟨.mov (.fr 6), .tm, none⟩, []),
 (⟨.iaddr 2 (.tm 1) (.tm 0), .tm, none⟩, []),
 (⟨.faddr 1 (.tm 0), .tm, none⟩, []),
 (⟨.load1 (.tm 0), .tm, none⟩, []),
 (⟨.bslice 5 1 2 [(.int .u8 0), (.int .u8 0)] [(0, 1, (.tm 6)), (1, 1, (.tm 0))], .tm, none⟩, []),
 (⟨.app 5 1 1 (.tm 14) (.tm 0), .tm, none⟩, []),
 (⟨.mov (.tm 0), .fr 3, none⟩, [])])) <|
 .reg [
 ⟨.mov (.fr 6), .tm, none⟩,
 ⟨.bin .add (.tm 0) (.c (.int .i64 1)), .tm, none⟩,
 ⟨.mov (.tm 0), .fr 6, none⟩])))
 (.skip)) <|
 .seq (.reg [
 ⟨.mov (.fr 3), .tm, none⟩,
 ⟨.mov (.tm 0), .fr 2, none⟩]) <|
 .ret, [.t 2]⟩
def f35 : AFunc := ⟨[0, 1, 2],
 .seq (.reg [
 ⟨.box 41 78 (.fr 0), .fr 1, none⟩,
 ⟨.mov (.c (.bool false)), .fr 2, none⟩]) <|
 .seq (.reg [
 ⟨.faddr 0 (.fr 1), .tm, none⟩,
 ⟨.load1 (.tm 0), .tm, none⟩,
 ⟨.bin .geq (.tm 0) (.c (.int .u8 1)), .tm, none⟩,
 ⟨.mov (.tm 0), .tm, none⟩,
 ⟨.faddr 0 (.fr 1), .tm, some ((.tm 0), true)⟩,
 ⟨.load1 (.tm 0), .tm, some ((.tm 1), true)⟩,
 ⟨.bin .leq (.tm 0) (.c (.int .u8 4)), .tm, some ((.tm 2), true)⟩,
 ⟨.pick (.tm 3) (.tm 0) (.c (.bool false)), .tm, none⟩,
 ⟨.mov (.tm 0), .tm, none⟩,
 ⟨.faddr 1 (.fr 1), .tm, some ((.tm 0), true)⟩,
 ⟨.load1 (.tm 0), .tm, some ((.tm 1), true)⟩,
 ⟨.faddr 2 (.fr 1), .tm, some ((.tm 2), true)⟩,
 ⟨.load1 (.tm 0), .tm, some ((.tm 3), true)⟩,
 ⟨.faddr 3 (.fr 1), .tm, some ((.tm 4), true)⟩,
 ⟨.load1 (.tm 0), .tm, some ((.tm 5), true)⟩,
 ⟨.faddr 4 (.fr 1), .tm, some ((.tm 6), true)⟩,
 ⟨.load1 (.tm 0), .tm, some ((.tm 7), true)⟩,
 ⟨.bslice 2 1 4 [(.int .i64 0), (.int .i64 0), (.int .i64 0), (.int .i64 0)] [(0, 1, (.tm 6)), (1, 1, (.tm 4)), (2, 1, (.tm 2)), (3, 1, (.tm 0))], .tm, some ((.tm 8), true)⟩,
 ⟨.callf 33 [(.tm 0)], .tm, some ((.tm 9), true)⟩,
 ⟨.pick (.tm 10) (.tm 0) (.c (.bool false)), .tm, none⟩,
 ⟨.mov (.tm 0), .tm, none⟩,
 ⟨.faddr 73 (.fr 1), .tm, some ((.tm 0), true)⟩,
 ⟨.loadn 5 (.tm 0), .tm, some ((.tm 1), true)⟩,
 ⟨.callf 31 [(.tm 0)], .tm, some ((.tm 2), true)⟩,
 ⟨.pick (.tm 3) (.tm 0) (.c (.bool false)), .tm, none⟩,
 ⟨.mov (.tm 0), .fr 2, none⟩]) <|
 .ret, [.t 2]⟩
def f47 : AFunc := ⟨[0, 2, 3, 4, 5],
 .seq (.reg [
 ⟨.new 26 68 Z68, .fr 1, none⟩,
 ⟨.mov (.c (.int .i64 0)), .fr 2, none⟩]) <|
 .seq (.reg [
 ⟨.mov (.fr 0), .tm, none⟩,
 ⟨.callf 73 [(.c (.int .u8 3)), (.tm 0)], .tm, none⟩,
 ⟨.mov (.tm 0), .tm, none⟩,
 ⟨.extract (.tm 0) 0, .tm, none⟩,
 ⟨.extract (.tm 1) 1, .tm, none⟩,
 ⟨.mov (.tm 1), .fr 3, none⟩,
 ⟨.mov (.tm 0), .fr 4, none⟩]) <|
 .seq (.reg [
 ⟨.mov (.fr 3), .tm, none⟩,
 ⟨.mov (.fr 4), .tm, none⟩,
 ⟨.mov (.fr 3), .tm, none⟩,
 ⟨.callf 75 [(.tm 0)], .tm, none⟩,
 ⟨.callf 74 [(.tm 3), (.tm 2), (.tm 0)], .tm, none⟩,
 ⟨.extract (.tm 0) 0, .tm, none⟩,
 ⟨.extract (.tm 1) 1, .tm, none⟩,
 ⟨.storen 68 (.fr 1) (.tm 1), .no, none⟩,
 ⟨.mov (.tm 0), .fr 2, none⟩]) <|
 .ret, [.cn 68 1, .t 2]⟩
def f52 : AFunc := ⟨[0, 1, 4],
 .seq (.reg [
 ⟨.mov (.c (.bool false)), .fr 2, none⟩]) <|
 .seq (.reg [
 ⟨.mov (.fr 0), .tm, none⟩,
 ⟨.b2s (.tm 0), .tm, none⟩,
 ⟨.mov (.fr 1), .tm, none⟩,
 ⟨.b2s (.tm 0), .tm, none⟩,
 ⟨.bin .eql (.tm 2) (.tm 0), .tm, none⟩,
 ⟨.mov (.tm 0), .fr 2, none⟩]) <|
 .ret, [.t 2]⟩
def f53 : AFunc := ⟨[0, 1, 2, 6, 12],
 .seq (.reg [
 ⟨.mov (.c (.int .u64 0)), .fr 3, none⟩]) <|
 .seq (.seq (.reg [
 ⟨.mov (.fr 1), .tm, none⟩,
 ⟨.mov (.fr 2), .tm, none⟩,
 ⟨.bin .add (.tm 1) (.tm 0), .tm, none⟩,
 ⟨.mov (.fr 0), .tm, none⟩,
 ⟨.len false (.tm 0), .tm, none⟩,
 ⟨.bin .gtr (.tm 2) (.tm 0), .fr 4, none⟩]) <|
 .cond (.fr 4)
 (.seq (.reg [
 ⟨.mov (.c (.int .u64 0)), .fr 3, none⟩]) <|
 .ret)
 (.skip)) <|
 .seq (.reg [
 ⟨.mov (.fr 0), .tm, none⟩,
 ⟨.mov (.fr 1), .tm, none⟩,
 ⟨.mov (.fr 1), .tm, none⟩,
 ⟨.mov (.fr 2), .tm, none⟩,
 ⟨.bin .add (.tm 1) (.tm 0), .tm, none⟩,
 ⟨.slsl 1 (.tm 4) (some (.tm 3)) (some (.tm 0)) none, .tm, none⟩,
 ⟨.callf 77 [(.tm 0)], .tm, none⟩,
 ⟨.mov (.tm 0), .fr 3, none⟩]) <|
 .ret, [.t 3]⟩
def f54 : AFunc := ⟨[0, 2, 3, 4, 12],
 .seq (.reg [
 ⟨.new 26 68 Z68, .fr 1, none⟩,
 ⟨.mov (.c (.bool false)), .fr 2, none⟩]) <|
 .seq (.reg [
 ⟨.mov (.fr 0), .tm, none⟩,
 ⟨.callf 78 [(.tm 0), (.c (.int .i64 1))], .tm, none⟩,
 ⟨.new 26 68 Z68, .fr 3, none⟩,
 ⟨.storen 68 (.fr 3) (.tm 0), .no, none⟩]) <|
 .seq (.seq (.dreg [
 (⟨.loadn 68 (.fr 3), .tm, none⟩, []),
 (⟨.callf 63 [(.tm 0)], .tm, none⟩, []),
 (⟨.b2s (.tm 0), .tm, none⟩, []),
 (⟨.mov (.fr 0), .tm, none⟩, []),
 (⟨.b2s (.tm 0), .tm, none⟩, [1]),
 (⟨.bin .neq (.tm 2) (.tm 0), .fr 4, none⟩, [])]) <|
 .cond (.fr 4)
 (.seq (.reg [
 ⟨.build Z68 [], .tm, none⟩,
 ⟨.storen 68 (.fr 1) (.tm 0), .no, none⟩,
 ⟨.mov (.c (.bool false)), .fr 2, none⟩]) <|
 .ret)
 (.skip)) <|
 .seq (.reg [
 ⟨.loadn 68 (.fr 3), .tm, none⟩,
 ⟨.storen 68 (.fr 1) (.tm 0), .no, none⟩,
 ⟨.mov (.c (.bool true)), .fr 2, none⟩]) <|
 .ret, [.cn 68 1, .t 2]⟩
def f58 : AFunc := ⟨[0, 1, 2],
 .seq (.reg [
 ⟨.box 26 68 (.fr 0), .fr 1, none⟩,
 ⟨.mov (.c (.slice none 0 0)), .fr 2, none⟩]) <|
 .seq (.reg [
 ⟨.loadn 68 (.fr 1), .tm, none⟩,
 ⟨.iface 26 (.tm 0), .tm, none⟩,
 ⟨.mkfn (.func 81) [] [(.fr 1)], .tm, none⟩,
 ⟨.callf 80 [(.c (.int .u8 3)), (.tm 1), (.tm 0)], .tm, none⟩,
 ⟨.mov (.tm 0), .fr 2, none⟩]) <|
 .ret, [.t 2]⟩
def f63 : AFunc := ⟨[0, 1, 2, 3],
 .seq (.reg [
 ⟨.box 26 68 (.fr 0), .fr 1, none⟩,
 ⟨.mov (.c (.slice none 0 0)), .fr 2, none⟩]) <|
 .seq (.reg [
 ⟨.bslice 5 1 1 [(.int .u8 0)] [(0, 1, (.c (.int .u8 3)))], .tm, none⟩,
 ⟨.mov (.tm 0), .fr 3, none⟩]) <|
 .seq (.reg [
 ⟨.mov (.fr 3), .tm, none⟩,
 ⟨.loadn 68 (.fr 1), .tm, none⟩,
 ⟨.callf 84 [(.tm 0)], .tm, none⟩,
 ⟨.app 5 1 1 (.tm 2) (.tm 0), .tm, none⟩,
 ⟨.callf 83 [(.tm 0)], .tm, none⟩,
 ⟨.mov (.tm 0), .fr 2, none⟩]) <|
 .ret, [.t 2]⟩
def f73 : AFunc := ⟨[0, 1, 4, 5, 6, 16],
 .seq (.reg [
 ⟨.mov (.c (.pointer none)), .fr 2, none⟩,
 ⟨.mov (.c (.bool false)), .fr 3, none⟩]) <|
 .seq (.seq (.reg [
 ⟨.mov (.fr 1), .tm, none⟩,
 ⟨.len false (.tm 0), .tm, none⟩,
 ⟨.bin .lss (.tm 0) (.c (.int .i64 5)), .tm, none⟩,
 ⟨.mov (.tm 0), .tm, none⟩,
 ⟨.mov (.fr 1), .tm, some ((.tm 0), false)⟩,
 ⟨.iaddr 1 (.tm 0) (.c (.int .i64 0)), .tm, some ((.tm 1), false)⟩,
 ⟨.load1 (.tm 0), .tm, some ((.tm 2), false)⟩,
 ⟨.mov (.fr 0), .tm, some ((.tm 3), false)⟩,
 ⟨.bin .neq (.tm 1) (.tm 0), .tm, some ((.tm 4), false)⟩,
 ⟨.pick (.tm 5) (.c (.bool true)) (.tm 0), .fr 5, none⟩]) <|
 .cond (.fr 5)
 (.seq (.reg [
 ⟨.mov (.c (.pointer none)), .fr 2, none⟩,
 ⟨.mov (.c (.bool false)), .fr 3, none⟩]) <|
 .ret)
 (.skip)) <|
 .seq (.reg [
 ⟨.mov (.fr 1), .tm, none⟩,
 ⟨.mov (.fr 1), .tm, none⟩,
 ⟨.len false (.tm 0), .tm, none⟩,
 ⟨.bin .sub (.tm 0) (.c (.int .i64 4)), .tm, none⟩,
 ⟨.slsl 1 (.tm 3) (some (.tm 0)) none none, .tm, none⟩,
 ⟨.callf 44 [(.tm 0)], .tm, none⟩,
 ⟨.mov (.tm 0), .fr 4, none⟩]) <|
 .seq (.dreg [
 (⟨.mov (.fr 1), .tm, none⟩, []),
 (⟨.mov (.fr 1), .tm, none⟩, []),
 (⟨.len false (.tm 0), .tm, none⟩, []),
 (⟨.bin .sub (.tm 0) (.c (.int .i64 4)), .tm, none⟩, []),
 (⟨.slsl 1 (.tm 3) (some (.c (.int .i64 1))) (some (.tm 0)) none, .tm, none⟩, []),
 (⟨.callf 44 [(.tm 0)], .tm, none⟩, []),
 (⟨.mov (.fr 4), .tm, none⟩, []),
 (⟨.callf 50 [(.tm 0)], .tm, none⟩, []),
 (⟨.mov (.fr 1), .tm, none⟩, []),
 (⟨.mov (.fr 1), .tm, none⟩, []),
 (⟨.len false (.tm 0), .tm, none⟩, []),
 (⟨.bin .sub (.tm 0) (.c (.int .i64 4)), .tm, none⟩, []),
 (⟨.slsl 1 (.tm 3) none (some (.tm 0)) none, .tm, none⟩, [5, 7]),
 (⟨.callf 87 [(.tm 0)], .tm, none⟩, []),
 (⟨.bin .eql (.tm 6) (.tm 0), .tm, none⟩, []),
 (⟨.mov (.tm 9), .fr 2, none⟩, []),
 (⟨.mov (.tm 0), .fr 3, none⟩, [])]) <|
 .ret, [.t 2, .t 3]⟩
def f74 : AFunc := ⟨[0, 1, 2, 5, 6, 7, 8, 25],
 .seq (.reg [
 ⟨.box 26 68 (.fr 2), .fr 3, none⟩,
 ⟨.new 26 68 Z68, .fr 4, none⟩,
 ⟨.mov (.c (.int .i64 0)), .fr 5, none⟩]) <|
 .seq (.reg [
 ⟨.new 26 68 Z68, .fr 6, none⟩]) <|
 .seq (.seq (.reg [
 ⟨.mov (.fr 1), .tm, none⟩,
 ⟨.un .not (.tm 0), .tm, none⟩,
 ⟨.mov (.tm 0), .tm, none⟩,
 ⟨.mov (.fr 0), .tm, some ((.tm 0), false)⟩,
 ⟨.callf 51 [(.tm 0)], .tm, some ((.tm 1), false)⟩,
 ⟨.pick (.tm 2) (.c (.bool true)) (.tm 0), .tm, none⟩,
 ⟨.mov (.tm 0), .tm, none⟩,
 ⟨.mov (.fr 0), .tm, some ((.tm 0), false)⟩,
 ⟨.callf 49 [(.tm 0)], .tm, some ((.tm 1), false)⟩,
 ⟨.bin .gtr (.tm 0) (.c (.int .i64 0)), .tm, some ((.tm 2), false)⟩,
 ⟨.pick (.tm 3) (.c (.bool true)) (.tm 0), .tm, none⟩,
 ⟨.mov (.tm 0), .tm, none⟩,
 ⟨.loadn 68 (.fr 3), .tm, some ((.tm 0), false)⟩,
 ⟨.iface 26 (.tm 0), .tm, some ((.tm 1), false)⟩,
 ⟨.callf 88 [(.tm 0)], .tm, some ((.tm 2), false)⟩,
 ⟨.un .not (.tm 0), .tm, some ((.tm 3), false)⟩,
 ⟨.pick (.tm 4) (.c (.bool true)) (.tm 0), .fr 7, none⟩]) <|
 .cond (.fr 7)
 (.seq (.reg [
 ⟨.loadn 68 (.fr 6), .tm, none⟩,
 ⟨.storen 68 (.fr 4) (.tm 0), .no, none⟩,
 ⟨.mov (.c (.int .i64 130)), .fr 5, none⟩]) <|
 .ret)
 (.skip)) <|
 .seq (.reg [
 ⟨.loadn 68 (.fr 3), .tm, none⟩,
 ⟨.storen 68 (.fr 4) (.tm 0), .no, none⟩,
 ⟨.mov (.c (.int .i64 0)), .fr 5, none⟩]) <|
 .ret, [.cn 68 4, .t 5]⟩
def f75 : AFunc := ⟨[0, 2, 3],
 .seq (.reg [
 ⟨.new 26 68 Z68, .fr 1, none⟩]) <|
 .seq (.reg [
 ⟨.mov (.fr 0), .tm, none⟩,
 ⟨.callf 46 [(.tm 0)], .tm, none⟩,
 ⟨.mov (.fr 0), .tm, none⟩,
 ⟨.callf 46 [(.tm 0)], .tm, none⟩,
 ⟨.mov (.fr 0), .tm, none⟩,
 ⟨.callf 46 [(.tm 0)], .tm, none⟩,
 ⟨.build Z68 [(0, 1, (.tm 4)), (1, 1, (.tm 2)), (2, 1, (.tm 0))], .tm, none⟩,
 ⟨.new 26 68 Z68, .fr 2, none⟩,
 ⟨.storen 68 (.fr 2) (.tm 0), .no, none⟩]) <|
 .seq (.dreg [
 (⟨.faddr 3 (.fr 2), .tm, none⟩, []),
 (⟨.slarr 1 64 (.tm 0) none none none, .tm, none⟩, []),
 (⟨.mov (.fr 0), .tm, none⟩, []),
 (⟨.callf 48 [(.tm 0), (.c (.int .i64 64))], .tm, none⟩, []),
 (⟨.copy 1 (.tm 2) (.tm 0), .tm, none⟩, [])]) <|
 .seq (.reg [
 ⟨.mov (.fr 0), .tm, none⟩,
 ⟨.callf 50 [(.tm 0)], .tm, none⟩,
 ⟨.faddr 67 (.fr 2), .tm, none⟩,
 ⟨.store1 (.tm 0) (.tm 1), .no, none⟩]) <|
 .seq (.reg [
 ⟨.loadn 68 (.fr 2), .tm, none⟩,
 ⟨.storen 68 (.fr 1) (.tm 0), .no, none⟩]) <|
 .ret, [.cn 68 1]⟩
def f78 : AFunc := ⟨[0, 1, 4, 5, 6, 25],
 .seq (.reg [
 ⟨.new 26 68 Z68, .fr 2, none⟩]) <|
 .seq (.reg [
 ⟨.mov (.fr 0), .tm, none⟩,
 ⟨.mov (.fr 1), .tm, none⟩,
 ⟨.callf 89 [(.tm 1), (.tm 0), (.c (.int .i64 8))], .tm, none⟩,
 ⟨.mov (.fr 0), .tm, none⟩,
 ⟨.mov (.fr 1), .tm, none⟩,
 ⟨.bin .add (.tm 0) (.c (.int .i64 8)), .tm, none⟩,
 ⟨.callf 89 [(.tm 2), (.tm 0), (.c (.int .i64 8))], .tm, none⟩,
 ⟨.mov (.fr 0), .tm, none⟩,
 ⟨.mov (.fr 1), .tm, none⟩,
 ⟨.bin .add (.tm 0) (.c (.int .i64 16)), .tm, none⟩,
 ⟨.callf 89 [(.tm 2), (.tm 0), (.c (.int .i64 8))], .tm, none⟩,
 ⟨.mov (.fr 0), .tm, none⟩,
 ⟨.mov (.fr 1), .tm, none⟩,
 ⟨.bin .add (.tm 0) (.c (.int .i64 88)), .tm, none⟩,
 ⟨.callf 89 [(.tm 2), (.tm 0), (.c (.int .i64 4))], .tm, none⟩,
 ⟨.i2i .u32 (.tm 0), .tm, none⟩,
 ⟨.build Z68 [(0, 1, (.tm 13)), (1, 1, (.tm 9)), (2, 1, (.tm 5)), (67, 1, (.tm 0))], .tm, none⟩,
 ⟨.new 26 68 Z68, .fr 3, none⟩,
 ⟨.storen 68 (.fr 3) (.tm 0), .no, none⟩]) <|
 .seq (.seq (.reg [
 ⟨.mov (.c (.int .i64 0)), .fr 4, none⟩]) <|
 .block 0 (.loop (.seq (.seq (.reg [
 ⟨.mov (.fr 4), .tm, none⟩,
 ⟨.bin .lss (.tm 0) (.c (.int .i64 64)), .fr 5, none⟩]) <|
 .cond (.fr 5)
 (.skip)
 (.exit 0)) <|
 .seq (.block 1 (.reg [
 ⟨.mov (.fr 4), .tm, none⟩,
 ⟨.mov (.fr 0), .tm, none⟩,
 ⟨.mov (.fr 1), .tm, none⟩,
 ⟨.bin .add (.tm 0) (.c (.int .i64 24)), .tm, none⟩,
 ⟨.mov (.fr 4), .tm, none⟩,
 ⟨.bin .add (.tm 1) (.tm 0), .tm, none⟩,
 ⟨.callf 89 [(.tm 4), (.tm 0), (.c (.int .i64 1))], .tm, none⟩,
 ⟨.i2i .u8 (.tm 0), .tm, none⟩,
 ⟨.faddr 3 (.fr 3), .tm, none⟩,
 ⟨.iaddrp 1 64 (.tm 0) (.tm 8), .tm, none⟩,
 ⟨.store1 (.tm 0) (.tm 2), .no, none⟩])) <|
 .reg [
 ⟨.mov (.fr 4), .tm, none⟩,
 ⟨.bin .add (.tm 0) (.c (.int .i64 1)), .tm, none⟩,
 ⟨.mov (.tm 0), .fr 4, none⟩]))) <|
 .seq (.reg [
 ⟨.loadn 68 (.fr 3), .tm, none⟩,
 ⟨.storen 68 (.fr 2) (.tm 0), .no, none⟩]) <|
 .ret, [.cn 68 2]⟩
def f80 : AFunc := ⟨[0, 1, 2, 6, 7, 10],
 .seq (.reg [
 ⟨.mov (.c (.slice none 0 0)), .fr 3, none⟩]) <|
 .seq (.seq (.reg [
 ⟨.mov (.fr 1), .tm, none⟩,
 ⟨.callf 88 [(.tm 0)], .tm, none⟩,
 ⟨.un .not (.tm 0), .fr 5, none⟩]) <|
 .cond (.fr 5)
 (.seq (.reg [
 ⟨.mov (.c (.slice none 0 0)), .fr 3, none⟩]) <|
 .ret)
 (.skip)) <|
 .seq (.reg [
 ⟨.new 120 1 [(.slice none 0 0)], .fr 4, none⟩]) <|
 .seq (.reg [
 ⟨.mov (.fr 0), .tm, none⟩,
 ⟨.callf 55 [(.fr 4), (.tm 0)], .tm, none⟩]) <|
 .seq (.reg [
 ⟨.mov (.fr 2), .tm, none⟩,
 ⟨.callv (.tm 0) [(.fr 4)], .tm, none⟩]) <|
 .seq (.reg [
 ⟨.callf 60 [(.fr 4)], .tm, none⟩,
 ⟨.callf 87 [(.tm 0)], .tm, none⟩,
 ⟨.callf 59 [(.fr 4), (.tm 0)], .tm, none⟩]) <|
 .seq (.reg [
 ⟨.callf 60 [(.fr 4)], .tm, none⟩,
 ⟨.mov (.tm 0), .fr 3, none⟩]) <|
 .ret, [.t 3]⟩
def f81 : AFunc := ⟨[0, 1],
 .reg [
 ⟨.mov (.fr 0), .tm, none⟩,
 ⟨.loadn 68 (.fr 1), .tm, none⟩,
 ⟨.callf 82 [(.tm 1), (.tm 0)], .tm, none⟩], []⟩
def f82 : AFunc := ⟨[0, 1, 3],
 .seq (.reg [
 ⟨.box 26 68 (.fr 1), .fr 2, none⟩]) <|
 .seq (.reg [
 ⟨.mov (.fr 0), .tm, none⟩,
 ⟨.faddr 0 (.fr 2), .tm, none⟩,
 ⟨.load1 (.tm 0), .tm, none⟩,
 ⟨.callf 56 [(.tm 2), (.tm 0)], .tm, none⟩]) <|
 .seq (.reg [
 ⟨.mov (.fr 0), .tm, none⟩,
 ⟨.faddr 1 (.fr 2), .tm, none⟩,
 ⟨.load1 (.tm 0), .tm, none⟩,
 ⟨.callf 56 [(.tm 2), (.tm 0)], .tm, none⟩]) <|
 .seq (.reg [
 ⟨.mov (.fr 0), .tm, none⟩,
 ⟨.faddr 2 (.fr 2), .tm, none⟩,
 ⟨.load1 (.tm 0), .tm, none⟩,
 ⟨.callf 56 [(.tm 2), (.tm 0)], .tm, none⟩]) <|
 .seq (.reg [
 ⟨.mov (.fr 0), .tm, none⟩,
 ⟨.faddr 3 (.fr 2), .tm, none⟩,
 ⟨.slarr 1 64 (.tm 0) none none none, .tm, none⟩,
 ⟨.callf 57 [(.tm 2), (.tm 0)], .tm, none⟩]) <|
 .reg [
 ⟨.mov (.fr 0), .tm, none⟩,
 ⟨.faddr 67 (.fr 2), .tm, none⟩,
 ⟨.load1 (.tm 0), .tm, none⟩,
 ⟨.callf 59 [(.tm 2), (.tm 0)], .tm, none⟩], []⟩
def f83 : AFunc := ⟨[0, 2],
 .seq (.reg [
 ⟨.mov (.c (.slice none 0 0)), .fr 1, none⟩]) <|
 .seq (.reg [
 ⟨.mov (.fr 0), .tm, none⟩,
 ⟨.mov (.fr 0), .tm, none⟩,
 ⟨.callf 92 [(.tm 0)], .tm, none⟩,
 ⟨.i2i .u64 (.tm 0), .tm, none⟩,
 ⟨.callf 91 [(.tm 0), (.c (.int .i64 4))], .tm, none⟩,
 ⟨.app 5 1 1 (.tm 4) (.tm 0), .tm, none⟩,
 ⟨.mov (.tm 0), .fr 1, none⟩]) <|
 .ret, [.t 1]⟩
def f84 : AFunc := ⟨[0, 1, 2, 3, 4, 19],
 .seq (.reg [
 ⟨.box 26 68 (.fr 0), .fr 1, none⟩,
 ⟨.mov (.c (.slice none 0 0)), .fr 2, none⟩]) <|
 .seq (.reg [
 ⟨.faddr 0 (.fr 1), .tm, none⟩,
 ⟨.load1 (.tm 0), .tm, none⟩,
 ⟨.callf 91 [(.tm 0), (.c (.int .i64 8))], .tm, none⟩,
 ⟨.mov (.tm 0), .fr 3, none⟩]) <|
 .seq (.reg [
 ⟨.mov (.fr 3), .tm, none⟩,
 ⟨.faddr 1 (.fr 1), .tm, none⟩,
 ⟨.load1 (.tm 0), .tm, none⟩,
 ⟨.callf 91 [(.tm 0), (.c (.int .i64 8))], .tm, none⟩,
 ⟨.app 5 1 1 (.tm 3) (.tm 0), .tm, none⟩,
 ⟨.mov (.tm 0), .fr 3, none⟩]) <|
 .seq (.reg [
 ⟨.mov (.fr 3), .tm, none⟩,
 ⟨.faddr 2 (.fr 1), .tm, none⟩,
 ⟨.load1 (.tm 0), .tm, none⟩,
 ⟨.callf 91 [(.tm 0), (.c (.int .i64 8))], .tm, none⟩,
 ⟨.app 5 1 1 (.tm 3) (.tm 0), .tm, none⟩,
 ⟨.mov (.tm 0), .fr 3, none⟩]) <|
 .seq (.seq (.reg [
 ⟨.mov (.c (.int .i64 0)), .fr 4, none⟩]) <|
 .block 0 (.loop (.seq (.seq (.reg [
 ⟨.mov (.fr 4), .tm, none⟩,
 ⟨.bin .lss (.tm 0) (.c (.int .i64 64)), .fr 5, none⟩]) <|
 .cond (.fr 5)
 (.skip)
 (.exit 0)) <|
 .seq (.block 1 (.reg [
 ⟨.mov (.fr 3), .tm, none⟩,
 ⟨.mov (.fr 4), .tm, none⟩,
 ⟨.faddr 3 (.fr 1), .tm, none⟩,
 ⟨.iaddrp 1 64 (.tm 0) (.tm 1), .tm, none⟩,
 ⟨.load1 (.tm 0), .tm, none⟩,
 ⟨.bslice 5 1 1 [(.int .u8 0)] [(0, 1, (.tm 0))], .tm, none⟩,
 ⟨.app 5 1 1 (.tm 5) (.tm 0), .tm, none⟩,
 ⟨.mov (.tm 0), .fr 3, none⟩])) <|
 .reg [
 ⟨.mov (.fr 4), .tm, none⟩,
 ⟨.bin .add (.tm 0) (.c (.int .i64 1)), .tm, none⟩,
 ⟨.mov (.tm 0), .fr 4, none⟩]))) <|
 .seq (.reg [
 ⟨.mov (.fr 3), .tm, none⟩,
 ⟨.faddr 67 (.fr 1), .tm, none⟩,
 ⟨.load1 (.tm 0), .tm, none⟩,
 ⟨.i2i .u64 (.tm 0), .tm, none⟩,
 ⟨.callf 91 [(.tm 0), (.c (.int .i64 4))], .tm, none⟩,
 ⟨.app 5 1 1 (.tm 4) (.tm 0), .tm, none⟩,
 ⟨.mov (.tm 0), .fr 2, none⟩]) <|
 .ret, [.t 2]⟩
def f88 : AFunc := ⟨[0, 2, 3, 4, 5, 6, 7, 8, 9, 10, 16, 40, 52],
 .seq (.reg [
 ⟨.mov (.c (.bool false)), .fr 1, none⟩]) <|
 .seq (.seq (.reg [
 ⟨.mov (.fr 0), .tm, none⟩,
 ⟨.assert 169 (.agg #[(.int .u8 0), (.int .i64 0), (.int .u64 0), (.int .u32 0), (.int .u32 0), (.slice none 0 0)]) true (.tm 0), .tm, none⟩,
 ⟨.mov (.tm 0), .tm, none⟩,
 ⟨.extract (.tm 0) 0, .tm, none⟩,
 ⟨.extract (.tm 1) 1, .tm, none⟩,
 ⟨.new 169 6 [(.int .u8 0), (.int .i64 0), (.int .u64 0), (.int .u32 0), (.int .u32 0), (.slice none 0 0)], .fr 2, none⟩,
 ⟨.storen 6 (.fr 2) (.tm 1), .no, none⟩,
 ⟨.mov (.tm 0), .fr 3, none⟩]) <|
 .seq (.reg [
 ⟨.mov (.fr 3), .fr 10, none⟩]) <|
 .cond (.fr 10)
 (.seq (.reg [
 ⟨.faddr 1 (.fr 2), .tm, none⟩,
 ⟨.load1 (.tm 0), .tm, none⟩,
 ⟨.bslice 2 1 1 [(.int .i64 0)] [(0, 1, (.tm 0))], .tm, none⟩,
 ⟨.callf 95 [(.tm 0)], .tm, none⟩,
 ⟨.mov (.tm 0), .tm, none⟩,
 ⟨.faddr 2 (.fr 2), .tm, some ((.tm 0), true)⟩,
 ⟨.faddr 3 (.tm 0), .tm, some ((.tm 1), true)⟩,
 ⟨.load1 (.tm 0), .tm, some ((.tm 2), true)⟩,
 ⟨.len false (.tm 0), .tm, some ((.tm 3), true)⟩,
 ⟨.bin .leq (.tm 0) (.c (.int .i64 8)), .tm, some ((.tm 4), true)⟩,
 ⟨.pick (.tm 5) (.tm 0) (.c (.bool false)), .tm, none⟩,
 ⟨.mov (.tm 0), .tm, none⟩,
 ⟨.faddr 2 (.fr 2), .tm, some ((.tm 0), true)⟩,
 ⟨.faddr 3 (.tm 0), .tm, some ((.tm 1), true)⟩,
 ⟨.load1 (.tm 0), .tm, some ((.tm 2), true)⟩,
 ⟨.callf 96 [(.tm 0), (.fn 97)], .tm, some ((.tm 3), true)⟩,
 ⟨.un .not (.tm 0), .tm, some ((.tm 4), true)⟩,
 ⟨.pick (.tm 5) (.tm 0) (.c (.bool false)), .tm, none⟩,
 ⟨.mov (.tm 0), .fr 1, none⟩]) <|
 .ret)
 (.skip)) <|
 .seq (.seq (.reg [
 ⟨.mov (.fr 0), .tm, none⟩,
 ⟨.assert 178 (.agg #[(.int .u8 0), (.int .i64 0), (.int .i64 0), (.int .u64 0), (.int .u32 0)]) true (.tm 0), .tm, none⟩,
 ⟨.mov (.tm 0), .tm, none⟩,
 ⟨.extract (.tm 0) 0, .tm, none⟩,
 ⟨.extract (.tm 1) 1, .tm, none⟩,
 ⟨.new 178 5 [(.int .u8 0), (.int .i64 0), (.int .i64 0), (.int .u64 0), (.int .u32 0)], .fr 4, none⟩,
 ⟨.storen 5 (.fr 4) (.tm 1), .no, none⟩,
 ⟨.mov (.tm 0), .fr 5, none⟩]) <|
 .seq (.reg [
 ⟨.mov (.fr 5), .fr 11, none⟩]) <|
 .cond (.fr 11)
 (.seq (.reg [
 ⟨.faddr 1 (.fr 4), .tm, none⟩,
 ⟨.load1 (.tm 0), .tm, none⟩,
 ⟨.faddr 2 (.fr 4), .tm, none⟩,
 ⟨.load1 (.tm 0), .tm, none⟩,
 ⟨.bslice 2 1 2 [(.int .i64 0), (.int .i64 0)] [(0, 1, (.tm 2)), (1, 1, (.tm 0))], .tm, none⟩,
 ⟨.callf 95 [(.tm 0)], .tm, none⟩,
 ⟨.mov (.tm 0), .fr 1, none⟩]) <|
 .ret)
 (.skip)) <|
 .seq (.seq (.reg [
 ⟨.mov (.fr 0), .tm, none⟩,
 ⟨.assert 54 (.agg Z70.toArray) true (.tm 0), .tm, none⟩,
 ⟨.mov (.tm 0), .tm, none⟩,
 ⟨.extract (.tm 0) 0, .tm, none⟩,
 ⟨.extract (.tm 1) 1, .tm, none⟩,
 ⟨.new 54 70 Z70, .fr 6, none⟩,
 ⟨.storen 70 (.fr 6) (.tm 1), .no, none⟩,
 ⟨.mov (.tm 0), .fr 7, none⟩]) <|
 .seq (.reg [
 ⟨.mov (.fr 7), .fr 12, none⟩]) <|
 .cond (.fr 12)
 (.seq (.reg [
 ⟨.faddr 0 (.fr 6), .tm, none⟩,
 ⟨.load1 (.tm 0), .tm, none⟩,
 ⟨.faddr 1 (.fr 6), .tm, none⟩,
 ⟨.load1 (.tm 0), .tm, none⟩,
 ⟨.bslice 2 1 2 [(.int .i64 0), (.int .i64 0)] [(0, 1, (.tm 2)), (1, 1, (.tm 0))], .tm, none⟩,
 ⟨.callf 95 [(.tm 0)], .tm, none⟩,
 ⟨.mov (.tm 0), .fr 1, none⟩]) <|
 .ret)
 (.skip)) <|
 .seq (.reg [
 ⟨.mov (.fr 0), .tm, none⟩,
 ⟨.assert 181 (.agg #[(.int .u8 0), (.int .u8 0), (.int .i64 0), (.int .i64 0), (.slice none 0 0)]) true (.tm 0), .tm, none⟩,
 ⟨.mov (.tm 0), .tm, none⟩,
 ⟨.extract (.tm 0) 0, .tm, none⟩,
 ⟨.extract (.tm 1) 1, .tm, none⟩,
 ⟨.new 181 5 [(.int .u8 0), (.int .u8 0), (.int .i64 0), (.int .i64 0), (.slice none 0 0)], .fr 8, none⟩,
 ⟨.storen 5 (.fr 8) (.tm 1), .no, none⟩,
 ⟨.mov (.tm 0), .fr 9, none⟩]) <|
 .seq (.reg [
 ⟨.mov (.fr 9), .tm, none⟩,
 ⟨.un .not (.tm 0), .tm, none⟩,
 ⟨.mov (.tm 0), .tm, none⟩,
 ⟨.faddr 2 (.fr 8), .tm, some ((.tm 0), false)⟩,
 ⟨.load1 (.tm 0), .tm, some ((.tm 1), false)⟩,
 ⟨.bin .geq (.tm 0) (.c (.int .i64 0)), .tm, some ((.tm 2), false)⟩,
 ⟨.mov (.tm 0), .tm, some ((.tm 3), false)⟩,
 ⟨.faddr 2 (.fr 8), .tm, some ((.tm 0), true)⟩,
 ⟨.load1 (.tm 0), .tm, some ((.tm 1), true)⟩,
 ⟨.bin .leq (.tm 0) (.c (.int .i64 4611686018427387904)), .tm, some ((.tm 2), true)⟩,
 ⟨.pick (.tm 3) (.tm 0) (.c (.bool false)), .tm, some ((.tm 7), false)⟩,
 ⟨.mov (.tm 0), .tm, some ((.tm 8), false)⟩,
 ⟨.faddr 3 (.fr 8), .tm, some ((.tm 0), true)⟩,
 ⟨.load1 (.tm 0), .tm, some ((.tm 1), true)⟩,
 ⟨.bin .geq (.tm 0) (.c (.int .i64 0)), .tm, some ((.tm 2), true)⟩,
 ⟨.pick (.tm 3) (.tm 0) (.c (.bool false)), .tm, some ((.tm 12), false)⟩,
 ⟨.mov (.tm 0), .tm, some ((.tm 13), false)⟩,
 ⟨.faddr 3 (.fr 8), .tm, some ((.tm 0), true)⟩,
 ⟨.load1 (.tm 0), .tm, some ((.tm 1), true)⟩,
 ⟨.bin .leq (.tm 0) (.c (.int .i64 4611686018427387904)), .tm, some ((.tm 2), true)⟩,
 ⟨.pick (.tm 3) (.tm 0) (.c (.bool false)), .tm, some ((.tm 17), false)⟩,
 ⟨.mov (.tm 0), .tm, some ((.tm 18), false)⟩,
 ⟨.faddr 4 (.fr 8), .tm, some ((.tm 0), true)⟩,
 ⟨.load1 (.tm 0), .tm, some ((.tm 1), true)⟩,
 ⟨.len false (.tm 0), .tm, some ((.tm 2), true)⟩,
 ⟨.bin .leq (.tm 0) (.c (.int .i64 2048)), .tm, some ((.tm 3), true)⟩,
 ⟨.pick (.tm 4) (.tm 0) (.c (.bool false)), .tm, some ((.tm 23), false)⟩,
 ⟨.pick (.tm 24) (.c (.bool true)) (.tm 0), .tm, none⟩,
 ⟨.mov (.tm 0), .fr 1, none⟩]) <|
 .ret, [.t 1]⟩
def f89 : AFunc := ⟨[0, 1, 2, 6, 12],
 .seq (.reg [
 ⟨.mov (.c (.int .u64 0)), .fr 3, none⟩]) <|
 .seq (.seq (.reg [
 ⟨.mov (.fr 1), .tm, none⟩,
 ⟨.mov (.fr 2), .tm, none⟩,
 ⟨.bin .add (.tm 1) (.tm 0), .tm, none⟩,
 ⟨.mov (.fr 0), .tm, none⟩,
 ⟨.len false (.tm 0), .tm, none⟩,
 ⟨.bin .gtr (.tm 2) (.tm 0), .fr 4, none⟩]) <|
 .cond (.fr 4)
 (.seq (.reg [
 ⟨.mov (.c (.int .u64 0)), .fr 3, none⟩]) <|
 .ret)
 (.skip)) <|
 .seq (.reg [
 ⟨.mov (.fr 0), .tm, none⟩,
 ⟨.mov (.fr 1), .tm, none⟩,
 ⟨.mov (.fr 1), .tm, none⟩,
 ⟨.mov (.fr 2), .tm, none⟩,
 ⟨.bin .add (.tm 1) (.tm 0), .tm, none⟩,
 ⟨.slsl 1 (.tm 4) (some (.tm 3)) (some (.tm 0)) none, .tm, none⟩,
 ⟨.callf 77 [(.tm 0)], .tm, none⟩,
 ⟨.mov (.tm 0), .fr 3, none⟩]) <|
 .ret, [.t 3]⟩
def f91 : AFunc := ⟨[0, 1, 4],
 .seq (.reg [
 ⟨.mov (.c (.slice none 0 0)), .fr 2, none⟩]) <|
 .seq (.reg [
 ⟨.mov (.fr 0), .tm, none⟩,
 ⟨.mov (.fr 1), .tm, none⟩,
 ⟨.callf 62 [(.tm 1), (.tm 0)], .tm, none⟩,
 ⟨.mov (.tm 0), .fr 2, none⟩]) <|
 .ret, [.t 2]⟩
theorem f6_ok : compF Go.Proofs.Try.prog 0 [0, 1, 2, 4, 5, 6, 7, 8, 9, 10, 11, 12, 13, 14, 24, 75, 84] 6 = some f6 := by kernel_rfl
theorem f6_n : argsOK Go.Proofs.Try.prog 6 2 = true := by kernel_rfl
theorem f25_ok : compF Go.Proofs.Try.prog 0 [0, 2, 3, 4, 5, 6, 7, 8, 40, 41, 58, 71, 72, 73, 88, 118] 25 = some f25 := by kernel_rfl
theorem f25_n : argsOK Go.Proofs.Try.prog 25 1 = true := by kernel_rfl
theorem f26_ok : compF Go.Proofs.Try.prog 0 [0, 2, 3, 4, 5, 6, 7, 8, 11, 31, 49, 55, 74, 140] 26 = some f26 := by kernel_rfl
theorem f26_n : argsOK Go.Proofs.Try.prog 26 1 = true := by kernel_rfl
theorem f27_ok : compF Go.Proofs.Try.prog 0 [0, 1, 2, 3, 5, 7, 9, 12, 24, 25, 26, 33, 34, 40, 51, 52, 53, 70, 71, 72, 73] 27 = some f27 := by kernel_rfl
theorem f27_n : argsOK Go.Proofs.Try.prog 27 1 = true := by kernel_rfl
theorem f28_ok : compF Go.Proofs.Try.prog 0 [0, 1, 2, 3, 4, 5, 6, 9, 23, 36, 44, 77] 28 = some f28 := by kernel_rfl
theorem f28_n : argsOK Go.Proofs.Try.prog 28 1 = true := by kernel_rfl
theorem f35_ok : compF Go.Proofs.Try.prog 0 [0, 1, 2] 35 = some f35 := by kernel_rfl
theorem f35_n : argsOK Go.Proofs.Try.prog 35 1 = true := by kernel_rfl
theorem f47_ok : compF Go.Proofs.Try.prog 0 [0, 2, 3, 4, 5] 47 = some f47 := by kernel_rfl
theorem f47_n : argsOK Go.Proofs.Try.prog 47 1 = true := by kernel_rfl
theorem f52_ok : compF Go.Proofs.Try.prog 0 [0, 1, 4] 52 = some f52 := by kernel_rfl
theorem f52_n : argsOK Go.Proofs.Try.prog 52 2 = true := by kernel_rfl
theorem f53_ok : compF Go.Proofs.Try.prog 0 [0, 1, 2, 6, 12] 53 = some f53 := by kernel_rfl
theorem f53_n : argsOK Go.Proofs.Try.prog 53 3 = true := by kernel_rfl
theorem f54_ok : compF Go.Proofs.Try.prog 0 [0, 2, 3, 4, 12] 54 = some f54 := by kernel_rfl
theorem f54_n : argsOK Go.Proofs.Try.prog 54 1 = true := by kernel_rfl
theorem f58_ok : compF Go.Proofs.Try.prog 0 [0, 1, 2] 58 = some f58 := by kernel_rfl
theorem f58_n : argsOK Go.Proofs.Try.prog 58 1 = true := by kernel_rfl
theorem f63_ok : compF Go.Proofs.Try.prog 0 [0, 1, 2, 3] 63 = some f63 := by kernel_rfl
theorem f63_n : argsOK Go.Proofs.Try.prog 63 1 = true := by kernel_rfl
theorem f73_ok : compF Go.Proofs.Try.prog 0 [0, 1, 4, 5, 6, 16] 73 = some f73 := by kernel_rfl
theorem f73_n : argsOK Go.Proofs.Try.prog 73 2 = true := by kernel_rfl
theorem f74_ok : compF Go.Proofs.Try.prog 0 [0, 1, 2, 5, 6, 7, 8, 25] 74 = some f74 := by kernel_rfl
theorem f74_n : argsOK Go.Proofs.Try.prog 74 3 = true := by kernel_rfl
theorem f75_ok : compF Go.Proofs.Try.prog 0 [0, 2, 3] 75 = some f75 := by kernel_rfl
theorem f75_n : argsOK Go.Proofs.Try.prog 75 1 = true := by kernel_rfl
theorem f78_ok : compF Go.Proofs.Try.prog 0 [0, 1, 4, 5, 6, 25] 78 = some f78 := by kernel_rfl
theorem f78_n : argsOK Go.Proofs.Try.prog 78 2 = true := by kernel_rfl
theorem f80_ok : compF Go.Proofs.Try.prog 0 [0, 1, 2, 6, 7, 10] 80 = some f80 := by kernel_rfl
theorem f80_n : argsOK Go.Proofs.Try.prog 80 3 = true := by kernel_rfl
theorem f81_ok : compF Go.Proofs.Try.prog 0 [0, 1] 81 = some f81 := by kernel_rfl
theorem f81_n : argsOK Go.Proofs.Try.prog 81 2 = true := by kernel_rfl
theorem f82_ok : compF Go.Proofs.Try.prog 0 [0, 1, 3] 82 = some f82 := by kernel_rfl
theorem f82_n : argsOK Go.Proofs.Try.prog 82 2 = true := by kernel_rfl
theorem f83_ok : compF Go.Proofs.Try.prog 0 [0, 2] 83 = some f83 := by kernel_rfl
theorem f83_n : argsOK Go.Proofs.Try.prog 83 1 = true := by kernel_rfl
theorem f84_ok : compF Go.Proofs.Try.prog 0 [0, 1, 2, 3, 4, 19] 84 = some f84 := by kernel_rfl
theorem f84_n : argsOK Go.Proofs.Try.prog 84 1 = true := by kernel_rfl
theorem f88_ok : compF Go.Proofs.Try.prog 0 [0, 2, 3, 4, 5, 6, 7, 8, 9, 10, 16, 40, 52] 88 = some f88 := by kernel_rfl
theorem f88_n : argsOK Go.Proofs.Try.prog 88 1 = true := by kernel_rfl
theorem f89_ok : compF Go.Proofs.Try.prog 0 [0, 1, 2, 6, 12] 89 = some f89 := by kernel_rfl
theorem f89_n : argsOK Go.Proofs.Try.prog 89 3 = true := by kernel_rfl
theorem f91_ok : compF Go.Proofs.Try.prog 0 [0, 1, 4] 91 = some f91 := by kernel_rfl
theorem f91_n : argsOK Go.Proofs.Try.prog 91 2 = true := by kernel_rfl
end Go.AM.F

set_option maxRecDepth 100000
namespace Go.AM.F
def f87 : AFunc := ⟨[0, 2, 3, 5, 6, 7, 8, 9],
 .seq (.reg [
 ⟨.mov (.c (.int .u32 0)), .fr 1, none⟩]) <|
 .seq (.reg [
 ⟨.mov (.c (.int .u32 4294967295)), .fr 2, none⟩]) <|
 .seq (.seq (.reg [
 ⟨.mov (.fr 0), .fr 4, none⟩,
 ⟨.len false (.fr 4), .fr 5, none⟩,
 ⟨.mov (.c (.int .i64 0)), .fr 6, none⟩]) <|
 .block 0 (.loop (.seq (.reg [
 ⟨.bin .lss (.fr 6) (.fr 5), .fr 7, none⟩]) <|
 .seq (.cond (.fr 7)
 (.skip)
 (.exit 0)) <|
 .seq (.block 1 (.seq (.reg [
 ⟨.iaddr 1 (.fr 4) (.fr 6), .tm, none⟩,
 ⟨.load1 (.tm 0), .tm, none⟩,
 ⟨.mov (.tm 0), .fr 3, none⟩]) <|
 .reg [
 ⟨.mov (.fr 2), .tm, none⟩,
 ⟨.mov (.fr 3), .tm, none⟩,
 ⟨.i2i .u32 (.tm 0), .tm, none⟩,
 ⟨.bin .xor (.tm 2) (.tm 0), .tm, none⟩,
 ⟨.callf 93 [(.tm 0), (.fn 94)], .tm, none⟩,
 ⟨.mov (.tm 0), .fr 2, none⟩])) <|
 .reg [
 ⟨.bin .add (.fr 6) (.c (.int .i64 1)), .tm, none⟩,
 ⟨.mov (.tm 0), .fr 6, none⟩]))) <|
 .seq (.reg [
 ⟨.mov (.fr 2), .tm, none⟩,
 ⟨.un .xor (.tm 0), .tm, none⟩,
 ⟨.mov (.tm 0), .fr 1, none⟩]) <|
 .ret, [.t 1]⟩
def f92 : AFunc := ⟨[0, 2],
 .seq (.reg [
 ⟨.mov (.c (.int .u32 0)), .fr 1, none⟩]) <|
 .seq (.reg [
 ⟨.mov (.fr 0), .tm, none⟩,
 ⟨.callf 98 [(.c (.int .u32 4294967295)), (.tm 0)], .tm, none⟩,
 ⟨.un .xor (.tm 0), .tm, none⟩,
 ⟨.mov (.tm 0), .fr 1, none⟩]) <|
 .ret, [.t 1]⟩
def f93 : AFunc := ⟨[0, 1, 4, 5, 6],
 .seq (.reg [
 ⟨.mov (.c (.int .u32 0)), .fr 2, none⟩]) <|
 .seq (.seq (.reg [
 ⟨.mov (.c (.int .i64 0)), .fr 3, none⟩]) <|
 .block 0 (.loop (.seq (.reg [
 ⟨.bin .lss (.fr 3) (.c (.int .i64 8)), .fr 4, none⟩]) <|
 .seq (.cond (.fr 4)
 (.skip)
 (.exit 0)) <|
 .seq (.block 1 (.reg [
 ⟨.mov (.fr 1), .tm, none⟩,
 ⟨.mov (.fr 0), .tm, none⟩,
 ⟨.callv (.tm 1) [(.tm 0)], .tm, none⟩,
 ⟨.mov (.tm 0), .fr 0, none⟩])) <|
 .reg [
 ⟨.bin .add (.fr 3) (.c (.int .i64 1)), .tm, none⟩,
 ⟨.mov (.tm 0), .fr 3, none⟩]))) <|
 .seq (.reg [
 ⟨.mov (.fr 0), .tm, none⟩,
 ⟨.mov (.tm 0), .fr 2, none⟩]) <|
 .ret, [.t 2]⟩
def f94 : AFunc := ⟨[0, 2, 5],
 .seq (.reg [
 ⟨.mov (.c (.int .u32 0)), .fr 1, none⟩]) <|
 .seq (.seq (.reg [
 ⟨.mov (.fr 0), .tm, none⟩,
 ⟨.bin .and (.tm 0) (.c (.int .u32 1)), .tm, none⟩,
 ⟨.bin .gtr (.tm 0) (.c (.int .u32 0)), .fr 2, none⟩]) <|
 .cond (.fr 2)
 (.seq (.reg [
 ⟨.mov (.fr 0), .tm, none⟩,
 ⟨.bin .shr (.tm 0) (.c (.int .u64 1)), .tm, none⟩,
 ⟨.bin .xor (.tm 0) (.c (.int .u32 3988292384)), .tm, none⟩,
 ⟨.mov (.tm 0), .fr 1, none⟩]) <|
 .ret)
 (.skip)) <|
 .seq (.reg [
 ⟨.mov (.fr 0), .tm, none⟩,
 ⟨.bin .shr (.tm 0) (.c (.int .u64 1)), .tm, none⟩,
 ⟨.mov (.tm 0), .fr 1, none⟩]) <|
 .ret, [.t 1]⟩
def f98 : AFunc := ⟨[0, 1, 4, 5, 6, 7, 8, 13, 26, 33],
 .seq (.reg [
 ⟨.mov (.c (.int .u32 0)), .fr 2, none⟩]) <|
 .seq (.reg [
 ⟨.bslice 24 1 8 [(.int .u32 0), (.int .u32 0), (.int .u32 0), (.int .u32 0), (.int .u32 0), (.int .u32 0), (.int .u32 0), (.int .u32 0)] [(0, 1, (.c (.int .u32 1996959894))), (1, 1, (.c (.int .u32 3993919788))), (2, 1, (.c (.int .u32 124634137))), (3, 1, (.c (.int .u32 249268274))), (4, 1, (.c (.int .u32 498536548))), (5, 1, (.c (.int .u32 997073096))), (6, 1, (.c (.int .u32 1994146192))), (7, 1, (.c (.int .u32 3988292384)))], .tm, none⟩,
 ⟨.mov (.tm 0), .fr 3, none⟩]) <|
 .seq (.seq (.reg [
 ⟨.mov (.c (.int .i64 0)), .fr 4, none⟩]) <|
 .block 0 (.loop (.seq (.seq (.reg [
 ⟨.mov (.fr 4), .tm, none⟩,
 ⟨.mov (.fr 1), .tm, none⟩,
 ⟨.len false (.tm 0), .tm, none⟩,
 ⟨.bin .lss (.tm 2) (.tm 0), .fr 7, none⟩]) <|
 .cond (.fr 7)
 (.skip)
 (.exit 0)) <|
 .seq (.block 1 (.seq (.reg [
 ⟨.mov (.fr 0), .tm, none⟩,
 ⟨.i2i .u8 (.tm 0), .tm, none⟩,
 ⟨.mov (.fr 1), .tm, none⟩,
 ⟨.mov (.fr 4), .tm, none⟩,
 ⟨.iaddr 1 (.tm 1) (.tm 0), .tm, none⟩,
 ⟨.load1 (.tm 0), .tm, none⟩,
 ⟨.bin .xor (.tm 4) (.tm 0), .tm, none⟩,
 ⟨.mov (.tm 0), .fr 5, none⟩]) <|
 .seq (.reg [
 ⟨.mov (.fr 0), .tm, none⟩,
 ⟨.bin .shr (.tm 0) (.c (.int .u64 8)), .tm, none⟩,
 ⟨.mov (.tm 0), .fr 0, none⟩]) <|
 .seq (.reg [
 ⟨.mov (.c (.int .i64 0)), .fr 6, none⟩]) <|
 .block 2 (.loop (.seq (.seq (.reg [
 ⟨.mov (.fr 6), .tm, none⟩,
 ⟨.bin .lss (.tm 0) (.c (.int .i64 8)), .fr 8, none⟩]) <|
 .cond (.fr 8)
 (.skip)
 (.exit 2)) <|
 .seq (.block 3 (.seq (.reg [
 ⟨.mov (.fr 5), .tm, none⟩,
 ⟨.mov (.fr 6), .tm, none⟩,
 ⟨.bin .shr (.tm 1) (.tm 0), .tm, none⟩,
 ⟨.bin .and (.tm 0) (.c (.int .u8 1)), .tm, none⟩,
 ⟨.bin .eql (.tm 0) (.c (.int .u8 1)), .fr 9, none⟩]) <|
 .cond (.fr 9)
 (.reg [
 ⟨.mov (.fr 0), .tm, none⟩,
 ⟨.mov (.fr 3), .tm, none⟩,
 ⟨.mov (.fr 6), .tm, none⟩,
 ⟨.iaddr 1 (.tm 1) (.tm 0), .tm, none⟩,
 ⟨.load1 (.tm 0), .tm, none⟩,
 ⟨.bin .xor (.tm 4) (.tm 0), .tm, none⟩,
 ⟨.mov (.tm 0), .fr 0, none⟩])
 (.skip))) <|
 .reg [
 ⟨.mov (.fr 6), .tm, none⟩,
 ⟨.bin .add (.tm 0) (.c (.int .i64 1)), .tm, none⟩,
 ⟨.mov (.tm 0), .fr 6, none⟩])))) <|
 .reg [
 ⟨.mov (.fr 4), .tm, none⟩,
 ⟨.bin .add (.tm 0) (.c (.int .i64 1)), .tm, none⟩,
 ⟨.mov (.tm 0), .fr 4, none⟩]))) <|
 .seq (.reg [
 ⟨.mov (.fr 0), .tm, none⟩,
 ⟨.mov (.tm 0), .fr 2, none⟩]) <|
 .ret, [.t 2]⟩
theorem f87_ok : compF Go.Proofs.Try.prog 0 [0, 2, 3, 5, 6, 7, 8, 9] 87 = some f87 := by kernel_rfl
theorem f87_n : argsOK Go.Proofs.Try.prog 87 1 = true := by kernel_rfl
theorem f92_ok : compF Go.Proofs.Try.prog 0 [0, 2] 92 = some f92 := by kernel_rfl
theorem f92_n : argsOK Go.Proofs.Try.prog 92 1 = true := by kernel_rfl
theorem f93_ok : compF Go.Proofs.Try.prog 0 [0, 1, 4, 5, 6] 93 = some f93 := by kernel_rfl
theorem f93_n : argsOK Go.Proofs.Try.prog 93 2 = true := by kernel_rfl
theorem f94_ok : compF Go.Proofs.Try.prog 0 [0, 2, 5] 94 = some f94 := by kernel_rfl
theorem f94_n : argsOK Go.Proofs.Try.prog 94 1 = true := by kernel_rfl
theorem f98_ok : compF Go.Proofs.Try.prog 0 [0, 1, 4, 5, 6, 7, 8, 13, 26, 33] 98 = some f98 := by kernel_rfl
theorem f98_n : argsOK Go.Proofs.Try.prog 98 2 = true := by kernel_rfl
end Go.AM.F

set_option maxRecDepth 100000
namespace Go.AM.F
def f44 : AFunc := ⟨[0, 2],
 .seq (.reg [
 ⟨.mov (.c (.pointer none)), .fr 1, none⟩]) <|
 .seq (.reg [
 ⟨.mov (.fr 0), .tm, none⟩,
 ⟨.callf 71 [(.tm 0)], .tm, none⟩,
 ⟨.build [(.slice none 0 0), (.bool false)] [(0, 1, (.tm 0))], .tm, none⟩,
 ⟨.box 141 2 (.tm 0), .tm, none⟩,
 ⟨.mov (.tm 0), .fr 1, none⟩]) <|
 .ret, [.t 1]⟩
def f45 : AFunc := ⟨[0, 2],
 .seq (.reg [
 ⟨.mov (.c (.int .u8 0)), .fr 1, none⟩]) <|
 .seq (.reg [
 ⟨.mov (.fr 0), .tm, none⟩,
 ⟨.callf 72 [(.tm 0), (.c (.int .i64 1))], .tm, none⟩,
 ⟨.assert 5 (.int .u8 0) false (.tm 0), .tm, none⟩,
 ⟨.mov (.tm 0), .fr 1, none⟩]) <|
 .ret, [.t 1]⟩
def f46 : AFunc := ⟨[0, 2],
 .seq (.reg [
 ⟨.mov (.c (.int .u64 0)), .fr 1, none⟩]) <|
 .seq (.reg [
 ⟨.mov (.fr 0), .tm, none⟩,
 ⟨.callf 72 [(.tm 0), (.c (.int .i64 8))], .tm, none⟩,
 ⟨.assert 22 (.int .u64 0) false (.tm 0), .tm, none⟩,
 ⟨.mov (.tm 0), .fr 1, none⟩]) <|
 .ret, [.t 1]⟩
def f48 : AFunc := ⟨[0, 1, 4],
 .seq (.reg [
 ⟨.mov (.c (.slice none 0 0)), .fr 2, none⟩]) <|
 .seq (.reg [
 ⟨.mov (.fr 0), .tm, none⟩,
 ⟨.mov (.fr 1), .tm, none⟩,
 ⟨.callf 76 [(.tm 1), (.tm 0)], .tm, none⟩,
 ⟨.mov (.tm 0), .fr 2, none⟩]) <|
 .ret, [.t 2]⟩
def f49 : AFunc := ⟨[0, 2, 4],
 .seq (.reg [
 ⟨.mov (.c (.int .i64 0)), .fr 1, none⟩]) <|
 .seq (.seq (.reg [
 ⟨.mov (.fr 0), .tm, none⟩,
 ⟨.eqv 1 false (.tm 0) (.c (.pointer none)), .fr 2, none⟩]) <|
 .cond (.fr 2)
 (.seq (.reg [
 ⟨.mov (.c (.int .i64 0)), .fr 1, none⟩]) <|
 .ret)
 (.skip)) <|
 .seq (.reg [
 ⟨.mov (.fr 0), .tm, none⟩,
 ⟨.nilck (.tm 0), .tm, none⟩,
 ⟨.faddr 0 (.tm 0), .tm, none⟩,
 ⟨.load1 (.tm 0), .tm, none⟩,
 ⟨.len false (.tm 0), .tm, none⟩,
 ⟨.mov (.tm 0), .fr 1, none⟩]) <|
 .ret, [.t 1]⟩
def f50 : AFunc := ⟨[0, 2],
 .seq (.reg [
 ⟨.mov (.c (.int .u32 0)), .fr 1, none⟩]) <|
 .seq (.reg [
 ⟨.mov (.fr 0), .tm, none⟩,
 ⟨.callf 72 [(.tm 0), (.c (.int .i64 4))], .tm, none⟩,
 ⟨.assert 24 (.int .u32 0) false (.tm 0), .tm, none⟩,
 ⟨.mov (.tm 0), .fr 1, none⟩]) <|
 .ret, [.t 1]⟩
def f51 : AFunc := ⟨[0, 2],
 .seq (.reg [
 ⟨.mov (.c (.bool false)), .fr 1, none⟩]) <|
 .seq (.reg [
 ⟨.mov (.fr 0), .tm, none⟩,
 ⟨.eqv 1 false (.tm 0) (.c (.pointer none)), .tm, none⟩,
 ⟨.mov (.tm 0), .tm, none⟩,
 ⟨.mov (.fr 0), .tm, some ((.tm 0), false)⟩,
 ⟨.nilck (.tm 0), .tm, some ((.tm 1), false)⟩,
 ⟨.faddr 1 (.tm 0), .tm, some ((.tm 2), false)⟩,
 ⟨.load1 (.tm 0), .tm, some ((.tm 3), false)⟩,
 ⟨.pick (.tm 4) (.c (.bool true)) (.tm 0), .tm, none⟩,
 ⟨.mov (.tm 0), .fr 1, none⟩]) <|
 .ret, [.t 1]⟩
def f55 : AFunc := ⟨[0, 1],
 .reg [
 ⟨.mov (.fr 0), .tm, none⟩,
 ⟨.mov (.fr 1), .tm, none⟩,
 ⟨.iface 5 (.tm 0), .tm, none⟩,
 ⟨.callf 79 [(.tm 2), (.tm 0)], .tm, none⟩], []⟩
def f56 : AFunc := ⟨[0, 1],
 .reg [
 ⟨.mov (.fr 0), .tm, none⟩,
 ⟨.mov (.fr 1), .tm, none⟩,
 ⟨.iface 22 (.tm 0), .tm, none⟩,
 ⟨.callf 79 [(.tm 2), (.tm 0)], .tm, none⟩], []⟩
def f57 : AFunc := ⟨[0, 1, 5],
 .seq (.reg [
 ⟨.mov (.fr 0), .tm, none⟩,
 ⟨.eqv 1 true (.tm 0) (.c (.pointer none)), .fr 2, none⟩]) <|
 .cond (.fr 2)
 (.reg [
 ⟨.mov (.fr 0), .tm, none⟩,
 ⟨.mov (.fr 0), .tm, none⟩,
 ⟨.nilck (.tm 0), .tm, none⟩,
 ⟨.faddr 0 (.tm 0), .tm, none⟩,
 ⟨.load1 (.tm 0), .tm, none⟩,
 ⟨.mov (.fr 1), .tm, none⟩,
 ⟨.app 5 1 1 (.tm 1) (.tm 0), .tm, none⟩,
 ⟨.nilck (.tm 6), .tm, none⟩,
 ⟨.faddr 0 (.tm 0), .tm, none⟩,
 ⟨.store1 (.tm 0) (.tm 2), .no, none⟩])
 (.skip), []⟩
def f59 : AFunc := ⟨[0, 1],
 .reg [
 ⟨.mov (.fr 0), .tm, none⟩,
 ⟨.mov (.fr 1), .tm, none⟩,
 ⟨.iface 24 (.tm 0), .tm, none⟩,
 ⟨.callf 79 [(.tm 2), (.tm 0)], .tm, none⟩], []⟩
def f60 : AFunc := ⟨[0, 2, 4],
 .seq (.reg [
 ⟨.mov (.c (.slice none 0 0)), .fr 1, none⟩]) <|
 .seq (.seq (.reg [
 ⟨.mov (.fr 0), .tm, none⟩,
 ⟨.eqv 1 false (.tm 0) (.c (.pointer none)), .fr 2, none⟩]) <|
 .cond (.fr 2)
 (.seq (.reg [
 ⟨.mov (.c (.slice none 0 0)), .fr 1, none⟩]) <|
 .ret)
 (.skip)) <|
 .seq (.reg [
 ⟨.mov (.fr 0), .tm, none⟩,
 ⟨.nilck (.tm 0), .tm, none⟩,
 ⟨.faddr 0 (.tm 0), .tm, none⟩,
 ⟨.load1 (.tm 0), .tm, none⟩,
 ⟨.callf 71 [(.tm 0)], .tm, none⟩,
 ⟨.mov (.tm 0), .fr 1, none⟩]) <|
 .ret, [.t 1]⟩
def f62 : AFunc := ⟨[0, 1, 4, 5, 6, 10],
 .seq (.reg [
 ⟨.mov (.c (.slice none 0 0)), .fr 2, none⟩]) <|
 .seq (.reg [
 ⟨.mov (.c (.slice none 0 0)), .fr 3, none⟩]) <|
 .seq (.seq (.reg [
 ⟨.mov (.fr 1), .tm, none⟩,
 ⟨.bin .sub (.tm 0) (.c (.int .i64 1)), .tm, none⟩,
 ⟨.mov (.tm 0), .fr 4, none⟩]) <|
 .block 0 (.loop (.seq (.seq (.reg [
 ⟨.mov (.fr 4), .tm, none⟩,
 ⟨.bin .geq (.tm 0) (.c (.int .i64 0)), .fr 5, none⟩]) <|
 .cond (.fr 5)
 (.skip)
 (.exit 0)) <|
 .seq (.block 1 (.reg [
 ⟨.mov (.fr 3), .tm, none⟩,
 ⟨.mov (.fr 0), .tm, none⟩,
 ⟨.mov (.fr 4), .tm, none⟩,
 ⟨.bin .mul (.c (.int .i64 8)) (.tm 0), .tm, none⟩,
 ⟨.bin .shr (.tm 2) (.tm 0), .tm, none⟩,
 ⟨.i2i .u8 (.tm 0), .tm, none⟩,
 ⟨.bslice 5 1 1 [(.int .u8 0)] [(0, 1, (.tm 0))], .tm, none⟩,
 ⟨.app 5 1 1 (.tm 6) (.tm 0), .tm, none⟩,
 ⟨.mov (.tm 0), .fr 3, none⟩])) <|
 .reg [
 ⟨.mov (.fr 4), .tm, none⟩,
 ⟨.bin .sub (.tm 0) (.c (.int .i64 1)), .tm, none⟩,
 ⟨.mov (.tm 0), .fr 4, none⟩]))) <|
 .seq (.reg [
 ⟨.mov (.fr 3), .tm, none⟩,
 ⟨.mov (.tm 0), .fr 2, none⟩]) <|
 .ret, [.t 2]⟩
def f71 : AFunc := ⟨[0, 2, 4],
 .seq (.reg [
 ⟨.mov (.c (.slice none 0 0)), .fr 1, none⟩]) <|
 .seq (.seq (.reg [
 ⟨.mov (.fr 0), .tm, none⟩,
 ⟨.eqv 2 false (.tm 0) (.c (.slice none 0 0)), .fr 2, none⟩]) <|
 .cond (.fr 2)
 (.seq (.reg [
 ⟨.mov (.c (.slice none 0 0)), .fr 1, none⟩]) <|
 .ret)
 (.skip)) <|
 .seq (.reg [
 ⟨.bslice 5 1 0 [] [], .tm, none⟩,
 ⟨.mov (.fr 0), .tm, none⟩,
 ⟨.app 5 1 1 (.tm 1) (.tm 0), .tm, none⟩,
 ⟨.mov (.tm 0), .fr 1, none⟩]) <|
 .ret, [.t 1]⟩
def f72 : AFunc := ⟨[0, 1, 4],
 .seq (.reg [
 ⟨.mov (.c .nilIface), .fr 2, none⟩]) <|
 .seq (.reg [
 ⟨.mov (.fr 0), .tm, none⟩,
 ⟨.mov (.fr 1), .tm, none⟩,
 ⟨.callf 76 [(.tm 1), (.tm 0)], .tm, none⟩,
 ⟨.mov (.fr 1), .tm, none⟩,
 ⟨.callf 86 [(.tm 1), (.tm 0)], .tm, none⟩,
 ⟨.mov (.tm 0), .fr 2, none⟩]) <|
 .ret, [.t 2]⟩
def f76 : AFunc := ⟨[0, 1, 4, 5, 6, 9],
 .seq (.reg [
 ⟨.mov (.c (.slice none 0 0)), .fr 2, none⟩]) <|
 .seq (.block 0 (.seq (.reg [
 ⟨.mov (.fr 0), .tm, none⟩,
 ⟨.eqv 1 false (.tm 0) (.c (.pointer none)), .tm, none⟩,
 ⟨.mov (.tm 0), .fr 4, none⟩]) <|
 .cond (.fr 4)
 (.seq (.reg [
 ⟨.mov (.c (.slice none 0 0)), .fr 2, none⟩]) <|
 .ret)
 (.seq (.reg [
 ⟨.mov (.fr 0), .tm, none⟩,
 ⟨.nilck (.tm 0), .tm, none⟩,
 ⟨.faddr 1 (.tm 0), .tm, none⟩,
 ⟨.load1 (.tm 0), .tm, none⟩,
 ⟨.mov (.tm 0), .tm, none⟩,
 ⟨.mov (.fr 1), .tm, some ((.tm 0), false)⟩,
 ⟨.bin .lss (.tm 0) (.c (.int .i64 0)), .tm, some ((.tm 1), false)⟩,
 ⟨.pick (.tm 2) (.c (.bool true)) (.tm 0), .tm, none⟩,
 ⟨.mov (.tm 0), .tm, none⟩,
 ⟨.mov (.fr 1), .tm, some ((.tm 0), false)⟩,
 ⟨.mov (.fr 0), .tm, some ((.tm 1), false)⟩,
 ⟨.nilck (.tm 0), .tm, some ((.tm 2), false)⟩,
 ⟨.faddr 0 (.tm 0), .tm, some ((.tm 3), false)⟩,
 ⟨.load1 (.tm 0), .tm, some ((.tm 4), false)⟩,
 ⟨.len false (.tm 0), .tm, some ((.tm 5), false)⟩,
 ⟨.bin .gtr (.tm 5) (.tm 0), .tm, some ((.tm 6), false)⟩,
 ⟨.pick (.tm 7) (.c (.bool true)) (.tm 0), .tm, none⟩,
 ⟨.mov (.tm 0), .fr 5, none⟩]) <|
 .cond (.fr 5)
 (.seq (.reg [
 ⟨.mov (.fr 0), .tm, none⟩,
 ⟨.mov (.fr 0), .tm, none⟩,
 ⟨.nilck (.tm 1), .tm, none⟩,
 ⟨.faddr 0 (.tm 0), .tm, none⟩,
 ⟨.store1 (.tm 0) (.c (.slice none 0 0)), .no, none⟩,
 ⟨.nilck (.tm 2), .tm, none⟩,
 ⟨.faddr 1 (.tm 0), .tm, none⟩,
 ⟨.store1 (.tm 0) (.c (.bool true)), .no, none⟩]) <|
 .seq (.reg [
 ⟨.mov (.c (.slice none 0 0)), .fr 2, none⟩]) <|
 .ret)
 (.skip)))) <|
 .seq (.reg [
 ⟨.mov (.fr 0), .tm, none⟩,
 ⟨.nilck (.tm 0), .tm, none⟩,
 ⟨.faddr 0 (.tm 0), .tm, none⟩,
 ⟨.load1 (.tm 0), .tm, none⟩,
 ⟨.mov (.fr 1), .tm, none⟩,
 ⟨.mov (.fr 1), .tm, none⟩,
 ⟨.slsl 1 (.tm 2) none (some (.tm 1)) (some (.tm 0)), .tm, none⟩,
 ⟨.mov (.tm 0), .fr 3, none⟩]) <|
 .seq (.reg [
 ⟨.mov (.fr 0), .tm, none⟩,
 ⟨.mov (.fr 0), .tm, none⟩,
 ⟨.nilck (.tm 0), .tm, none⟩,
 ⟨.faddr 0 (.tm 0), .tm, none⟩,
 ⟨.load1 (.tm 0), .tm, none⟩,
 ⟨.mov (.fr 1), .tm, none⟩,
 ⟨.slsl 1 (.tm 1) (some (.tm 0)) none none, .tm, none⟩,
 ⟨.nilck (.tm 6), .tm, none⟩,
 ⟨.faddr 0 (.tm 0), .tm, none⟩,
 ⟨.store1 (.tm 0) (.tm 2), .no, none⟩]) <|
 .seq (.reg [
 ⟨.mov (.fr 3), .tm, none⟩,
 ⟨.mov (.tm 0), .fr 2, none⟩]) <|
 .ret, [.t 2]⟩
def f77 : AFunc := ⟨[0, 2, 3, 4, 8],
 .seq (.reg [
 ⟨.mov (.c (.int .u64 0)), .fr 1, none⟩]) <|
 .seq (.reg [
 ⟨.mov (.c (.int .u64 0)), .fr 2, none⟩]) <|
 .seq (.seq (.reg [
 ⟨.mov (.c (.int .i64 0)), .fr 3, none⟩]) <|
 .block 0 (.loop (.seq (.seq (.reg [
 ⟨.mov (.fr 3), .tm, none⟩,
 ⟨.mov (.fr 0), .tm, none⟩,
 ⟨.len false (.tm 0), .tm, none⟩,
 ⟨.bin .lss (.tm 2) (.tm 0), .fr 4, none⟩]) <|
 .cond (.fr 4)
 (.skip)
 (.exit 0)) <|
 .seq (.block 1 (.reg [
 ⟨.mov (.fr 2), .tm, none⟩,
 ⟨.bin .shl (.tm 0) (.c (.int .u64 8)), .tm, none⟩,
 ⟨.mov (.fr 0), .tm, none⟩,
 ⟨.mov (.fr 3), .tm, none⟩,
 ⟨.iaddr 1 (.tm 1) (.tm 0), .tm, none⟩,
 ⟨.load1 (.tm 0), .tm, none⟩,
 ⟨.i2i .u64 (.tm 0), .tm, none⟩,
 ⟨.bin .or (.tm 5) (.tm 0), .tm, none⟩,
 ⟨.mov (.tm 0), .fr 2, none⟩])) <|
 .reg [
 ⟨.mov (.fr 3), .tm, none⟩,
 ⟨.bin .add (.tm 0) (.c (.int .i64 1)), .tm, none⟩,
 ⟨.mov (.tm 0), .fr 3, none⟩]))) <|
 .seq (.reg [
 ⟨.mov (.fr 2), .tm, none⟩,
 ⟨.mov (.tm 0), .fr 1, none⟩]) <|
 .ret, [.t 1]⟩
def f79 : AFunc := ⟨[0, 1, 4, 5, 6, 8, 18],
 .seq (.seq (.reg [
 ⟨.mov (.fr 0), .tm, none⟩,
 ⟨.eqv 1 false (.tm 0) (.c (.pointer none)), .fr 5, none⟩]) <|
 .cond (.fr 5)
 (.ret)
 (.skip)) <|
 .seq (.reg [
 ⟨.mov (.fr 1), .tm, none⟩,
 ⟨.callf 90 [(.tm 0)], .tm, none⟩,
 ⟨.mov (.tm 0), .tm, none⟩,
 ⟨.extract (.tm 0) 0, .tm, none⟩,
 ⟨.extract (.tm 1) 1, .tm, none⟩,
 ⟨.mov (.tm 1), .fr 2, none⟩,
 ⟨.mov (.tm 0), .fr 3, none⟩]) <|
 .seq (.reg [
 ⟨.mov (.fr 3), .tm, none⟩,
 ⟨.bin .sub (.tm 0) (.c (.int .i64 1)), .tm, none⟩,
 ⟨.bin .mul (.c (.int .i64 8)) (.tm 0), .tm, none⟩,
 ⟨.mov (.tm 0), .fr 4, none⟩]) <|
 .block 0 (.loop (.seq (.seq (.reg [
 ⟨.mov (.fr 4), .tm, none⟩,
 ⟨.bin .geq (.tm 0) (.c (.int .i64 0)), .fr 6, none⟩]) <|
 .cond (.fr 6)
 (.skip)
 (.exit 0)) <|
 .seq (.block 1 (.dreg [
 (⟨.mov (.fr 0), .tm, none⟩, []),
 (⟨.mov (.fr 0), .tm, none⟩, []),
 (⟨.nilck (.tm 0), .tm, none⟩, []),
 (⟨.faddr 0 (.tm 0), .tm, none⟩, []),
 (⟨.load1 (.tm 0), .tm, none⟩, []),
 (⟨.mov (.fr 2), .tm, none⟩, []),
 (⟨.mov (.fr 4), .tm, none⟩, []),
 (⟨.bin .shr (.tm 1) (.tm 0), .tm, none⟩, []),
 (⟨.i2i .u8 (.tm 0), .tm, none⟩, []),
 (⟨.bslice 5 1 1 [(.int .u8 0)] [(0, 1, (.tm 0))], .tm, none⟩, []),
 (⟨.app 5 1 1 (.tm 5) (.tm 0), .tm, none⟩, []),
 (⟨.nilck (.tm 10), .tm, none⟩, []),
 (⟨.faddr 0 (.tm 0), .tm, none⟩, []),
 (⟨.store1 (.tm 0) (.tm 2), .no, none⟩, [])])) <|
 .reg [
 ⟨.mov (.fr 4), .tm, none⟩,
 ⟨.bin .sub (.tm 0) (.c (.int .i64 8)), .tm, none⟩,
 ⟨.mov (.tm 0), .fr 4, none⟩])), []⟩
def f86 : AFunc := ⟨[0, 1, 4, 5, 7, 8, 9, 10, 11, 20, 21, 26, 31],
 .seq (.reg [
 ⟨.mov (.c .nilIface), .fr 2, none⟩]) <|
 .seq (.reg [
 ⟨.mov (.c (.int .u64 0)), .fr 3, none⟩]) <|
 .seq (.seq (.reg [
 ⟨.mov (.fr 0), .fr 5, none⟩,
 ⟨.len false (.fr 5), .fr 6, none⟩,
 ⟨.mov (.c (.int .i64 0)), .fr 7, none⟩]) <|
 .block 0 (.loop (.seq (.reg [
 ⟨.bin .lss (.fr 7) (.fr 6), .fr 8, none⟩]) <|
 .seq (.cond (.fr 8)
 (.skip)
 (.exit 0)) <|
 .seq (.block 1 (.seq (.reg [
 ⟨.iaddr 1 (.fr 5) (.fr 7), .tm, none⟩,
 ⟨.load1 (.tm 0), .tm, none⟩,
 ⟨.mov (.tm 0), .fr 4, none⟩]) <|
 .reg [
 ⟨.mov (.fr 3), .tm, none⟩,
 ⟨.bin .shl (.tm 0) (.c (.int .u64 8)), .tm, none⟩,
 ⟨.mov (.fr 4), .tm, none⟩,
 ⟨.i2i .u64 (.tm 0), .tm, none⟩,
 ⟨.bin .or (.tm 2) (.tm 0), .tm, none⟩,
 ⟨.mov (.tm 0), .fr 3, none⟩])) <|
 .reg [
 ⟨.bin .add (.fr 7) (.c (.int .i64 1)), .tm, none⟩,
 ⟨.mov (.tm 0), .fr 7, none⟩]))) <|
 .seq (.seq (.reg [
 ⟨.mov (.fr 1), .fr 9, none⟩]) <|
 .block 2 (.seq (.reg [
 ⟨.bin .eql (.fr 9) (.c (.int .i64 1)), .tm, none⟩,
 ⟨.mov (.tm 0), .fr 10, none⟩]) <|
 .cond (.fr 10)
 (.seq (.reg [
 ⟨.mov (.fr 3), .tm, none⟩,
 ⟨.i2i .u8 (.tm 0), .tm, none⟩,
 ⟨.iface 5 (.tm 0), .tm, none⟩,
 ⟨.mov (.tm 0), .fr 2, none⟩]) <|
 .ret)
 (.seq (.reg [
 ⟨.bin .eql (.fr 9) (.c (.int .i64 2)), .tm, none⟩,
 ⟨.mov (.tm 0), .fr 11, none⟩]) <|
 .cond (.fr 11)
 (.seq (.reg [
 ⟨.mov (.fr 3), .tm, none⟩,
 ⟨.i2i .u16 (.tm 0), .tm, none⟩,
 ⟨.iface 160 (.tm 0), .tm, none⟩,
 ⟨.mov (.tm 0), .fr 2, none⟩]) <|
 .ret)
 (.seq (.reg [
 ⟨.bin .eql (.fr 9) (.c (.int .i64 4)), .tm, none⟩,
 ⟨.mov (.tm 0), .fr 12, none⟩]) <|
 .cond (.fr 12)
 (.seq (.reg [
 ⟨.mov (.fr 3), .tm, none⟩,
 ⟨.i2i .u32 (.tm 0), .tm, none⟩,
 ⟨.iface 24 (.tm 0), .tm, none⟩,
 ⟨.mov (.tm 0), .fr 2, none⟩]) <|
 .ret)
 (.skip))))) <|
 .seq (.reg [
 ⟨.mov (.fr 3), .tm, none⟩,
 ⟨.iface 22 (.tm 0), .tm, none⟩,
 ⟨.mov (.tm 0), .fr 2, none⟩]) <|
 .ret, [.t 2]⟩
def f90 : AFunc := ⟨[0, 2, 3, 4, 5, 6, 7, 8, 9, 15, 23, 31],
 .seq (.reg [
 ⟨.mov (.c (.int .u64 0)), .fr 1, none⟩,
 ⟨.mov (.c (.int .i64 0)), .fr 2, none⟩]) <|
 .seq (.seq (.reg [
 ⟨.mov (.fr 0), .tm, none⟩,
 ⟨.assert 5 (.int .u8 0) true (.tm 0), .tm, none⟩,
 ⟨.mov (.tm 0), .tm, none⟩,
 ⟨.extract (.tm 0) 0, .tm, none⟩,
 ⟨.extract (.tm 1) 1, .tm, none⟩,
 ⟨.mov (.tm 1), .fr 3, none⟩,
 ⟨.mov (.tm 0), .fr 4, none⟩]) <|
 .seq (.reg [
 ⟨.mov (.fr 4), .fr 9, none⟩]) <|
 .cond (.fr 9)
 (.seq (.reg [
 ⟨.mov (.fr 3), .tm, none⟩,
 ⟨.i2i .u64 (.tm 0), .tm, none⟩,
 ⟨.mov (.tm 0), .fr 1, none⟩,
 ⟨.mov (.c (.int .i64 1)), .fr 2, none⟩]) <|
 .ret)
 (.skip)) <|
 .seq (.seq (.reg [
 ⟨.mov (.fr 0), .tm, none⟩,
 ⟨.assert 160 (.int .u16 0) true (.tm 0), .tm, none⟩,
 ⟨.mov (.tm 0), .tm, none⟩,
 ⟨.extract (.tm 0) 0, .tm, none⟩,
 ⟨.extract (.tm 1) 1, .tm, none⟩,
 ⟨.mov (.tm 1), .fr 5, none⟩,
 ⟨.mov (.tm 0), .fr 6, none⟩]) <|
 .seq (.reg [
 ⟨.mov (.fr 6), .fr 10, none⟩]) <|
 .cond (.fr 10)
 (.seq (.reg [
 ⟨.mov (.fr 5), .tm, none⟩,
 ⟨.i2i .u64 (.tm 0), .tm, none⟩,
 ⟨.mov (.tm 0), .fr 1, none⟩,
 ⟨.mov (.c (.int .i64 2)), .fr 2, none⟩]) <|
 .ret)
 (.skip)) <|
 .seq (.seq (.reg [
 ⟨.mov (.fr 0), .tm, none⟩,
 ⟨.assert 24 (.int .u32 0) true (.tm 0), .tm, none⟩,
 ⟨.mov (.tm 0), .tm, none⟩,
 ⟨.extract (.tm 0) 0, .tm, none⟩,
 ⟨.extract (.tm 1) 1, .tm, none⟩,
 ⟨.mov (.tm 1), .fr 7, none⟩,
 ⟨.mov (.tm 0), .fr 8, none⟩]) <|
 .seq (.reg [
 ⟨.mov (.fr 8), .fr 11, none⟩]) <|
 .cond (.fr 11)
 (.seq (.reg [
 ⟨.mov (.fr 7), .tm, none⟩,
 ⟨.i2i .u64 (.tm 0), .tm, none⟩,
 ⟨.mov (.tm 0), .fr 1, none⟩,
 ⟨.mov (.c (.int .i64 4)), .fr 2, none⟩]) <|
 .ret)
 (.skip)) <|
 .seq (.reg [
 ⟨.mov (.fr 0), .tm, none⟩,
 ⟨.assert 22 (.int .u64 0) false (.tm 0), .tm, none⟩,
 ⟨.mov (.tm 0), .fr 1, none⟩,
 ⟨.mov (.c (.int .i64 8)), .fr 2, none⟩]) <|
 .ret, [.t 1, .t 2]⟩
theorem f44_ok : compF Go.Proofs.Try.prog 0 [0, 2] 44 = some f44 := by kernel_rfl
theorem f44_n : argsOK Go.Proofs.Try.prog 44 1 = true := by kernel_rfl
theorem f45_ok : compF Go.Proofs.Try.prog 0 [0, 2] 45 = some f45 := by kernel_rfl
theorem f45_n : argsOK Go.Proofs.Try.prog 45 1 = true := by kernel_rfl
theorem f46_ok : compF Go.Proofs.Try.prog 0 [0, 2] 46 = some f46 := by kernel_rfl
theorem f46_n : argsOK Go.Proofs.Try.prog 46 1 = true := by kernel_rfl
theorem f48_ok : compF Go.Proofs.Try.prog 0 [0, 1, 4] 48 = some f48 := by kernel_rfl
theorem f48_n : argsOK Go.Proofs.Try.prog 48 2 = true := by kernel_rfl
theorem f49_ok : compF Go.Proofs.Try.prog 0 [0, 2, 4] 49 = some f49 := by kernel_rfl
theorem f49_n : argsOK Go.Proofs.Try.prog 49 1 = true := by kernel_rfl
theorem f50_ok : compF Go.Proofs.Try.prog 0 [0, 2] 50 = some f50 := by kernel_rfl
theorem f50_n : argsOK Go.Proofs.Try.prog 50 1 = true := by kernel_rfl
theorem f51_ok : compF Go.Proofs.Try.prog 0 [0, 2] 51 = some f51 := by kernel_rfl
theorem f51_n : argsOK Go.Proofs.Try.prog 51 1 = true := by kernel_rfl
theorem f55_ok : compF Go.Proofs.Try.prog 0 [0, 1] 55 = some f55 := by kernel_rfl
theorem f55_n : argsOK Go.Proofs.Try.prog 55 2 = true := by kernel_rfl
theorem f56_ok : compF Go.Proofs.Try.prog 0 [0, 1] 56 = some f56 := by kernel_rfl
theorem f56_n : argsOK Go.Proofs.Try.prog 56 2 = true := by kernel_rfl
theorem f57_ok : compF Go.Proofs.Try.prog 0 [0, 1, 5] 57 = some f57 := by kernel_rfl
theorem f57_n : argsOK Go.Proofs.Try.prog 57 2 = true := by kernel_rfl
theorem f59_ok : compF Go.Proofs.Try.prog 0 [0, 1] 59 = some f59 := by kernel_rfl
theorem f59_n : argsOK Go.Proofs.Try.prog 59 2 = true := by kernel_rfl
theorem f60_ok : compF Go.Proofs.Try.prog 0 [0, 2, 4] 60 = some f60 := by kernel_rfl
theorem f60_n : argsOK Go.Proofs.Try.prog 60 1 = true := by kernel_rfl
theorem f62_ok : compF Go.Proofs.Try.prog 0 [0, 1, 4, 5, 6, 10] 62 = some f62 := by kernel_rfl
theorem f62_n : argsOK Go.Proofs.Try.prog 62 2 = true := by kernel_rfl
theorem f71_ok : compF Go.Proofs.Try.prog 0 [0, 2, 4] 71 = some f71 := by kernel_rfl
theorem f71_n : argsOK Go.Proofs.Try.prog 71 1 = true := by kernel_rfl
theorem f72_ok : compF Go.Proofs.Try.prog 0 [0, 1, 4] 72 = some f72 := by kernel_rfl
theorem f72_n : argsOK Go.Proofs.Try.prog 72 2 = true := by kernel_rfl
theorem f76_ok : compF Go.Proofs.Try.prog 0 [0, 1, 4, 5, 6, 9] 76 = some f76 := by kernel_rfl
theorem f76_n : argsOK Go.Proofs.Try.prog 76 2 = true := by kernel_rfl
theorem f77_ok : compF Go.Proofs.Try.prog 0 [0, 2, 3, 4, 8] 77 = some f77 := by kernel_rfl
theorem f77_n : argsOK Go.Proofs.Try.prog 77 1 = true := by kernel_rfl
theorem f79_ok : compF Go.Proofs.Try.prog 0 [0, 1, 4, 5, 6, 8, 18] 79 = some f79 := by kernel_rfl
theorem f79_n : argsOK Go.Proofs.Try.prog 79 2 = true := by kernel_rfl
theorem f86_ok : compF Go.Proofs.Try.prog 0 [0, 1, 4, 5, 7, 8, 9, 10, 11, 20, 21, 26, 31] 86 = some f86 := by kernel_rfl
theorem f86_n : argsOK Go.Proofs.Try.prog 86 2 = true := by kernel_rfl
theorem f90_ok : compF Go.Proofs.Try.prog 0 [0, 2, 3, 4, 5, 6, 7, 8, 9, 15, 23, 31] 90 = some f90 := by kernel_rfl
theorem f90_n : argsOK Go.Proofs.Try.prog 90 1 = true := by kernel_rfl
end Go.AM.F

set_option linter.unusedSimpArgs false
set_option linter.unusedVariables false
namespace Go.AM
section
variable {P : Program} {ng : Nat} {H : AHeap} {KF : List Value → AHeap → Prop} {fr tm : List Value} {tr : List TE} {Q : AQ}
def boolIs (v : Value) (b : Bool) : Bool := wantA (some (.c v, b)) [] []
def stR (P : Program) (ng : Nat) (op : AOp Value) (d : D) (r : List AOper) (fr tm : List Value) (H : AHeap) (KF : List Value → AHeap → Prop) : Prop :=
  stepA P ng op H fun v H' => RW P ng r (d.frame v fr) (d.temps v tm) H' KF
def goR (P : Program) (ng : Nat) (o : Option (Value × AHeap)) (d : D) (r : List AOper) (fr tm : List Value) (KF : List Value → AHeap → Prop) : Prop :=
  ∃ v H', o = some (v, H') ∧ RW P ng r (d.frame v fr) (d.temps v tm) H' KF
def gdR (P : Program) (ng : Nat) (c : Bool) (op : AOp AX) (d : D) (r : List AOper) (fr tm : List Value) (H : AHeap) (KF : List Value → AHeap → Prop) : Prop :=
  if c then RW P ng (⟨op, d, none⟩ :: r) fr tm H KF else RW P ng r (d.frame undef fr) (d.temps undef tm) H KF
abbrev callR (P : Program) (ng : Nat) (f : FuncId) (xs : List Value) (d : D) (r : List AOper) (fr tm : List Value) (H : AHeap) (KF : List Value → AHeap → Prop) : Prop :=
  ∃ v H', ARun P ng f xs H v H' ∧ RW P ng r (d.frame v fr) (d.temps v tm) H' KF
theorem r_nil : RW P ng [] fr tm H KF = KF fr H := _root_.id rfl
theorem r_cons (op : AOp AX) (d : D) (r : List AOper) : RW P ng (⟨op, d, none⟩ :: r) fr tm H KF = stR P ng (op.map (AX.ev fr tm)) d r fr tm H KF := RW_cons op d r
theorem r_consg (op : AOp AX) (d : D) (x : AX) (b : Bool) (r : List AOper) : RW P ng (⟨op, d, some (x, b)⟩ :: r) fr tm H KF = gdR P ng (wantA (some (x, b)) fr tm) op d r fr tm H KF := by
  rw [RW_consg]; unfold gdR; rw [RW_cons]
theorem gd_true (op : AOp AX) (d : D) (r : List AOper) : gdR P ng true op d r fr tm H KF = stR P ng (op.map (AX.ev fr tm)) d r fr tm H KF := by unfold gdR; rw [if_pos rfl]; exact RW_cons op d r
theorem gd_false (op : AOp AX) (d : D) (r : List AOper) : gdR P ng false op d r fr tm H KF = RW P ng r (d.frame undef fr) (d.temps undef tm) H KF := by unfold gdR; rw [if_neg (by simp)]
theorem go_some (v : Value) (d : D) (r : List AOper) : goR P ng (some (v, H)) d r fr tm KF = RW P ng r (d.frame v fr) (d.temps v tm) H KF :=
  propext ⟨fun ⟨v, H', e, k⟩ => by cases e; exact k, fun k => ⟨_, _, rfl, k⟩⟩
theorem st_call (f : FuncId) (xs : List Value) (d : D) (r : List AOper) : stR P ng (.callf f xs) d r fr tm H KF = callR P ng f xs d r fr tm H KF := _root_.id rfl
theorem st_callv (g : FuncId) (first cap : Array Value) (xs : List Value) (d : D) (r : List AOper) : stR P ng (.callv (.func (.func g) first cap) xs) d r fr tm H KF = callR P ng g (first.toList ++ xs ++ cap.toList) d r fr tm H KF := _root_.id rfl
theorem at_n (K : List Value → AHeap → Prop) : Q.andThen K .normal fr H = K fr H := _root_.id rfl
theorem at_e (K : List Value → AHeap → Prop) (i : Nat) : Q.andThen K (.exit i) fr H = Q (.exit i) fr H := _root_.id rfl
theorem at_r (K : List Value → AHeap → Prop) : Q.andThen K .ret fr H = Q .ret fr H := _root_.id rfl
theorem ib_n (i : Nat) : Q.inBlock i .normal fr H = Q .normal fr H := _root_.id rfl
theorem ib_r (i : Nat) : Q.inBlock i .ret fr H = Q .ret fr H := _root_.id rfl
theorem ib_e (i : Nat) : Q.inBlock i (.exit i) fr H = Q .normal fr H := by simp [AQ.inBlock]
theorem ib_x {i j : Nat} (h : ¬ j = i) : Q.inBlock i (.exit j) fr H = Q (.exit j) fr H := by simp [AQ.inBlock, h]
theorem want_x (x : AX) (b : Bool) : wantA (some (x, b)) fr tm = boolIs (x.ev fr tm) b := by
  simp only [boolIs, wantA, AX.ev]
theorem bi_tt : boolIs (.bool true) true = true := by simp [boolIs, wantA, AX.ev]
theorem bi_tf : boolIs (.bool true) false = false := by simp [boolIs, wantA, AX.ev]
theorem bi_ft : boolIs (.bool false) true = false := by simp [boolIs, wantA, AX.ev]
theorem bi_ff : boolIs (.bool false) false = true := by simp [boolIs, wantA, AX.ev]
theorem pk_t (a b : Value) : asem (.pick (.bool true) a b) H = some (a, H) := _root_.id rfl
theorem pk_f (a b : Value) : asem (.pick (.bool false) a b) H = some (b, H) := _root_.id rfl
theorem walk2 {f : Nat} {sl : List Nat} {af : AFunc} (hc : compF P ng sl f = some af) {args : List Value} {R : Value → AHeap → Prop} (hargs : argsOK P f args.length = true)
    (h : ∀ Q : AQ, (∀ fr H2, (∃ v, resO af.res fr H2 = some v ∧ R v H2) → Q .normal fr H2) → (∀ fr H2, (∃ v, resO af.res fr H2 = some v ∧ R v H2) → Q .ret fr H2) → W P ng af.body Q (initFr af.sl args) H) : ∃ v H', ARun P ng f args H v H' ∧ R v H' :=
  walk hc hargs (h _ (fun _ _ h => h) (fun _ _ h => h))
def stD (P : Program) (ng : Nat) (op : AOp Value) (d : D) (un : List Nat) (r : List (AOper × List Nat)) (fr tm : List Value) (H : AHeap) (tr : List TE) (KF : List Value → AHeap → Prop) : Prop :=
  stepA P ng op H fun v H' => oblA (clsA op) (touchA op H) H H' tr un ∧ RD P ng r (d.frame v fr) (d.temps v tm) H' (tr ++ [⟨clsA op, touchA op H, H, H'⟩]) KF
def goD (P : Program) (ng : Nat) (op : AOp Value) (o : Option (Value × AHeap)) (d : D) (un : List Nat) (r : List (AOper × List Nat)) (fr tm : List Value) (H : AHeap) (tr : List TE) (KF : List Value → AHeap → Prop) : Prop :=
  ∃ v H', o = some (v, H') ∧ oblA (clsA op) (touchA op H) H H' tr un ∧ RD P ng r (d.frame v fr) (d.temps v tm) H' (tr ++ [⟨clsA op, touchA op H, H, H'⟩]) KF
def gdD (P : Program) (ng : Nat) (c : Bool) (op : AOp AX) (d : D) (un : List Nat) (r : List (AOper × List Nat)) (fr tm : List Value) (H : AHeap) (tr : List TE) (KF : List Value → AHeap → Prop) : Prop :=
  if c then stD P ng (op.map (AX.ev fr tm)) d un r fr tm H tr KF else RD P ng r (d.frame undef fr) (d.temps undef tm) H (tr ++ [⟨9, [], H, H⟩]) KF
abbrev callD (P : Program) (ng : Nat) (f : FuncId) (xs : List Value) (d : D) (un : List Nat) (r : List (AOper × List Nat)) (fr tm : List Value) (H : AHeap) (tr : List TE) (KF : List Value → AHeap → Prop) : Prop :=
  ∃ v H', ARun P ng f xs H v H' ∧ oblA 3 [] H H' tr un ∧ RD P ng r (d.frame v fr) (d.temps v tm) H' (tr ++ [⟨3, [], H, H'⟩]) KF
theorem d_nil : RD P ng [] fr tm H tr KF = KF fr H := _root_.id rfl
theorem cls_ev (op : AOp AX) : clsA (op.map (AX.ev fr tm)) = clsA op := cls_map _ _
theorem d_cons (op : AOp AX) (d : D) (un : List Nat) (r : List (AOper × List Nat)) : RD P ng ((⟨op, d, none⟩, un) :: r) fr tm H tr KF = stD P ng (op.map (AX.ev fr tm)) d un r fr tm H tr KF := by
  rw [RD_cons]; unfold stD; rw [cls_ev]
theorem d_consg (op : AOp AX) (d : D) (x : AX) (b : Bool) (un : List Nat) (r : List (AOper × List Nat)) : RD P ng ((⟨op, d, some (x, b)⟩, un) :: r) fr tm H tr KF = gdD P ng (wantA (some (x, b)) fr tm) op d un r fr tm H tr KF := by
  rw [RD_consg]; unfold gdD stD; rw [cls_ev]
theorem gdD_true (op : AOp AX) (d : D) (un : List Nat) (r : List (AOper × List Nat)) : gdD P ng true op d un r fr tm H tr KF = stD P ng (op.map (AX.ev fr tm)) d un r fr tm H tr KF := by unfold gdD; rw [if_pos rfl]
theorem gdD_false (op : AOp AX) (d : D) (un : List Nat) (r : List (AOper × List Nat)) : gdD P ng false op d un r fr tm H tr KF = RD P ng r (d.frame undef fr) (d.temps undef tm) H (tr ++ [⟨9, [], H, H⟩]) KF := by unfold gdD; rw [if_neg (by simp)]
theorem goD_some {H' : AHeap} (op : AOp Value) (v : Value) (d : D) (r : List (AOper × List Nat)) : goD P ng op (some (v, H')) d [] r fr tm H tr KF = RD P ng r (d.frame v fr) (d.temps v tm) H' (tr ++ [⟨clsA op, touchA op H, H, H'⟩]) KF := by
  exact propext ⟨fun ⟨v, H', e, _, k⟩ => by cases e; exact k, fun k => ⟨_, _, rfl, trivial, k⟩⟩
theorem goD_some' {H' : AHeap} (op : AOp Value) (v : Value) (d : D) (u : Nat) (un : List Nat) (r : List (AOper × List Nat)) : goD P ng op (some (v, H')) d (u :: un) r fr tm H tr KF =
    (oblA (clsA op) (touchA op H) H H' tr (u :: un) ∧ RD P ng r (d.frame v fr) (d.temps v tm) H' (tr ++ [⟨clsA op, touchA op H, H, H'⟩]) KF) := by
  exact propext ⟨fun ⟨v, H', e, k⟩ => by cases e; exact k, fun k => ⟨_, _, rfl, k⟩⟩
theorem stD_call (f : FuncId) (xs : List Value) (d : D) (un : List Nat) (r : List (AOper × List Nat)) : stD P ng (.callf f xs) d un r fr tm H tr KF = callD P ng f xs d un r fr tm H tr KF := _root_.id rfl
def condW (P : Program) (ng : Nat) (v : Value) (t e : ACode) (Q : AQ) (fr : List Value) (H : AHeap) : Prop := match v with
  | .bool b => if b then W P ng t Q fr H else W P ng e Q fr H
  | _ => False
theorem w_cond (c : AX) (t e : ACode) : W P ng (.cond c t e) Q fr H = condW P ng (c.ev fr []) t e Q fr H := _root_.id rfl
theorem cond_true (t e : ACode) : condW P ng (.bool true) t e Q fr H = W P ng t Q fr H := by simp [condW]
theorem cond_false (t e : ACode) : condW P ng (.bool false) t e Q fr H = W P ng e Q fr H := by simp [condW]
section
variable (d : D) (r : List AOper) (un : List Nat) (rd : List (AOper × List Nat))
theorem st_of {op : AOp Value} (h1 : ∀ f xs, op ≠ .callf f xs) (h2 : ∀ f xs, op ≠ .callv f xs) : stR P ng op d r fr tm H KF = goR P ng (asem op H) d r fr tm KF := by
  unfold stR goR
  cases op <;> first | rfl | exact absurd rfl (h1 _ _) | exact absurd rfl (h2 _ _)
theorem stD_of {op : AOp Value} (h1 : ∀ f xs, op ≠ .callf f xs) (h2 : ∀ f xs, op ≠ .callv f xs) : stD P ng op d un rd fr tm H tr KF = goD P ng op (asem op H) d un rd fr tm H tr KF := by
  unfold stD goD
  cases op <;> first | rfl | exact absurd rfl (h1 _ _) | exact absurd rfl (h2 _ _)
theorem st_mov (x : Value) : stR P ng (.mov x) d r fr tm H KF = RW P ng r (d.frame x fr) (d.temps x tm) H KF := by rw [st_of d r (by simp) (by simp)]; exact go_some x d r
theorem st_pick (c a b : Value) : stR P ng (.pick c a b) d r fr tm H KF = goR P ng (asem (.pick c a b) H) d r fr tm KF := st_of d r (by simp) (by simp)
theorem sd_pick (c a b : Value) : stD P ng (.pick c a b) d un rd fr tm H tr KF = goD P ng (.pick c a b) (asem (.pick c a b) H) d un rd fr tm H tr KF := stD_of d un rd (by simp) (by simp)
theorem st_new (e s : Nat) (z : List Value) : stR P ng (.new e s z) d r fr tm H KF = goR P ng (asem (.new e s z) H) d r fr tm KF := st_of d r (by simp) (by simp)
theorem sd_new (e s : Nat) (z : List Value) : stD P ng (.new e s z) d un rd fr tm H tr KF = goD P ng (.new e s z) (asem (.new e s z) H) d un rd fr tm H tr KF := stD_of d un rd (by simp) (by simp)
theorem st_box (e s : Nat) (x : Value) : stR P ng (.box e s x) d r fr tm H KF = goR P ng (asem (.box e s x) H) d r fr tm KF := st_of d r (by simp) (by simp)
theorem sd_box (e s : Nat) (x : Value) : stD P ng (.box e s x) d un rd fr tm H tr KF = goD P ng (.box e s x) (asem (.box e s x) H) d un rd fr tm H tr KF := stD_of d un rd (by simp) (by simp)
theorem st_build (z : List Value) (ps : List (Nat × Nat × Value)) : stR P ng (.build z ps) d r fr tm H KF = goR P ng (asem (.build z ps) H) d r fr tm KF := st_of d r (by simp) (by simp)
theorem sd_build (z : List Value) (ps : List (Nat × Nat × Value)) : stD P ng (.build z ps) d un rd fr tm H tr KF = goD P ng (.build z ps) (asem (.build z ps) H) d un rd fr tm H tr KF := stD_of d un rd (by simp) (by simp)
theorem st_bslice (e s n : Nat) (z : List Value) (ps : List (Nat × Nat × Value)) : stR P ng (.bslice e s n z ps) d r fr tm H KF = goR P ng (asem (.bslice e s n z ps) H) d r fr tm KF := st_of d r (by simp) (by simp)
theorem sd_bslice (e s n : Nat) (z : List Value) (ps : List (Nat × Nat × Value)) : stD P ng (.bslice e s n z ps) d un rd fr tm H tr KF = goD P ng (.bslice e s n z ps) (asem (.bslice e s n z ps) H) d un rd fr tm H tr KF := stD_of d un rd (by simp) (by simp)
theorem st_load1 (x : Value) : stR P ng (.load1 x) d r fr tm H KF = goR P ng (asem (.load1 x) H) d r fr tm KF := st_of d r (by simp) (by simp)
theorem sd_load1 (x : Value) : stD P ng (.load1 x) d un rd fr tm H tr KF = goD P ng (.load1 x) (asem (.load1 x) H) d un rd fr tm H tr KF := stD_of d un rd (by simp) (by simp)
theorem st_loadn (n : Nat) (x : Value) : stR P ng (.loadn n x) d r fr tm H KF = goR P ng (asem (.loadn n x) H) d r fr tm KF := st_of d r (by simp) (by simp)
theorem sd_loadn (n : Nat) (x : Value) : stD P ng (.loadn n x) d un rd fr tm H tr KF = goD P ng (.loadn n x) (asem (.loadn n x) H) d un rd fr tm H tr KF := stD_of d un rd (by simp) (by simp)
theorem st_store1 (a x : Value) : stR P ng (.store1 a x) d r fr tm H KF = goR P ng (asem (.store1 a x) H) d r fr tm KF := st_of d r (by simp) (by simp)
theorem sd_store1 (a x : Value) : stD P ng (.store1 a x) d un rd fr tm H tr KF = goD P ng (.store1 a x) (asem (.store1 a x) H) d un rd fr tm H tr KF := stD_of d un rd (by simp) (by simp)
theorem st_storen (n : Nat) (a x : Value) : stR P ng (.storen n a x) d r fr tm H KF = goR P ng (asem (.storen n a x) H) d r fr tm KF := st_of d r (by simp) (by simp)
theorem sd_storen (n : Nat) (a x : Value) : stD P ng (.storen n a x) d un rd fr tm H tr KF = goD P ng (.storen n a x) (asem (.storen n a x) H) d un rd fr tm H tr KF := stD_of d un rd (by simp) (by simp)
theorem st_nilck (x : Value) : stR P ng (.nilck x) d r fr tm H KF = goR P ng (asem (.nilck x) H) d r fr tm KF := st_of d r (by simp) (by simp)
theorem sd_nilck (x : Value) : stD P ng (.nilck x) d un rd fr tm H tr KF = goD P ng (.nilck x) (asem (.nilck x) H) d un rd fr tm H tr KF := stD_of d un rd (by simp) (by simp)
theorem st_bin (o : BinOp) (x y : Value) : stR P ng (.bin o x y) d r fr tm H KF = goR P ng (asem (.bin o x y) H) d r fr tm KF := st_of d r (by simp) (by simp)
theorem sd_bin (o : BinOp) (x y : Value) : stD P ng (.bin o x y) d un rd fr tm H tr KF = goD P ng (.bin o x y) (asem (.bin o x y) H) d un rd fr tm H tr KF := stD_of d un rd (by simp) (by simp)
theorem st_eqv (k : Nat) (n : Bool) (x y : Value) : stR P ng (.eqv k n x y) d r fr tm H KF = goR P ng (asem (.eqv k n x y) H) d r fr tm KF := st_of d r (by simp) (by simp)
theorem sd_eqv (k : Nat) (n : Bool) (x y : Value) : stD P ng (.eqv k n x y) d un rd fr tm H tr KF = goD P ng (.eqv k n x y) (asem (.eqv k n x y) H) d un rd fr tm H tr KF := stD_of d un rd (by simp) (by simp)
theorem st_un (o : UnOp) (x : Value) : stR P ng (.un o x) d r fr tm H KF = goR P ng (asem (.un o x) H) d r fr tm KF := st_of d r (by simp) (by simp)
theorem sd_un (o : UnOp) (x : Value) : stD P ng (.un o x) d un rd fr tm H tr KF = goD P ng (.un o x) (asem (.un o x) H) d un rd fr tm H tr KF := stD_of d un rd (by simp) (by simp)
theorem st_i2i (k : IntKind) (x : Value) : stR P ng (.i2i k x) d r fr tm H KF = goR P ng (asem (.i2i k x) H) d r fr tm KF := st_of d r (by simp) (by simp)
theorem sd_i2i (k : IntKind) (x : Value) : stD P ng (.i2i k x) d un rd fr tm H tr KF = goD P ng (.i2i k x) (asem (.i2i k x) H) d un rd fr tm H tr KF := stD_of d un rd (by simp) (by simp)
theorem st_s2s (x : Value) : stR P ng (.s2s x) d r fr tm H KF = goR P ng (asem (.s2s x) H) d r fr tm KF := st_of d r (by simp) (by simp)
theorem sd_s2s (x : Value) : stD P ng (.s2s x) d un rd fr tm H tr KF = goD P ng (.s2s x) (asem (.s2s x) H) d un rd fr tm H tr KF := stD_of d un rd (by simp) (by simp)
theorem st_s2b (e : Nat) (x : Value) : stR P ng (.s2b e x) d r fr tm H KF = goR P ng (asem (.s2b e x) H) d r fr tm KF := st_of d r (by simp) (by simp)
theorem sd_s2b (e : Nat) (x : Value) : stD P ng (.s2b e x) d un rd fr tm H tr KF = goD P ng (.s2b e x) (asem (.s2b e x) H) d un rd fr tm H tr KF := stD_of d un rd (by simp) (by simp)
theorem st_b2s (x : Value) : stR P ng (.b2s x) d r fr tm H KF = goR P ng (asem (.b2s x) H) d r fr tm KF := st_of d r (by simp) (by simp)
theorem sd_b2s (x : Value) : stD P ng (.b2s x) d un rd fr tm H tr KF = goD P ng (.b2s x) (asem (.b2s x) H) d un rd fr tm H tr KF := stD_of d un rd (by simp) (by simp)
theorem st_iface (t : TypeId) (x : Value) : stR P ng (.iface t x) d r fr tm H KF = goR P ng (asem (.iface t x) H) d r fr tm KF := st_of d r (by simp) (by simp)
theorem sd_iface (t : TypeId) (x : Value) : stD P ng (.iface t x) d un rd fr tm H tr KF = goD P ng (.iface t x) (asem (.iface t x) H) d un rd fr tm H tr KF := stD_of d un rd (by simp) (by simp)
theorem st_mkfn (f : Fn) (xs ys : List Value) : stR P ng (.mkfn f xs ys) d r fr tm H KF = goR P ng (asem (.mkfn f xs ys) H) d r fr tm KF := st_of d r (by simp) (by simp)
theorem sd_mkfn (f : Fn) (xs ys : List Value) : stD P ng (.mkfn f xs ys) d un rd fr tm H tr KF = goD P ng (.mkfn f xs ys) (asem (.mkfn f xs ys) H) d un rd fr tm H tr KF := stD_of d un rd (by simp) (by simp)
theorem st_mksl (e s b : Nat) (z : List Value) (l c : Value) : stR P ng (.mksl e s b z l c) d r fr tm H KF = goR P ng (asem (.mksl e s b z l c) H) d r fr tm KF := st_of d r (by simp) (by simp)
theorem sd_mksl (e s b : Nat) (z : List Value) (l c : Value) : stD P ng (.mksl e s b z l c) d un rd fr tm H tr KF = goD P ng (.mksl e s b z l c) (asem (.mksl e s b z l c) H) d un rd fr tm H tr KF := stD_of d un rd (by simp) (by simp)
theorem st_slstr (x : Value) (lo hi : Option Value) : stR P ng (.slstr x lo hi) d r fr tm H KF = goR P ng (asem (.slstr x lo hi) H) d r fr tm KF := st_of d r (by simp) (by simp)
theorem sd_slstr (x : Value) (lo hi : Option Value) : stD P ng (.slstr x lo hi) d un rd fr tm H tr KF = goD P ng (.slstr x lo hi) (asem (.slstr x lo hi) H) d un rd fr tm H tr KF := stD_of d un rd (by simp) (by simp)
theorem st_slsl (s : Nat) (x : Value) (lo hi mx : Option Value) : stR P ng (.slsl s x lo hi mx) d r fr tm H KF = goR P ng (asem (.slsl s x lo hi mx) H) d r fr tm KF := st_of d r (by simp) (by simp)
theorem sd_slsl (s : Nat) (x : Value) (lo hi mx : Option Value) : stD P ng (.slsl s x lo hi mx) d un rd fr tm H tr KF = goD P ng (.slsl s x lo hi mx) (asem (.slsl s x lo hi mx) H) d un rd fr tm H tr KF := stD_of d un rd (by simp) (by simp)
theorem st_faddr (o : Nat) (x : Value) : stR P ng (.faddr o x) d r fr tm H KF = goR P ng (asem (.faddr o x) H) d r fr tm KF := st_of d r (by simp) (by simp)
theorem sd_faddr (o : Nat) (x : Value) : stD P ng (.faddr o x) d un rd fr tm H tr KF = goD P ng (.faddr o x) (asem (.faddr o x) H) d un rd fr tm H tr KF := stD_of d un rd (by simp) (by simp)
theorem st_fld1 (o : Nat) (x : Value) : stR P ng (.fld1 o x) d r fr tm H KF = goR P ng (asem (.fld1 o x) H) d r fr tm KF := st_of d r (by simp) (by simp)
theorem sd_fld1 (o : Nat) (x : Value) : stD P ng (.fld1 o x) d un rd fr tm H tr KF = goD P ng (.fld1 o x) (asem (.fld1 o x) H) d un rd fr tm H tr KF := stD_of d un rd (by simp) (by simp)
theorem st_fldn (o n : Nat) (x : Value) : stR P ng (.fldn o n x) d r fr tm H KF = goR P ng (asem (.fldn o n x) H) d r fr tm KF := st_of d r (by simp) (by simp)
theorem sd_fldn (o n : Nat) (x : Value) : stD P ng (.fldn o n x) d un rd fr tm H tr KF = goD P ng (.fldn o n x) (asem (.fldn o n x) H) d un rd fr tm H tr KF := stD_of d un rd (by simp) (by simp)
theorem st_iaddr (s : Nat) (x i : Value) : stR P ng (.iaddr s x i) d r fr tm H KF = goR P ng (asem (.iaddr s x i) H) d r fr tm KF := st_of d r (by simp) (by simp)
theorem sd_iaddr (s : Nat) (x i : Value) : stD P ng (.iaddr s x i) d un rd fr tm H tr KF = goD P ng (.iaddr s x i) (asem (.iaddr s x i) H) d un rd fr tm H tr KF := stD_of d un rd (by simp) (by simp)
theorem st_idxs (x i : Value) : stR P ng (.idxs x i) d r fr tm H KF = goR P ng (asem (.idxs x i) H) d r fr tm KF := st_of d r (by simp) (by simp)
theorem sd_idxs (x i : Value) : stD P ng (.idxs x i) d un rd fr tm H tr KF = goD P ng (.idxs x i) (asem (.idxs x i) H) d un rd fr tm H tr KF := stD_of d un rd (by simp) (by simp)
theorem st_assert (t : TypeId) (z : Value) (ok : Bool) (x : Value) : stR P ng (.assert t z ok x) d r fr tm H KF = goR P ng (asem (.assert t z ok x) H) d r fr tm KF := st_of d r (by simp) (by simp)
theorem sd_assert (t : TypeId) (z : Value) (ok : Bool) (x : Value) : stD P ng (.assert t z ok x) d un rd fr tm H tr KF = goD P ng (.assert t z ok x) (asem (.assert t z ok x) H) d un rd fr tm H tr KF := stD_of d un rd (by simp) (by simp)
theorem st_extract (x : Value) (i : Nat) : stR P ng (.extract x i) d r fr tm H KF = goR P ng (asem (.extract x i) H) d r fr tm KF := st_of d r (by simp) (by simp)
theorem sd_extract (x : Value) (i : Nat) : stD P ng (.extract x i) d un rd fr tm H tr KF = goD P ng (.extract x i) (asem (.extract x i) H) d un rd fr tm H tr KF := stD_of d un rd (by simp) (by simp)
theorem st_len (s : Bool) (x : Value) : stR P ng (.len s x) d r fr tm H KF = goR P ng (asem (.len s x) H) d r fr tm KF := st_of d r (by simp) (by simp)
theorem sd_len (s : Bool) (x : Value) : stD P ng (.len s x) d un rd fr tm H tr KF = goD P ng (.len s x) (asem (.len s x) H) d un rd fr tm H tr KF := stD_of d un rd (by simp) (by simp)
theorem st_mark (x : Value) : stR P ng (.mark x) d r fr tm H KF = goR P ng (asem (.mark x) H) d r fr tm KF := st_of d r (by simp) (by simp)
theorem sd_mark (x : Value) : stD P ng (.mark x) d un rd fr tm H tr KF = goD P ng (.mark x) (asem (.mark x) H) d un rd fr tm H tr KF := stD_of d un rd (by simp) (by simp)
theorem sd_mov (x : Value) : stD P ng (.mov x) d un rd fr tm H tr KF = goD P ng (.mov x) (asem (.mov x) H) d un rd fr tm H tr KF := stD_of d un rd (by simp) (by simp)
theorem sd_app (e s b : Nat) (x y : Value) : stD P ng (.app e s b x y) d un rd fr tm H tr KF = goD P ng (.app e s b x y) (asem (.app e s b x y) H) d un rd fr tm H tr KF := stD_of d un rd (by simp) (by simp)
end
theorem a_mov (x : Value) : asem (.mov x) H = some (x, H) := _root_.id rfl
theorem a_pick (t : Bool) (a b : Value) : asem (.pick (.bool t) a b) H = some (if t then a else b, H) := _root_.id rfl
theorem a_new (e esz : Nat) (z : List Value) : asem (.new e esz z) H = if z.all Value.oneCell' then some (ptr H.n 0, H.alloc (.cells true false esz z e)) else none := _root_.id rfl
theorem a_box (e esz : Nat) (x : Value) : asem (.box e esz x) H = if x.cells.toList.all Value.oneCell' then some (ptr H.n 0, H.alloc (.cells true false esz x.cells.toList e)) else none := _root_.id rfl
theorem a_build (z : List Value) (ps : List (Nat × Nat × Value)) : asem (.build z ps) H = (fillA z ps).map fun c => (.agg c.toArray, H) := _root_.id rfl
theorem a_load1 (b o : Nat) : asem (.load1 (ptr b o)) H = (cellA H b o).map fun v => (v, H) := _root_.id rfl
theorem a_loadn (n b o : Nat) : asem (.loadn n (ptr b o)) H = (rangeA H b o n).map fun c => (.agg c.toArray, H) := _root_.id rfl
theorem a_store1 {b o : Nat} {x : Value} {room : Bool} {esz e : Nat} {c : List Value} (h : H.get b = some (.cells true room esz c e)) : asem (.store1 (ptr b o) x) H = if o < c.length ∧ x.oneCell' = true then some (undef, H.set b (.cells true room esz (c.set o x) e)) else none := by
  simp only [asem, ptr, h]
theorem a_storen {b o n : Nat} {x : Value} {room : Bool} {esz e : Nat} {c : List Value} (h : H.get b = some (.cells true room esz c e)) :
    asem (.storen n (ptr b o) x) H = if o + n ≤ c.length ∧ x.cells.toList.length = n ∧ x.cells.toList.all Value.oneCell' = true then some (undef, H.set b (.cells true room esz (c.take o ++ x.cells.toList ++ c.drop (o + n)) e)) else none := by
  simp only [asem, ptr, h]
theorem a_nilck (b o : Nat) : asem (.nilck (ptr b o)) H = some (ptr b o, H) := _root_.id rfl
theorem a_bin (op : BinOp) (x y : Value) : asem (.bin op x y) H = (binA op x y).map fun v => (v, H) := _root_.id rfl
theorem a_eqv (k : Nat) (neg : Bool) (x y : Value) : asem (.eqv k neg x y) H = (eqA k x y).map fun b => (.bool (if neg then !b else b), H) := _root_.id rfl
theorem a_not (b : Bool) : asem (.un .not (.bool b)) H = some (.bool (!b), H) := _root_.id rfl
theorem a_neg (k : IntKind) (n : Int) : asem (.un .neg (.int k n)) H = some (.int k (k.wrap (0 - n)), H) := _root_.id rfl
theorem a_i2i (k k' : IntKind) (n : Int) : asem (.i2i k (.int k' n)) H = some (.int k (k.wrap n), H) := _root_.id rfl
theorem a_s2s (s : ByteArray) : asem (.s2s (.string s)) H = some (.string s, H) := _root_.id rfl
theorem a_s2b (e : Nat) (l : List UInt8) : asem (.s2b e (.string ⟨l.toArray⟩)) H = some (slc H.n 0 l.length l.length, H.alloc (.cells true true 1 (cellsOf l) e)) := by
  simp only [asem, cellsOf]
  simp [ByteArray.size]
theorem a_iface (t : TypeId) (x : Value) : asem (.iface t x) H = some (.iface t x, H) := _root_.id rfl
theorem a_mkfn (fn : Fn) (xs ys : List Value) : asem (.mkfn fn xs ys) H = some (.func fn xs.toArray ys.toArray, H) := _root_.id rfl
theorem a_faddr (off b o : Nat) : asem (.faddr off (ptr b o)) H = some (ptr b (o + off), H) := _root_.id rfl
theorem a_fld1 (off : Nat) (cs : Array Value) : asem (.fld1 off (.agg cs)) H = cs.toList[off]?.map fun v => (v, H) := _root_.id rfl
theorem a_iaddr (esz b o n k : Nat) (kd : IntKind) (i : Int) : asem (.iaddr esz (slc b o n k) (.int kd i)) H = if 0 ≤ i ∧ i < (n : Int) then some (ptr b (o + i.toNat * esz), H) else none := _root_.id rfl
theorem a_assert (t u : TypeId) (z v : Value) (ok : Bool) : asem (.assert t z ok (.iface u v)) H = if u = t then some (if ok then .tuple #[v, .bool true] else v, H) else if ok then some (.tuple #[z, .bool false], H) else none := _root_.id rfl
theorem a_extract (vs : Array Value) (i : Nat) : asem (.extract (.tuple vs) i) H = vs.toList[i]?.map fun v => (v, H) := _root_.id rfl
theorem a_len (a : Option Addr) (n k : Nat) : asem (.len false (.slice a n k)) H = some (.int .i64 n, H) := _root_.id rfl
theorem a_lenc (b o n k : Nat) : asem (.len false (slc b o n k)) H = some (.int .i64 n, H) := _root_.id rfl
theorem a_lens (l : List UInt8) : asem (.len true (.string ⟨l.toArray⟩)) H = some (.int .i64 l.length, H) := by
  simp [asem, lenA, ByteArray.size]
theorem a_slsl_nil {esz : Nat} {lo hi mx : Option Value} (h : ∃ m hh l, bndA mx 0 0 = some m ∧ bndA hi 0 m = some hh ∧ bndA lo 0 hh = some l) : asem (.slsl esz (.slice none 0 0) lo hi mx) H = some (.slice none 0 0, H) := by
  obtain ⟨m, hh, l, h1, h2, h3⟩ := h
  simp only [asem, h1, h2, h3]
theorem a_slsl {esz b o n k m hh l e : Nat} {own room : Bool} {c : List Value} {lo hi mx : Option Value} (hb : H.get b = some (.cells own room esz c e)) (h1 : bndA mx k k = some m) (h2 : bndA hi n m = some hh) (h3 : bndA lo 0 hh = some l) :
    asem (.slsl esz (slc b o n k) lo hi mx) H = some (slc b (o + l * esz) (hh - l) (m - l), H) := by
  simp only [asem, slc, h1, h2, h3, hb, true_or, if_true]
theorem BS.len {v : Value} {l : List UInt8} (h : BS H v l) : asem (.len false v) H = some (.int .i64 l.length, H) := by
  obtain ⟨a, k, rfl⟩ := h.sh
  rfl
theorem one_int (k : IntKind) (n : Int) : (Value.int k n).oneCell' = true := _root_.id rfl
theorem one_bool (b : Bool) : (Value.bool b).oneCell' = true := _root_.id rfl
theorem one_str (b : ByteArray) : (Value.string b).oneCell' = true := _root_.id rfl
theorem one_sl (a : Option Addr) (n k : Nat) : (Value.slice a n k).oneCell' = true := _root_.id rfl
theorem one_slc (b o n k : Nat) : (slc b o n k).oneCell' = true := _root_.id rfl
theorem one_ptr (b o : Nat) : (ptr b o).oneCell' = true := _root_.id rfl
theorem one_pn (a : Option Addr) : (Value.pointer a).oneCell' = true := _root_.id rfl
theorem one_if (t : TypeId) (v : Value) : (Value.iface t v).oneCell' = true := _root_.id rfl
theorem one_map (t : Option Nat) : (Value.map t).oneCell' = true := _root_.id rfl
def one1 (x : Value) : Prop := x.oneCell' = true
theorem a_st {b o : Nat} {x : Value} {room : Bool} {esz e : Nat} {c : List Value} (h : H.get b = some (.cells true room esz c e)) (ho : o < c.length) (hx : one1 x) : asem (.store1 (ptr b o) x) H = some (undef, H.set b (.cells true room esz (c.set o x) e)) := by
  rw [a_store1 h, if_pos ⟨ho, hx⟩]
theorem o_int (k : IntKind) (n : Int) : one1 (Value.int k n) = True := by simp [one1, one_int]
theorem o_bool (b : Bool) : one1 (Value.bool b) = True := by simp [one1, one_bool]
theorem o_str (b : ByteArray) : one1 (Value.string b) = True := by simp [one1, one_str]
theorem o_sl (a : Option Addr) (n k : Nat) : one1 (Value.slice a n k) = True := by simp [one1, one_sl]
theorem o_slc (b o n k : Nat) : one1 (slc b o n k) = True := by simp [one1, one_slc]
theorem o_ptr (b o : Nat) : one1 (ptr b o) = True := by simp [one1, one_ptr]
theorem o_pn (a : Option Addr) : one1 (Value.pointer a) = True := by simp [one1, one_pn]
theorem o_if (t : TypeId) (v : Value) : one1 (Value.iface t v) = True := by simp [one1, one_if]
theorem o_map (t : Option Nat) : one1 (Value.map t) = True := by simp [one1, one_map]
theorem appR {d : D} {r : List AOper} {e esz bytes : Nat} {s x : Value} {n m : Nat} {c news : List Value} (h : AP H e esz s n c) (hx : ∃ a k, x = .slice a m k) (h1 : elemsA H esz x = some news) (hm : news.length = m * esz)
    (hs : (n + m) * bytes ≤ 140737488355328 ∧ n + m ≤ 140737488355328)
    (hk : ∀ v' H', AP H' e esz v' (n + m) (c ++ news) → Chg (blkL s) H H' → (blk v' = blk s ∨ blk v' = some H.n) → RW P ng r (d.frame v' fr) (d.temps v' tm) H' KF) : stR P ng (.app e esz bytes s x) d r fr tm H KF :=
  s_appAP h hx h1 hm hs hk
end
end Go.AM

set_option linter.unusedSimpArgs false
set_option linter.unusedVariables false
namespace Go.AM
inductive HT
  | leaf
  | node (v : AO) (l r : HT)
def HT.look (t : HT) : Nat → Option AO := match t with
  | .leaf => fun _ => none
  | .node v l r => fun k => match k with
    | 0 => some v
    | m + 1 => if m % 2 = 0 then l.look (m / 2) else r.look (m / 2)
noncomputable def HT.getK (t : HT) : Nat → (AO → Bool) → Bool :=
  HT.rec (motive := fun _ => Nat → (AO → Bool) → Bool) (fun _ _ => false)
    (fun v _ _ gl gr k K => Nat.rec (motive := fun _ => Bool) (K v) (fun m _ => Nat.rec (motive := fun _ => Bool) (gl (Nat.div m 2) K) (fun _ _ => gr (Nat.div m 2) K) (Nat.mod m 2)) k) t
noncomputable def HT.setK (t : HT) : Nat → AO → (HT → Bool) → Bool :=
  HT.rec (motive := fun _ => Nat → AO → (HT → Bool) → Bool) (fun k o K => Nat.rec (motive := fun _ => Bool) (K (.node o .leaf .leaf)) (fun _ _ => false) k)
    (fun v l r sl sr k o K => Nat.rec (motive := fun _ => Bool) (K (.node o l r)) (fun m _ =>
      Nat.rec (motive := fun _ => Bool) (sl (Nat.div m 2) o fun l' => K (.node v l' r)) (fun _ _ => sr (Nat.div m 2) o fun r' => K (.node v l r')) (Nat.mod m 2)) k) t
theorem natrec_c {α : Type} (a b : α) (n : Nat) : Nat.rec (motive := fun _ => α) a (fun _ _ => b) n = if n = 0 then a else b := by
  cases n <;> rfl
theorem HT.getK_spec : ∀ (t : HT) (k : Nat) (K : AO → Bool), t.getK k K = match t.look k with | some o => K o | none => false
  | .leaf, k, K => rfl
  | .node v l r, 0, K => rfl
  | .node v l r, m + 1, K => by
    have h1 := HT.getK_spec l (m / 2) K
    have h2 := HT.getK_spec r (m / 2) K
    have : (HT.node v l r).getK (m + 1) K = Nat.rec (motive := fun _ => Bool) (l.getK (Nat.div m 2) K) (fun _ _ => r.getK (Nat.div m 2) K) (Nat.mod m 2) := rfl
    rw [this, natrec_c]
    show (if m % 2 = 0 then l.getK (m / 2) K else r.getK (m / 2) K) = _
    rw [h1, h2]
    simp only [HT.look]
    split <;> rfl
theorem HT.setK_spec : ∀ (t : HT) (k : Nat) (o : AO) (K : HT → Bool), t.setK k o K = true → ∃ t', K t' = true ∧ ∀ j, t'.look j = if j = k then some o else t.look j
  | .leaf, 0, o, K, h => ⟨.node o .leaf .leaf, h, fun j => by
      cases j with
      | zero => rfl
      | succ m => simp [HT.look]⟩
  | .leaf, k + 1, o, K, h => by cases h
  | .node v l r, 0, o, K, h => ⟨.node o l r, h, fun j => by cases j <;> simp [HT.look]⟩
  | .node v l r, m + 1, o, K, h => by
    have e : (HT.node v l r).setK (m + 1) o K = Nat.rec (motive := fun _ => Bool) (l.setK (Nat.div m 2) o fun l' => K (.node v l' r)) (fun _ _ => r.setK (Nat.div m 2) o fun r' => K (.node v l r')) (Nat.mod m 2) := rfl
    rw [e, natrec_c] at h
    change (if m % 2 = 0 then l.setK (m / 2) o (fun l' => K (.node v l' r)) else r.setK (m / 2) o (fun r' => K (.node v l r'))) = true at h
    split at h
    · rename_i hm
      obtain ⟨t', h1, h2⟩ := HT.setK_spec l (m / 2) o _ h
      refine ⟨_, h1, fun j => ?_⟩
      cases j with
      | zero => simp [HT.look]
      | succ i =>
        simp only [HT.look, h2]
        by_cases hi : i % 2 = 0
        · simp only [hi, if_true]
          by_cases hj : i / 2 = m / 2
          · rw [if_pos hj, if_pos (by omega)]
          · rw [if_neg hj, if_neg (by omega)]
        · simp only [hi, if_false]
          rw [if_neg (by omega)]
    · rename_i hm
      obtain ⟨t', h1, h2⟩ := HT.setK_spec r (m / 2) o _ h
      refine ⟨_, h1, fun j => ?_⟩
      cases j with
      | zero => simp [HT.look]
      | succ i =>
        simp only [HT.look, h2]
        by_cases hi : i % 2 = 0
        · simp only [hi, if_true]
          rw [if_neg (by omega)]
        · simp only [hi, if_false]
          by_cases hj : i / 2 = m / 2
          · rw [if_pos hj, if_pos (by omega)]
          · rw [if_neg hj, if_neg (by omega)]
structure Rp (n : Nat) (t : HT) (H : AHeap) : Prop where
  n : H.n = n
  get : ∀ b, H.get b = t.look b
theorem Rp.getK {n : Nat} {t : HT} {H : AHeap} (r : Rp n t H) {b : Nat} {K : AO → Bool} (h : t.getK b K = true) : ∃ o, H.get b = some o ∧ K o = true := by
  rw [HT.getK_spec] at h
  rw [r.get]
  cases e : t.look b with
  | none => rw [e] at h; cases h
  | some o => rw [e] at h; exact ⟨o, rfl, h⟩
theorem Rp.alloc {n : Nat} {t : HT} {H : AHeap} (r : Rp n t H) {o : AO} {K : HT → Bool} (h : t.setK n o K = true) : ∃ t', K t' = true ∧ Rp (n + 1) t' (H.alloc o) := by
  obtain ⟨t', h1, h2⟩ := HT.setK_spec t n o K h
  refine ⟨t', h1, by rw [alloc_n, r.n], fun b => ?_⟩
  rw [alloc_get, h2, r.n, r.get]
theorem Rp.set {n : Nat} {t : HT} {H : AHeap} (r : Rp n t H) {b : Nat} {o : AO} {K : HT → Bool} (hb : (H.get b).isSome = true) (h : t.setK b o K = true) : ∃ t', K t' = true ∧ Rp n t' (H.set b o) := by
  obtain ⟨t', h1, h2⟩ := HT.setK_spec t b o K h
  refine ⟨t', h1, by rw [set_n, r.n], fun x => ?_⟩
  rw [set_get o hb, h2, r.get]
noncomputable def forceN (n : Nat) (K : Nat → Bool) : Bool := Nat.rec (motive := fun _ => Bool) (K 0) (fun m _ => K (m + 1)) n
theorem forceN_eq (n : Nat) (K : Nat → Bool) : forceN n K = K n := by cases n <;> rfl
noncomputable def forceI (i : Int) (K : Int → Bool) : Bool := Int.rec (motive := fun _ => Bool) (fun n => forceN n fun n => K (.ofNat n)) (fun n => forceN n fun n => K (.negSucc n)) i
theorem forceI_eq (i : Int) (K : Int → Bool) : forceI i K = K i := by cases i <;> simp only [forceI, forceN_eq]
noncomputable def forceB (b : Bool) (K : Bool → Bool) : Bool := Bool.rec (motive := fun _ => Bool) (K false) (K true) b
theorem forceB_eq (b : Bool) (K : Bool → Bool) : forceB b K = K b := by cases b <;> rfl
noncomputable def nthK (l : List Value) : Nat → (Value → Bool) → Bool :=
  List.rec (motive := fun _ => Nat → (Value → Bool) → Bool) (fun _ K => K undef) (fun x _ ih i K => Nat.rec (motive := fun _ => Bool) (K x) (fun m _ => ih m K) i) l
theorem nthK_eq : ∀ (l : List Value) (i : Nat) (K : Value → Bool), nthK l i K = K (l.getD i undef)
  | [], i, K => rfl
  | x :: l, 0, K => rfl
  | x :: l, i + 1, K => (nthK_eq l i K).trans (by simp [List.getD])
noncomputable def nthO (l : List Value) : Nat → (Value → Bool) → Bool :=
  List.rec (motive := fun _ => Nat → (Value → Bool) → Bool) (fun _ K => false) (fun x _ ih i K => Nat.rec (motive := fun _ => Bool) (K x) (fun m _ => ih m K) i) l
theorem nthO_eq : ∀ (l : List Value) (i : Nat) (K : Value → Bool), nthO l i K = match l[i]? with | some v => K v | none => false
  | [], i, K => rfl
  | x :: l, 0, K => rfl
  | x :: l, i + 1, K => (nthO_eq l i K).trans (by simp)
noncomputable def updK (v : Value) (l : List Value) : Nat → (List Value → Bool) → Bool :=
  List.rec (motive := fun _ => Nat → (List Value → Bool) → Bool) (fun _ K => K []) (fun x r ih i K => Nat.rec (motive := fun _ => Bool) (K (v :: r)) (fun m _ => ih m fun r' => K (x :: r')) i) l
theorem updK_eq (v : Value) : ∀ (l : List Value) (i : Nat) (K : List Value → Bool), updK v l i K = K (l.set i v)
  | [], i, K => rfl
  | x :: l, 0, K => rfl
  | x :: l, i + 1, K => updK_eq v l i _
noncomputable def evX (x : AX) (fr tm : List Value) (K : Value → Bool) : Bool := match x with
  | .fr i => nthK fr i K
  | .tm i => nthK tm i K
  | .c v => K v
  | .g n => K (.pointer (some ⟨n, 0, none⟩))
  | .fn f => K (.func (.func f) #[] #[])
theorem evX_eq (x : AX) (fr tm : List Value) (K : Value → Bool) : evX x fr tm K = K (x.ev fr tm) := by
  cases x <;> simp only [evX, AX.ev, nthK_eq]
noncomputable def evXs (l : List AX) (fr tm : List Value) : (List Value → Bool) → Bool :=
  List.rec (motive := fun _ => (List Value → Bool) → Bool) (fun K => K []) (fun x _ ih K => evX x fr tm fun v => ih fun vs => K (v :: vs)) l
theorem evXs_eq : ∀ (l : List AX) (fr tm : List Value) (K : List Value → Bool), evXs l fr tm K = K (l.map (AX.ev fr tm))
  | [], fr, tm, K => rfl
  | x :: l, fr, tm, K => by
    have : evXs (x :: l) fr tm K = evX x fr tm fun v => evXs l fr tm fun vs => K (v :: vs) := rfl
    rw [this, evX_eq, evXs_eq l]; rfl
noncomputable def evO (x : Option AX) (fr tm : List Value) (K : Option Value → Bool) : Bool := match x with
  | none => K none
  | some x => evX x fr tm fun v => K (some v)
theorem evO_eq (x : Option AX) (fr tm : List Value) (K : Option Value → Bool) : evO x fr tm K = K (x.map (AX.ev fr tm)) := by
  cases x <;> simp only [evO, evX_eq, Option.map]
noncomputable def evPs (l : List (Nat × Nat × AX)) (fr tm : List Value) : (List (Nat × Nat × Value) → Bool) → Bool :=
  List.rec (motive := fun _ => (List (Nat × Nat × Value) → Bool) → Bool) (fun K => K []) (fun p _ ih K => evX p.2.2 fr tm fun v => ih fun vs => K ((p.1, p.2.1, v) :: vs)) l
theorem evPs_eq : ∀ (l : List (Nat × Nat × AX)) (fr tm : List Value) (K : List (Nat × Nat × Value) → Bool), evPs l fr tm K = K (l.map fun p => (p.1, p.2.1, p.2.2.ev fr tm))
  | [], fr, tm, K => rfl
  | x :: l, fr, tm, K => by
    have : evPs (x :: l) fr tm K = evX x.2.2 fr tm fun v => evPs l fr tm fun vs => K ((x.1, x.2.1, v) :: vs) := rfl
    rw [this, evX_eq, evPs_eq l]; rfl
def kNum : IntKind → Nat
  | .i8 => 0 | .i16 => 1 | .i32 => 2 | .i64 => 3 | .u8 => 4 | .u16 => 5 | .u32 => 6 | .u64 => 7
theorem kNum_inj {a b : IntKind} (h : Nat.beq (kNum a) (kNum b) = true) : a = b := by
  have := Nat.eq_of_beq_eq_true h
  cases a <;> cases b <;> first | rfl | (exact absurd this (by decide))
def kMax : IntKind → Nat
  | .i8 => 128 | .i16 => 32768 | .i32 => 2147483648 | .i64 => 9223372036854775808 | .u8 => 256 | .u16 => 65536 | .u32 => 4294967296 | .u64 => 18446744073709551616
noncomputable def wrapT (k : IntKind) (n : Int) (K : Int → Bool) : Bool :=
  Int.rec (motive := fun _ => Bool) (fun m => forceB (Nat.ble (kMax k) m) fun b => Bool.rec (motive := fun _ => Bool) (forceN m fun m => K (.ofNat m)) (forceI (k.wrap (.ofNat m)) K) b)
    (fun m => forceI (k.wrap (.negSucc m)) K) n
theorem wrap_fit {k : IntKind} {m : Nat} (h : m < kMax k) : k.wrap (m : Int) = m := by
  cases k <;> simp [kMax, IntKind.wrap, IntKind.bits, IntKind.signed] at h ⊢ <;> omega
theorem wrapT_eq (k : IntKind) (n : Int) (K : Int → Bool) : wrapT k n K = K (k.wrap n) := by
  cases n with
  | negSucc m => simp only [wrapT, forceI_eq]
  | ofNat m =>
    simp only [wrapT, forceB_eq, forceN_eq, forceI_eq]
    cases h : Nat.ble (kMax k) m
    · have : ¬ kMax k ≤ m := fun h2 => by rw [Nat.ble_eq_true_of_le h2] at h; cases h
      have := wrap_fit (k := k) (m := m) (by omega)
      show K (Int.ofNat m) = _
      rw [show Int.ofNat m = (m : Int) from rfl, this]
    · rfl
def iLt : Int → Int → Bool
  | .ofNat a, .ofNat b => Nat.ble (a + 1) b
  | .ofNat _, .negSucc _ => false
  | .negSucc _, .ofNat _ => true
  | .negSucc a, .negSucc b => Nat.ble (b + 1) a
theorem iLt_eq (a b : Int) : iLt a b = decide (a < b) := by
  cases a <;> cases b <;> simp only [iLt] <;> rw [Bool.eq_iff_iff] <;> simp <;> omega
def iEq : Int → Int → Bool
  | .ofNat a, .ofNat b => Nat.beq a b
  | .negSucc a, .negSucc b => Nat.beq a b
  | _, _ => false
theorem iEq_eq (a b : Int) : iEq a b = (a == b) := by
  cases a <;> cases b <;> simp only [iEq] <;> rw [Bool.eq_iff_iff] <;> simp [Nat.beq_eq] <;> omega
noncomputable def bitT (k : IntKind) (f : Nat → Nat → Nat) (slow : Int) (a b : Int) (K : Int → Bool) : Bool :=
  match a, b with
  | .ofNat m, .ofNat n => forceB (Nat.ble (kMax k) m) fun x => forceB (Nat.ble (kMax k) n) fun y => match x, y with
    | false, false => forceN (f m n) fun r => K (.ofNat r)
    | _, _ => forceI slow K
  | _, _ => forceI slow K
theorem kMax_le (k : IntKind) : kMax k ≤ 2 ^ k.bits := by cases k <;> decide
theorem kMax_pow (k : IntKind) : ∃ j, kMax k = 2 ^ j := by
  cases k
  · exact ⟨7, rfl⟩
  · exact ⟨15, rfl⟩
  · exact ⟨31, rfl⟩
  · exact ⟨63, rfl⟩
  · exact ⟨8, rfl⟩
  · exact ⟨16, rfl⟩
  · exact ⟨32, rfl⟩
  · exact ⟨64, rfl⟩
theorem bitT_eq {k : IntKind} {f : Nat → Nat → Nat} {slow a b : Int} {K : Int → Bool} (h : ∀ m n : Nat, m < kMax k → n < kMax k → a = m → b = n → slow = (f m n : Nat)) : bitT k f slow a b K = K slow := by
  cases a with
  | negSucc m => simp only [bitT, forceI_eq]
  | ofNat m =>
    cases b with
    | negSucc n => simp only [bitT, forceI_eq]
    | ofNat n =>
      simp only [bitT, forceB_eq]
      cases h1 : Nat.ble (kMax k) m <;> cases h2 : Nat.ble (kMax k) n <;> simp only [forceI_eq, forceN_eq]
      have a1 : ¬ kMax k ≤ m := fun h2 => by rw [Nat.ble_eq_true_of_le h2] at h1; cases h1
      have a2 : ¬ kMax k ≤ n := fun h3 => by rw [Nat.ble_eq_true_of_le h3] at h2; cases h2
      rw [h m n (by omega) (by omega) rfl rfl]
      rfl
theorem ofInt_fit {k : IntKind} {m : Nat} (h : m < kMax k) : (BitVec.ofInt k.bits (m : Int)).toNat = m := by
  rw [BitVec.ofInt_natCast, BitVec.toNat_ofNat]
  exact Nat.mod_eq_of_lt (Nat.lt_of_lt_of_le h (kMax_le k))
theorem and_fit {k : IntKind} {m n : Nat} (h1 : m < kMax k) (h2 : n < kMax k) : k.wrap ((BitVec.ofInt k.bits (m : Int) &&& BitVec.ofInt k.bits (n : Int)).toNat : Int) = ((Nat.land m n : Nat) : Int) := by
  rw [BitVec.toNat_and, ofInt_fit h1, ofInt_fit h2]
  exact wrap_fit (Nat.lt_of_le_of_lt Nat.and_le_left h1)
theorem or_fit {k : IntKind} {m n : Nat} (h1 : m < kMax k) (h2 : n < kMax k) : k.wrap ((BitVec.ofInt k.bits (m : Int) ||| BitVec.ofInt k.bits (n : Int)).toNat : Int) = ((Nat.lor m n : Nat) : Int) := by
  rw [BitVec.toNat_or, ofInt_fit h1, ofInt_fit h2]
  obtain ⟨j, hj⟩ := kMax_pow k
  exact wrap_fit (by rw [hj] at h1 h2 ⊢; exact Nat.or_lt_two_pow h1 h2)
theorem xor_fit {k : IntKind} {m n : Nat} (h1 : m < kMax k) (h2 : n < kMax k) : k.wrap ((BitVec.ofInt k.bits (m : Int) ^^^ BitVec.ofInt k.bits (n : Int)).toNat : Int) = ((Nat.xor m n : Nat) : Int) := by
  rw [BitVec.toNat_xor, ofInt_fit h1, ofInt_fit h2]
  obtain ⟨j, hj⟩ := kMax_pow k
  exact wrap_fit (by rw [hj] at h1 h2 ⊢; exact Nat.xor_lt_two_pow h1 h2)
theorem andNot_eq {w : Nat} (x y : BitVec w) : x &&& ~~~y = x ^^^ (x &&& y) := by
  apply BitVec.eq_of_getLsbD_eq
  intro i hi
  simp only [BitVec.getLsbD_and, BitVec.getLsbD_not, BitVec.getLsbD_xor, hi, decide_true, Bool.true_and]
  cases x.getLsbD i <;> cases y.getLsbD i <;> rfl
theorem andNot_fit {k : IntKind} {m n : Nat} (h1 : m < kMax k) (h2 : n < kMax k) : k.wrap ((BitVec.ofInt k.bits (m : Int) &&& ~~~ BitVec.ofInt k.bits (n : Int)).toNat : Int) = ((Nat.xor m (Nat.land m n) : Nat) : Int) := by
  rw [andNot_eq, BitVec.toNat_xor, BitVec.toNat_and, ofInt_fit h1, ofInt_fit h2]
  obtain ⟨j, hj⟩ := kMax_pow k
  exact wrap_fit (by rw [hj] at h1 h2 ⊢; exact Nat.xor_lt_two_pow h1 (Nat.lt_of_le_of_lt Nat.and_le_left h1))
noncomputable def shT (k : IntKind) (b : Int) (K : Nat → Bool) : Bool := match b with
  | .ofNat s => Bool.rec (motive := fun _ => Bool) (K k.bits) (forceN s K) (Nat.ble s k.bits)
  | .negSucc _ => false
theorem shT_true {k : IntKind} {b : Int} {K : Nat → Bool} (h : shT k b K = true) : 0 ≤ b ∧ K (min b.toNat k.bits) = true := by
  cases b with
  | negSucc _ => cases h
  | ofNat s =>
    refine ⟨Int.natCast_nonneg _, ?_⟩
    simp only [shT] at h
    cases e : Nat.ble s k.bits <;> rw [e] at h <;> simp only [forceN_eq] at h
    · have : ¬ s ≤ k.bits := fun h2 => by rw [Nat.ble_eq_true_of_le h2] at e; cases e
      rw [show min (Int.ofNat s).toNat k.bits = k.bits from by simp; omega]; exact h
    · have := Nat.le_of_ble_eq_true e
      rw [show min (Int.ofNat s).toNat k.bits = s from by simp; omega]; exact h
def upT (a : Int) (s : Nat) : Int := match a with
  | .ofNat m => .ofNat (Nat.mul m (Nat.pow 2 s))
  | a => a * 2 ^ s
def downT (a : Int) (s : Nat) : Int := match a with
  | .ofNat m => .ofNat (Nat.div m (Nat.pow 2 s))
  | a => a.fdiv (2 ^ s)
theorem upT_eq (a : Int) (s : Nat) : upT a s = a * 2 ^ s := by
  cases a with
  | negSucc m => rfl
  | ofNat m =>
    show ((m * 2 ^ s : Nat) : Int) = (m : Int) * 2 ^ s
    push_cast; rfl
theorem downT_eq (a : Int) (s : Nat) : downT a s = a.fdiv (2 ^ s) := by
  cases a with
  | negSucc m => rfl
  | ofNat m =>
    show ((m / 2 ^ s : Nat) : Int) = (m : Int).fdiv (2 ^ s)
    rw [show ((2 : Int) ^ s) = ((2 ^ s : Nat) : Int) by push_cast; rfl, Int.fdiv_eq_ediv_of_nonneg _ (Int.natCast_nonneg _)]
    push_cast; rfl
noncomputable def intT (op : BinOp) (k : IntKind) (a b : Int) (K : Value → Bool) : Bool := match op with
  | .add => wrapT k (a + b) fun r => K (.int k r)
  | .sub => wrapT k (a - b) fun r => K (.int k r)
  | .mul => wrapT k (a * b) fun r => K (.int k r)
  | .quo => Bool.rec (motive := fun _ => Bool) (wrapT k (a.tdiv b) fun r => K (.int k r)) false (iEq b 0)
  | .rem => Bool.rec (motive := fun _ => Bool) (forceI (a.tmod b) fun r => K (.int k r)) false (iEq b 0)
  | .and => bitT k Nat.land (k.wrap (BitVec.ofInt k.bits a &&& BitVec.ofInt k.bits b).toNat) a b fun r => K (.int k r)
  | .or => bitT k Nat.lor (k.wrap (BitVec.ofInt k.bits a ||| BitVec.ofInt k.bits b).toNat) a b fun r => K (.int k r)
  | .xor => bitT k Nat.xor (k.wrap (BitVec.ofInt k.bits a ^^^ BitVec.ofInt k.bits b).toNat) a b fun r => K (.int k r)
  | .andNot => bitT k (fun m n => Nat.xor m (Nat.land m n)) (k.wrap (BitVec.ofInt k.bits a &&& ~~~ BitVec.ofInt k.bits b).toNat) a b fun r => K (.int k r)
  | .eql => forceB (iEq a b) fun r => K (.bool r)
  | .neq => forceB (iEq a b) fun r => K (.bool (!r))
  | .lss => forceB (iLt a b) fun r => K (.bool r)
  | .leq => forceB (iLt b a) fun r => K (.bool (!r))
  | .gtr => forceB (iLt b a) fun r => K (.bool r)
  | .geq => forceB (iLt a b) fun r => K (.bool (!r))
  | _ => false
theorem iEq_zero {b : Int} : iEq b 0 = decide (b = 0) := by rw [iEq_eq, Bool.eq_iff_iff]; simp
theorem intT_true {op : BinOp} {k : IntKind} {a b : Int} {K : Value → Bool} (h : intT op k a b K = true) : ∃ v, intA op k a b = some v ∧ K v = true := by
  cases op <;> simp only [intT, wrapT_eq, forceB_eq, forceI_eq, iLt_eq, iEq_zero] at h <;> simp only [intA]
  case quo =>
    by_cases hb : b = 0
    · subst hb; cases h
    · rw [if_neg hb]; simp only [hb, decide_false] at h; exact ⟨_, rfl, h⟩
  case rem =>
    by_cases hb : b = 0
    · subst hb; cases h
    · rw [if_neg hb]; simp only [hb, decide_false] at h; exact ⟨_, rfl, h⟩
  case and => rw [bitT_eq (fun m n h1 h2 e1 e2 => by subst e1 e2; exact and_fit h1 h2)] at h; exact ⟨_, rfl, h⟩
  case or => rw [bitT_eq (fun m n h1 h2 e1 e2 => by subst e1 e2; exact or_fit h1 h2)] at h; exact ⟨_, rfl, h⟩
  case xor => rw [bitT_eq (fun m n h1 h2 e1 e2 => by subst e1 e2; exact xor_fit h1 h2)] at h; exact ⟨_, rfl, h⟩
  case andNot => rw [bitT_eq (fun m n h1 h2 e1 e2 => by subst e1 e2; exact andNot_fit h1 h2)] at h; exact ⟨_, rfl, h⟩
  case eql => rw [iEq_eq] at h; exact ⟨_, rfl, h⟩
  case neq => rw [iEq_eq] at h; exact ⟨_, rfl, by rw [show (a != b) = !(a == b) from rfl]; exact h⟩
  case leq => exact ⟨_, rfl, by rw [show decide (a ≤ b) = !decide (b < a) from by rw [Bool.eq_iff_iff]; simp]; exact h⟩
  case geq => exact ⟨_, rfl, by rw [show decide (b ≤ a) = !decide (a < b) from by rw [Bool.eq_iff_iff]; simp]; exact h⟩
  all_goals first | exact ⟨_, rfl, h⟩ | (cases h; done)
noncomputable def bEq (a b : List UInt8) : Bool :=
  List.rec (motive := fun _ => List UInt8 → Bool) (fun b => List.rec (motive := fun _ => Bool) true (fun _ _ _ => false) b)
    (fun x _ ih b => List.rec (motive := fun _ => Bool) false (fun y r _ => Bool.rec (motive := fun _ => Bool) false (ih r) (Nat.beq x.toNat y.toNat)) b) a b
theorem bEq_eq : ∀ a b : List UInt8, bEq a b = decide (a = b)
  | [], [] => by simp [bEq]
  | [], y :: b => by simp [bEq]
  | x :: a, [] => by simp [bEq]
  | x :: a, y :: b => by
    have h : bEq (x :: a) (y :: b) = Bool.rec (motive := fun _ => Bool) false (bEq a b) (Nat.beq x.toNat y.toNat) := rfl
    rw [h, bEq_eq a b]
    cases e : Nat.beq x.toNat y.toNat
    · have : x ≠ y := fun h => by subst h; rw [Nat.beq_refl] at e; cases e
      simp [this]
    · have : x = y := UInt8.toNat_inj.1 (Nat.eq_of_beq_eq_true e)
      simp [this]
theorem bstr_eq (a b : ByteArray) : decide (a = b) = bEq a.data.toList b.data.toList := by
  rw [bEq_eq, Bool.eq_iff_iff]
  simp only [decide_eq_true_eq]
  constructor
  · intro h; rw [h]
  · intro h
    have : a.data = b.data := Array.toList_inj.1 h
    cases a; cases b; simp_all
def bCat (a b : ByteArray) : ByteArray := ⟨⟨a.data.toList ++ b.data.toList⟩⟩
theorem bCat_eq (a b : ByteArray) : bCat a b = a ++ b := by
  have : (a ++ b).data.toList = a.data.toList ++ b.data.toList := by rw [ByteArray.data_append]; simp
  have h2 : (bCat a b).data = (a ++ b).data := Array.toList_inj.1 (by rw [this]; rfl)
  cases h : bCat a b; cases h3 : a ++ b; rw [h, h3] at h2; simp_all
def bSub (s : ByteArray) (l h : Nat) : ByteArray := ⟨⟨(s.data.toList.take h).drop l⟩⟩
theorem bSub_eq (s : ByteArray) (l h : Nat) : bSub s l h = s.extract l h := by
  have : (s.extract l h).data.toList = (s.data.toList.take h).drop l := by
    rw [ByteArray.data_extract]; simp [List.extract_eq_take_drop, List.drop_take]
  have h2 : (bSub s l h).data = (s.extract l h).data := Array.toList_inj.1 (by rw [this]; rfl)
  cases h3 : bSub s l h; cases h4 : s.extract l h; rw [h3, h4] at h2; simp_all
def bLen (s : ByteArray) : Nat := s.data.toList.length
theorem bLen_eq (s : ByteArray) : bLen s = s.size := by simp [bLen]
noncomputable def strT (op : BinOp) (a b : ByteArray) (K : Value → Bool) : Bool := match op with
  | .add => Bool.rec (motive := fun _ => Bool) false (K (.string (bCat a b))) (Nat.ble (bLen a + bLen b) 140737488355328)
  | .eql => forceB (bEq a.data.toList b.data.toList) fun r => K (.bool r)
  | .neq => forceB (bEq a.data.toList b.data.toList) fun r => K (.bool (!r))
  | .lss => forceB (Op.bytesLess a.data.toList b.data.toList) fun r => K (.bool r)
  | .leq => forceB (Op.bytesLess a.data.toList b.data.toList || bEq a.data.toList b.data.toList) fun r => K (.bool r)
  | .gtr => forceB (!(Op.bytesLess a.data.toList b.data.toList || bEq a.data.toList b.data.toList)) fun r => K (.bool r)
  | .geq => forceB (!Op.bytesLess a.data.toList b.data.toList) fun r => K (.bool r)
  | _ => false
theorem strT_true {op : BinOp} {a b : ByteArray} {K : Value → Bool} (h : strT op a b K = true) : ∃ v, strA op a b = some v ∧ K v = true := by
  cases op <;> simp only [strT, forceB_eq, bCat_eq, bLen_eq, ← bstr_eq] at h <;> simp only [strA]
  case add =>
    cases e : Nat.ble (a.size + b.size) 140737488355328
    · rw [e] at h; cases h
    · rw [e] at h
      rw [if_pos (Nat.le_of_ble_eq_true e)]; exact ⟨_, rfl, h⟩
  all_goals first | exact ⟨_, rfl, h⟩ | (cases h; done)
noncomputable def binT (op : BinOp) (x y : Value) (K : Value → Bool) : Bool := match x, y with
  | .int k a, .int k' b => match op with
    | .shl => shT k b fun s => wrapT k (upT a s) fun r => K (.int k r)
    | .shr => shT k b fun s => forceI (downT a s) fun r => K (.int k r)
    | op => Bool.rec (motive := fun _ => Bool) false (intT op k a b K) (Nat.beq (kNum k) (kNum k'))
  | .string a, .string b => strT op a b K
  | _, _ => false
theorem binT_true {op : BinOp} {x y : Value} {K : Value → Bool} (h : binT op x y K = true) : ∃ v, binA op x y = some v ∧ K v = true := by
  unfold binT at h
  split at h
  · rename_i k a k' b
    split at h
    · obtain ⟨h1, h2⟩ := shT_true h
      rw [wrapT_eq, upT_eq] at h2
      exact ⟨_, by simp only [binA, h1, if_true], h2⟩
    · obtain ⟨h1, h2⟩ := shT_true h
      rw [forceI_eq, downT_eq] at h2
      exact ⟨_, by simp only [binA, h1, if_true], h2⟩
    · rename_i n1 n2
      cases e : Nat.beq (kNum k) (kNum k')
      · rw [e] at h; cases h
      · rw [e] at h
        have := kNum_inj e
        subst this
        obtain ⟨v, h1, h2⟩ := intT_true h
        refine ⟨v, ?_, h2⟩
        cases op <;> first | exact absurd rfl n1 | exact absurd rfl n2 | (simp only [binA, if_true]; exact h1)
  · obtain ⟨v, h1, h2⟩ := strT_true h
    exact ⟨v, h1, h2⟩
  · cases h
end Go.AM

set_option linter.unusedSimpArgs false
set_option linter.unusedVariables false
namespace Go.AM
def valEq : Value → Value → Bool
  | .bool a, .bool b => match a, b with
    | true, true => true
    | false, false => true
    | _, _ => false
  | .int k a, .int k' b => match Nat.beq (kNum k) (kNum k') with
    | true => iEq a b
    | false => false
  | .string a, .string b => decide (a = b)
  | .pointer a, .pointer b => decide (a = b)
  | .slice a n k, .slice b m l => match Nat.beq n m, Nat.beq k l with
    | true, true => decide (a = b)
    | _, _ => false
  | .map a, .map b => decide (a = b)
  | .nilFunc, .nilFunc => true
  | .nilIface, .nilIface => true
  | _, _ => false
theorem valEq_true {a b : Value} (h : valEq a b = true) : a = b := by
  unfold valEq at h
  split at h
  · split at h <;> first | rfl | cases h
  · split at h
    · rename_i e
      have := kNum_inj e
      subst this
      rw [iEq_eq] at h
      rw [eq_of_beq h]
    · cases h
  · rw [of_decide_eq_true h]
  · rw [of_decide_eq_true h]
  · split at h
    · rename_i e1 e2
      rw [of_decide_eq_true h, Nat.eq_of_beq_eq_true e1, Nat.eq_of_beq_eq_true e2]
    · cases h
  · rw [of_decide_eq_true h]
  · rfl
  · rfl
  · cases h
def vals0 : List Value → List Value → Bool
  | [], [] => true
  | a :: l, b :: m => match valEq a b with
    | true => vals0 l m
    | false => false
  | _, _ => false
theorem vals0_true : ∀ {a b : List Value}, vals0 a b = true → a = b
  | [], [], _ => rfl
  | a :: l, b :: m, h => by
    simp only [vals0] at h
    split at h
    · rename_i e; rw [valEq_true e, vals0_true h]
    · cases h
  | [], _ :: _, h => by cases h
  | _ :: _, [], h => by cases h
def valEq1 : Value → Value → Bool
  | .iface t a, .iface u b => match Nat.beq t u, a, b with
    | true, .agg xs, .agg ys => vals0 xs.toList ys.toList
    | true, a, b => valEq a b
    | false, _, _ => false
  | .func (.func f) xs ys, .func (.func g) us vs => match Nat.beq f g with
    | true => match vals0 xs.toList us.toList with
      | true => vals0 ys.toList vs.toList
      | false => false
    | false => false
  | a, b => valEq a b
theorem valEq1_true {a b : Value} (h : valEq1 a b = true) : a = b := by
  unfold valEq1 at h
  split at h
  · split at h
    · rename_i e
      rw [Nat.eq_of_beq_eq_true e, Array.toList_inj.1 (vals0_true h)]
    · rename_i e _
      rw [Nat.eq_of_beq_eq_true e, valEq_true h]
    · cases h
  · split at h
    · rename_i e
      split at h
      · rename_i e2
        rw [Nat.eq_of_beq_eq_true e, Array.toList_inj.1 (vals0_true e2), Array.toList_inj.1 (vals0_true h)]
      · cases h
    · cases h
  · exact valEq_true h
def valsEq : List Value → List Value → Bool
  | [], [] => true
  | a :: l, b :: m => match valEq1 a b with
    | true => valsEq l m
    | false => false
  | _, _ => false
theorem valsEq_true : ∀ {a b : List Value}, valsEq a b = true → a = b
  | [], [], _ => rfl
  | a :: l, b :: m, h => by
    simp only [valsEq] at h
    split at h
    · rename_i e; rw [valEq1_true e, valsEq_true h]
    · cases h
  | [], _ :: _, h => by cases h
  | _ :: _, [], h => by cases h
def aoEq : AO → AO → Bool
  | .cells o r z c e, .cells o' r' z' c' e' => match o == o', r == r', Nat.beq z z', Nat.beq e e' with
    | true, true, true, true => valsEq c c'
    | _, _, _, _ => false
  | _, _ => false
theorem aoEq_true {a b : AO} (h : aoEq a b = true) : a = b := by
  unfold aoEq at h
  split at h
  · split at h
    · rename_i e1 e2 e3 e4
      rw [eq_of_beq e1, eq_of_beq e2, Nat.eq_of_beq_eq_true e3, Nat.eq_of_beq_eq_true e4, valsEq_true h]
    · cases h
  · cases h
noncomputable def allocT (o : AO) (n : Nat) (t : HT) (K : Nat → HT → Bool) : Bool := t.setK n o fun t' => forceN (n + 1) fun n' => K n' t'
theorem Rp.allocT {n : Nat} {t : HT} {H : AHeap} (r : Rp n t H) {o : AO} {K : Nat → HT → Bool} (h : AM.allocT o n t K = true) : ∃ n' t', K n' t' = true ∧ Rp n' t' (H.alloc o) := by
  obtain ⟨t', h1, h2⟩ := r.alloc h
  rw [forceN_eq] at h1
  exact ⟨_, t', h1, h2⟩
def allOne : List Value → Bool
  | [] => true
  | v :: l => match v.oneCell' with
    | true => allOne l
    | false => false
theorem allOne_eq : ∀ l : List Value, allOne l = l.all Value.oneCell'
  | [] => rfl
  | v :: l => by simp only [allOne, List.all_cons, allOne_eq l]; cases v.oneCell' <;> rfl
noncomputable def asT (b : Bool) (K : Bool) : Bool := Bool.rec (motive := fun _ => Bool) false K b
theorem asT_true {b K : Bool} (h : asT b K = true) : b = true ∧ K = true := by cases b <;> simp_all [asT]
noncomputable def elemsT (t : HT) (esz : Nat) (x : Value) (K : List Value → Bool) : Bool := match x with
  | .slice none _ _ => K []
  | .slice (some ⟨b, o, none⟩) n _ => t.getK b fun ao => match ao with
    | .cells _ _ _ c _ => asT (Nat.ble (o + n * esz) c.length) (K ((c.drop o).take (n * esz)))
    | _ => false
  | _ => false
theorem elemsT_true {n : Nat} {t : HT} {H : AHeap} (r : Rp n t H) {esz : Nat} {x : Value} {K : List Value → Bool} (h : elemsT t esz x K = true) : ∃ c, elemsA H esz x = some c ∧ K c = true := by
  unfold elemsT at h
  split at h
  · exact ⟨_, rfl, h⟩
  · obtain ⟨o, h1, h2⟩ := r.getK h
    split at h2
    · obtain ⟨h3, h4⟩ := asT_true h2
      refine ⟨_, ?_, h4⟩
      simp only [elemsA, h1]
      rw [if_pos (Nat.le_of_ble_eq_true h3)]
    · cases h2
  · cases h
def plainT (op : AOp Value) : Option Value := match op with
  | .mov x => some x
  | .pick c a b => match c with
    | .bool t => some (if t then a else b)
    | _ => none
  | .build z ps => (fillA z ps).map fun c => .agg c.toArray
  | .nilck x => match x with
    | .pointer (some _) => some x
    | .iface _ _ => some x
    | .func (.func _) _ _ => some x
    | _ => none
  | .eqv k neg x y => (eqA k x y).map fun b => .bool (if neg then !b else b)
  | .un op x => match op, x with
    | .not, .bool b => some (.bool (!b))
    | .neg, .int k n => some (.int k (k.wrap (0 - n)))
    | .xor, .int k n => some (.int k (k.wrap (BitVec.ofInt k.bits (if k.signed then -1 else k.max) ^^^ BitVec.ofInt k.bits n).toNat))
    | _, _ => none
  | .s2s x => match x with
    | .string s => some (.string s)
    | _ => none
  | .iface t x => some (.iface t x)
  | .mkfn fn xs ys => some (.func fn xs.toArray ys.toArray)
  | .fldn off n x => match x with
    | .agg cs => if off + n ≤ cs.size then some (.agg ((cs.toList.drop off).take n).toArray) else none
    | _ => none
  | .idxs x i => match x, i with
    | .string s, .int _ i => if 0 ≤ i ∧ i < (s.size : Int) then (s.data.toList[i.toNat]?).map fun b => .int .u8 b.toNat else none
    | _, _ => none
  | .idxa agg esz n x i => match x, i with
    | .agg cs, .int _ i => if 0 ≤ i ∧ i < (n : Int) then
        (if agg then (if i.toNat * esz + esz ≤ cs.size then some (.agg ((cs.toList.drop (i.toNat * esz)).take esz).toArray) else none)
        else cs.toList[i.toNat * esz]?) else none
    | _, _ => none
  | .eqs cs neg x y => match x, y with
    | .agg xs, .agg ys => (eqCs cs xs.toList ys.toList).map fun b => .bool (if neg then !b else b)
    | _, _ => none
  | .mm mx x y => match x, y with
    | .int k a, .int k' b => if k = k' then some (.int k (if mx then (if b > a then b else a) else (if b < a then b else a))) else none
    | _, _ => none
  | .i2str x => match x with
    | .int _ n => some (.string (Utf8.encode n))
    | _ => none
  | .assert t z ok x => match x with
    | .iface u v => if u = t then some (if ok then .tuple #[v, .bool true] else v) else if ok then some (.tuple #[z, .bool false]) else none
    | .nilIface => if ok then some (.tuple #[z, .bool false]) else none
    | _ => none
  | _ => none
theorem plainT_sound {op : AOp Value} {H : AHeap} {v : Value} (h : plainT op = some v) : asem op H = some (v, H) := by
  cases op <;> simp only [plainT] at h <;> simp only [asem] <;> try (cases h; done)
  case mov => cases h; rfl
  case pick => split at h <;> first | (cases h; rfl) | cases h
  case build => simp only [Option.map_eq_some_iff] at h ⊢; obtain ⟨c, h1, h2⟩ := h; exact ⟨c, h1, by rw [h2]⟩
  case nilck => split at h <;> first | (cases h; rfl) | cases h
  case eqv => simp only [Option.map_eq_some_iff] at h ⊢; obtain ⟨c, h1, h2⟩ := h; exact ⟨c, h1, by rw [h2]⟩
  case un => split at h <;> first | (cases h; rfl) | cases h
  case s2s => split at h <;> first | (cases h; rfl) | cases h
  case iface => cases h; rfl
  case mkfn => cases h; rfl
  case fldn =>
    split at h
    · split at h
      · rename_i hh; cases h; dsimp only; rw [if_pos hh]
      · cases h
    · cases h
  case idxs =>
    split at h
    · split at h
      · rename_i hh; dsimp only; rw [if_pos hh]; simp only [Option.map_eq_some_iff] at h ⊢; obtain ⟨c, h1, h2⟩ := h; exact ⟨c, h1, by rw [h2]⟩
      · cases h
    · cases h
  case idxa agg esz n x i =>
    split at h
    · split at h
      · rename_i hh
        dsimp only
        rw [if_pos hh]
        cases agg
        · simp only [Bool.false_eq_true, if_false] at h ⊢; rw [h]; rfl
        · simp only [if_true] at h ⊢
          split at h
          · rename_i hle; cases h; rw [if_pos hle]
          · cases h
      · cases h
    · cases h
  case eqs =>
    split at h
    · simp only [Option.map_eq_some_iff] at h ⊢; obtain ⟨c, h1, h2⟩ := h; exact ⟨c, h1, by rw [h2]⟩
    · cases h
  case mm =>
    split at h
    · split at h
      · rename_i hh; cases h; dsimp only; rw [if_pos hh]
      · cases h
    · cases h
  case i2str => split at h <;> first | (cases h; rfl) | cases h
  case assert =>
    split at h
    · split at h
      · rename_i hh; dsimp only; rw [if_pos hh]; cases h; rfl
      · rename_i hh; dsimp only; rw [if_neg hh]; split at h
        · rename_i h2; rw [if_pos h2]; cases h; rfl
        · cases h
    · split at h
      · rename_i h2; dsimp only; rw [if_pos h2]; cases h; rfl
      · cases h
    · cases h
noncomputable def optK (o : Option Value) (K : Value → Bool) : Bool := match o with
  | some v => K v
  | none => false
theorem optK_true {o : Option Value} {K : Value → Bool} (h : optK o K = true) : ∃ v, o = some v ∧ K v = true := by
  cases o with
  | none => cases h
  | some v => exact ⟨v, rfl, h⟩
noncomputable def bndT (x : Option Value) (dflt top : Nat) (K : Nat → Bool) : Bool := match x with
  | none => K dflt
  | some (.int _ (.ofNat i)) => asT (Nat.ble i top) (forceN i K)
  | _ => false
theorem bndT_true {x : Option Value} {dflt top : Nat} {K : Nat → Bool} (h : bndT x dflt top K = true) : ∃ i, bndA x dflt top = some i ∧ K i = true := by
  unfold bndT at h
  split at h
  · exact ⟨_, rfl, h⟩
  · rename_i k i
    obtain ⟨h1, h2⟩ := asT_true h
    rw [forceN_eq] at h2
    have := Nat.le_of_ble_eq_true h1
    refine ⟨i, ?_, h2⟩
    simp only [bndA]
    rw [if_pos ⟨Int.natCast_nonneg _, by simpa using this⟩]
    rfl
  · cases h
noncomputable def appT (e : TypeId) (esz bytes : Nat) (s : Value) (m : Nat) (news : List Value) (n : Nat) (t : HT) (K : Value → Nat → HT → Bool) : Bool := match s with
  | .slice none a b => asT (Nat.beq a 0) (asT (Nat.beq b 0) (match Nat.beq m 0 with
    | false => asT (Nat.ble (m * bytes) 140737488355328) (asT (Nat.ble m 140737488355328) (allocT (.cells true true esz news e) n t fun n' t' => K (slc n 0 m m) n' t'))
    | true => K (.slice none 0 0) n t))
  | .slice (some ⟨b, o, none⟩) a k => match Nat.beq m 0 with
    | false => asT (Nat.ble ((a + m) * bytes) 140737488355328) (asT (Nat.ble (a + m) 140737488355328) (t.getK b fun ao => match ao with
      | .cells own room esz' c e' => asT (Nat.beq esz' esz) (asT (Nat.beq e' e) (asT (Nat.ble (o + k * esz) c.length) (forceN (a + m) fun am => match Nat.ble am k with
        | true => asT own (t.setK b (.cells true room esz (c.take (o + a * esz) ++ news ++ c.drop (o + a * esz + news.length)) e) fun t' => K (slc b o am k) n t')
        | false => match !room || Nat.ble (o + k * esz + 1) c.length with
        | false => match own with
          | true => t.setK b .dead fun t1 => allocT (.cells true true esz ((c.drop o).take (a * esz) ++ news) e) n t1 fun n' t' => K (slc n 0 am am) n' t'
          | false => false
        | true => allocT (.cells true true esz ((c.drop o).take (a * esz) ++ news) e) n t fun n' t' => K (slc n 0 am am) n' t')))
      | _ => false))
    | true => K s n t
  | _ => false
def KP (K : Value → Nat → HT → Bool) : Value → AHeap → Prop := fun v H => ∃ n t, Rp n t H ∧ K v n t = true
theorem appT_true {e esz bytes : Nat} {s : Value} {m : Nat} {news : List Value} {n : Nat} {t : HT} {H : AHeap} (r : Rp n t H) {K : Value → Nat → HT → Bool} (h : appT e esz bytes s m news n t K = true) :
    ∃ v H', appA H e esz bytes s m news = some (v, H') ∧ KP K v H' := by
  have hn := r.n
  unfold appT at h
  split at h
  · rename_i a b
    obtain ⟨a1, k1⟩ := asT_true h
    obtain ⟨a2, k2⟩ := asT_true k1
    have b1 := Nat.eq_of_beq_eq_true a1
    have b2 := Nat.eq_of_beq_eq_true a2
    subst b1 b2
    split at k2
    · rename_i em
      have hm : m ≠ 0 := fun e => by subst e; cases em
      obtain ⟨a3, k3⟩ := asT_true k2
      obtain ⟨a4, k4⟩ := asT_true k3
      obtain ⟨n', t', h3, h4⟩ := r.allocT k4
      refine ⟨slc H.n 0 m m, _, ?_, n', t', h4, by rw [hn]; exact h3⟩
      simp only [appA, and_self, if_true]
      rw [if_neg hm, if_pos ⟨Nat.le_of_ble_eq_true a3, Nat.le_of_ble_eq_true a4⟩]
    · rename_i em
      have hm : m = 0 := Nat.eq_of_beq_eq_true em
      exact ⟨_, H, by simp only [appA, and_self, if_true, hm], n, t, r, k2⟩
  · rename_i b o a k
    split at h
    · rename_i em
      have hm : m ≠ 0 := fun e => by subst e; cases em
      obtain ⟨a3, k3⟩ := asT_true h
      obtain ⟨a4, k4⟩ := asT_true k3
      obtain ⟨ao, h3, k5⟩ := r.getK k4
      split at k5
      · rename_i own room esz' c e'
        obtain ⟨a5, k6⟩ := asT_true k5
        obtain ⟨a6, k6'⟩ := asT_true k6
        obtain ⟨a7, k7⟩ := asT_true k6'
        have e7 := Nat.le_of_ble_eq_true a7
        have e5 := Nat.eq_of_beq_eq_true a5
        have e6 := Nat.eq_of_beq_eq_true a6
        subst e5 e6
        rw [forceN_eq] at k7
        simp only [appA]
        rw [if_neg hm, if_pos ⟨Nat.le_of_ble_eq_true a3, Nat.le_of_ble_eq_true a4⟩]
        simp only [h3, true_and]
        rw [if_pos e7]
        split at k7
        · rename_i ef
          obtain ⟨ho, k8⟩ := asT_true k7
          subst ho
          rw [if_pos (Nat.le_of_ble_eq_true ef)]
          obtain ⟨t', m1, m2⟩ := r.set (by rw [h3]; rfl) k8
          exact ⟨_, _, rfl, n, t', m2, m1⟩
        rename_i ef
        rw [if_neg (fun hh => by rw [Nat.ble_eq_true_of_le hh] at ef; cases ef)]
        split at k7
        · rename_i ec
          have hc : ¬ (room = false ∨ o + k * esz' < c.length) := by
            rintro (c2 | c2)
            · subst c2; cases ec
            · rw [Nat.ble_eq_true_of_le c2] at ec
              simp at ec
          rw [if_neg hc]
          split at k7
          · obtain ⟨t1, m1, m2⟩ := r.set (o := .dead) (by rw [h3]; rfl) k7
            obtain ⟨n', t', h5, h6⟩ := m2.allocT m1
            exact ⟨_, _, rfl, n', t', h6, by rw [hn]; exact h5⟩
          · cases k7
        · rename_i ec
          have hc : room = false ∨ o + k * esz' < c.length := by
            cases room
            · exact .inl rfl
            · exact .inr (Nat.le_of_ble_eq_true (by simpa using ec))
          rw [if_pos hc]
          obtain ⟨n', t', h5, h6⟩ := r.allocT k7
          exact ⟨_, _, rfl, n', t', h6, by rw [hn]; exact h5⟩
      · cases k5
    · rename_i em
      have hm : m = 0 := Nat.eq_of_beq_eq_true em
      exact ⟨_, H, by simp only [appA, if_true, hm], n, t, r, h⟩
  · cases h
noncomputable def stepT (op : AOp Value) (n : Nat) (t : HT) (K : Value → Nat → HT → Bool) : Bool := match op with
  | .new e esz z => asT (allOne z) (allocT (.cells true false esz z e) n t fun n' t' => K (ptr n 0) n' t')
  | .box e esz x => asT (allOne x.cells.toList) (allocT (.cells true false esz x.cells.toList e) n t fun n' t' => K (ptr n 0) n' t')
  | .bslice e esz m z ps => match fillA z ps with
    | some c => asT (allOne c) (asT (Nat.beq c.length (m * esz)) (allocT (.cells true false esz c e) n t fun n' t' => K (slc n 0 m m) n' t'))
    | none => false
  | .load1 x => match x with
    | .pointer (some ⟨b, o, none⟩) => t.getK b fun ao => match ao with
      | .cells _ _ _ c _ => nthO c o fun v => K v n t
      | _ => false
    | _ => false
  | .loadn m x => match x with
    | .pointer (some ⟨b, o, none⟩) => t.getK b fun ao => match ao with
      | .cells _ _ _ c _ => asT (Nat.ble (o + m) c.length) (K (.agg ((c.drop o).take m).toArray) n t)
      | _ => false
    | _ => false
  | .store1 a x => match a with
    | .pointer (some ⟨b, o, none⟩) => t.getK b fun ao => match ao with
      | .cells true room esz c e => asT (Nat.ble (o + 1) c.length) (asT x.oneCell' (updK x c o fun c' => t.setK b (.cells true room esz c' e) fun t' => K undef n t'))
      | _ => false
    | _ => false
  | .storen m a x => match a with
    | .pointer (some ⟨b, o, none⟩) => t.getK b fun ao => match ao with
      | .cells true room esz c e => asT (Nat.ble (o + m) c.length) (asT (Nat.beq x.cells.toList.length m) (asT (allOne x.cells.toList) (t.setK b (.cells true room esz (c.take o ++ x.cells.toList ++ c.drop (o + m)) e) fun t' => K undef n t')))
      | _ => false
    | _ => false
  | .bin op x y => binT op x y fun v => K v n t
  | .i2i k x => match x with
    | .int _ i => wrapT k i fun r => K (.int k r) n t
    | _ => false
  | .s2b e x => match x with
    | .string s => forceN (bLen s) fun m => allocT (.cells true true 1 (s.data.toList.map fun b => .int .u8 b.toNat) e) n t fun n' t' => K (slc n 0 m m) n' t'
    | _ => false
  | .b2s x => elemsT t 1 x fun c => match bytesOf c with
    | some l => K (.string ⟨l.toArray⟩) n t
    | none => false
  | .mksl e esz bytes z l c => match l, c with
    | .int .i64 (.ofNat l), .int .i64 (.ofNat c) => asT (Nat.ble l c) (asT (Nat.ble (bytes * c) 140737488355328) (asT (Nat.ble c 140737488355328) (asT (Nat.beq z.length esz) (asT (allOne z)
        (forceN l fun l => forceN c fun c => allocT (.cells true false esz (List.replicate c z).flatten e) n t fun n' t' => K (slc n 0 l c) n' t')))))
    | _, _ => false
  | .slstr x lo hi => match x with
    | .string s => bndT hi (bLen s) (bLen s) fun h => bndT lo 0 h fun l => K (.string (bSub s l h)) n t
    | _ => false
  | .slsl esz x lo hi mx => match x with
    | .slice a m k => bndT mx k k fun mm => bndT hi m mm fun h => bndT lo 0 h fun l => match a with
      | none => K (.slice none 0 0) n t
      | some ⟨b, o, none⟩ => t.getK b fun ao => match ao with
        | .cells _ room esz' _ _ => asT (Nat.beq esz' esz || !room) (forceN (o + l * esz) fun o' => forceN (h - l) fun m' => forceN (mm - l) fun k' => K (slc b o' m' k') n t)
        | _ => false
      | _ => false
    | _ => false
  | .faddr off x => match x with
    | .pointer (some ⟨b, o, none⟩) => forceN (o + off) fun o' => K (ptr b o') n t
    | _ => false
  | .fld1 off x => match x with
    | .agg cs => nthO cs.toList off fun v => K v n t
    | _ => false
  | .iaddr esz x i => match x, i with
    | .slice (some ⟨b, o, none⟩) m _, .int _ (.ofNat i) => asT (Nat.ble (i + 1) m) (forceN (o + i * esz) fun o' => K (ptr b o') n t)
    | _, _ => false
  | .extract x i => match x with
    | .tuple vs => nthO vs.toList i fun v => K v n t
    | _ => false
  | .len str x => match str, x with
    | false, .slice _ m _ => K (.int .i64 (.ofNat m)) n t
    | true, .string s => forceN (bLen s) fun m => K (.int .i64 (.ofNat m)) n t
    | _, _ => false
  | .app e esz bytes s x => match x with
    | .slice _ m _ => elemsT t esz x fun news => appT e esz bytes s m news n t K
    | _ => false
  | .iaddrp esz m x i => match x, i with
    | .pointer (some ⟨b, o, none⟩), .int _ (.ofNat i) => asT (Nat.ble (i + 1) m) (forceN (o + i * esz) fun o' => K (ptr b o') n t)
    | _, _ => false
  | .slarr esz len x lo hi mx => match x with
    | .pointer (some ⟨b, o, none⟩) => bndT mx len len fun mm => bndT hi len mm fun h => bndT lo 0 h fun l => forceN (o + l * esz) fun o' => forceN (h - l) fun m' => forceN (mm - l) fun k' => K (slc b o' m' k') n t
    | _ => false
  | .rng x => match x with
    | .string s => allocT (.obj true (.stringIter s 0)) n t fun n' t' => K (ptr n 0) n' t'
    | _ => false
  | .next x => match x with
    | .pointer (some ⟨b, 0, none⟩) => t.getK b fun ao => match ao with
      | .obj true (.stringIter s pos) => match Nat.ble (pos + 1) (bLen s) with
        | true => forceI (Utf8.decode s pos).1 fun c => forceN (pos + (Utf8.decode s pos).2) fun q => t.setK b (.obj true (.stringIter s q)) fun t' => K (.tuple #[.bool true, .int .i64 pos, .int .i32 c]) n t'
        | false => K (.tuple #[.bool false]) n t
      | _ => false
    | _ => false
  | .copy esz d x => match d, x with
    | .slice none a k, .slice _ _ _ => asT (Nat.beq a 0) (asT (Nat.beq k 0) (K (.int .i64 0) n t))
    | .slice (some ⟨b, o, none⟩) a _, .slice _ m _ => elemsT t esz x fun l => t.getK b fun ao => match ao with
      | .cells own room esz' c e => forceN (min m a) fun q => match Nat.beq q 0 with
        | true => K (.int .i64 0) n t
        | false => asT own (asT (Nat.ble (o + q * esz) c.length) (t.setK b (.cells own room esz' (c.take o ++ l.take (q * esz) ++ c.drop (o + q * esz)) e) fun t' => K (.int .i64 (.ofNat q)) n t'))
      | _ => false
    | _, _ => false
  | .clr esz z x => match x with
    | .slice none a k => asT (Nat.beq a 0) (asT (Nat.beq k 0) (K (.tuple #[]) n t))
    | .slice (some ⟨b, o, none⟩) a _ => match Nat.beq a 0 with
      | true => K (.tuple #[]) n t
      | false => t.getK b fun ao => match ao with
        | .cells own room esz' c e => asT own (asT (Nat.ble (o + a * esz) c.length) (asT (Nat.beq z.length esz) (asT (allOne z) (t.setK b (.cells own room esz' (c.take o ++ (List.replicate a z).flatten ++ c.drop (o + a * esz)) e) fun t' => K (.tuple #[]) n t'))))
        | _ => false
    | _ => false
  | .apps e bytes s x => match x with
    | .string tx => forceN (bLen tx) fun m => appT e 1 bytes s m (tx.data.toList.map fun b => .int .u8 b.toNat) n t K
    | _ => false
  | .mark x => match x with
    | .slice (some ⟨b, _, none⟩) _ _ => t.getK b fun ao => match ao with
      | .cells true _ _ _ _ => K x n t
      | _ => false
    | _ => false
  | .callf _ _ => false
  | .callv _ _ => false
  | .bad => false
  | op => optK (plainT op) fun v => K v n t
theorem stepT_sound {op : AOp Value} {n : Nat} {t : HT} {H : AHeap} (r : Rp n t H) {K : Value → Nat → HT → Bool} (h : stepT op n t K = true) : ∃ v H', asem op H = some (v, H') ∧ KP K v H' := by
  have hn := r.n
  unfold stepT at h
  split at h
  · obtain ⟨h1, h2⟩ := asT_true h
    rw [allOne_eq] at h1
    obtain ⟨n', t', h3, h4⟩ := r.allocT h2
    exact ⟨_, _, by simp only [asem]; rw [if_pos h1], n', t', h4, by rw [hn]; exact h3⟩
  · obtain ⟨h1, h2⟩ := asT_true h
    rw [allOne_eq] at h1
    obtain ⟨n', t', h3, h4⟩ := r.allocT h2
    exact ⟨_, _, by simp only [asem]; rw [if_pos h1], n', t', h4, by rw [hn]; exact h3⟩
  · split at h
    · rename_i c hc
      obtain ⟨h1, h2⟩ := asT_true h
      obtain ⟨h5, h6⟩ := asT_true h2
      rw [allOne_eq] at h1
      obtain ⟨n', t', h3, h4⟩ := r.allocT h6
      exact ⟨_, _, by simp only [asem, hc]; rw [if_pos ⟨h1, Nat.eq_of_beq_eq_true h5⟩], n', t', h4, by rw [hn]; exact h3⟩
    · cases h
  · split at h
    · obtain ⟨o, h1, h2⟩ := r.getK h
      split at h2
      · rw [nthO_eq] at h2
        split at h2
        · rename_i v hv
          exact ⟨v, H, by simp only [asem, cellA, h1, hv, Option.map_some], n, t, r, h2⟩
        · cases h2
      · cases h2
    · cases h
  · split at h
    · obtain ⟨o, h1, h2⟩ := r.getK h
      split at h2
      · obtain ⟨h3, h4⟩ := asT_true h2
        exact ⟨_, H, by simp only [asem, rangeA, h1]; rw [if_pos (Nat.le_of_ble_eq_true h3)]; rfl, n, t, r, h4⟩
      · cases h2
    · cases h
  · split at h
    · obtain ⟨o, h1, h2⟩ := r.getK h
      split at h2
      · obtain ⟨h3, h4⟩ := asT_true h2
        obtain ⟨h5, h6⟩ := asT_true h4
        rw [updK_eq] at h6
        obtain ⟨t', h7, h8⟩ := r.set (by rw [h1]; rfl) h6
        exact ⟨_, _, by simp only [asem, h1]; rw [if_pos ⟨Nat.le_of_ble_eq_true h3, h5⟩], n, t', h8, h7⟩
      · cases h2
    · cases h
  · split at h
    · obtain ⟨o, h1, h2⟩ := r.getK h
      split at h2
      · obtain ⟨h3, h4⟩ := asT_true h2
        obtain ⟨h5, h6⟩ := asT_true h4
        obtain ⟨h9, h10⟩ := asT_true h6
        rw [allOne_eq] at h9
        obtain ⟨t', h7, h8⟩ := r.set (by rw [h1]; rfl) h10
        exact ⟨_, _, by simp only [asem, h1]; rw [if_pos ⟨Nat.le_of_ble_eq_true h3, Nat.eq_of_beq_eq_true h5, h9⟩], n, t', h8, h7⟩
      · cases h2
    · cases h
  · obtain ⟨v, h1, h2⟩ := binT_true h
    exact ⟨v, H, by simp only [asem, h1, Option.map_some], n, t, r, h2⟩
  · split at h
    · rw [wrapT_eq] at h
      exact ⟨_, H, rfl, n, t, r, h⟩
    · cases h
  · split at h
    · rename_i s
      rw [forceN_eq, bLen_eq] at h
      obtain ⟨n', t', h3, h4⟩ := r.allocT h
      exact ⟨_, _, rfl, n', t', h4, by rw [hn]; exact h3⟩
    · cases h
  · obtain ⟨c, h1, h2⟩ := elemsT_true r h
    split at h2
    · rename_i l hl
      exact ⟨_, H, by simp only [asem, h1, hl], n, t, r, h2⟩
    · cases h2
  · split at h
    · rename_i l c
      obtain ⟨a1, h⟩ := asT_true h
      obtain ⟨a2, h⟩ := asT_true h
      obtain ⟨a3, h⟩ := asT_true h
      obtain ⟨a4, h⟩ := asT_true h
      obtain ⟨a5, h⟩ := asT_true h
      rw [forceN_eq, forceN_eq] at h
      obtain ⟨n', t', h3, h4⟩ := r.allocT h
      have b1 := Nat.le_of_ble_eq_true a1
      have b2 := Nat.le_of_ble_eq_true a2
      have b3 := Nat.le_of_ble_eq_true a3
      rw [allOne_eq] at a5
      refine ⟨slc H.n 0 l c, _, ?_, n', t', h4, by rw [hn]; exact h3⟩
      simp only [asem]
      rw [if_pos ⟨Int.natCast_nonneg _, Int.ofNat_le.2 b1, Int.ofNat_le.2 b2, Int.ofNat_le.2 b3, Nat.eq_of_beq_eq_true a4, a5⟩]
      rfl
    · cases h
  · split at h
    · rename_i s
      obtain ⟨hh, h1, h2⟩ := bndT_true h
      obtain ⟨l, h3, h4⟩ := bndT_true h2
      rw [bLen_eq] at h1
      rw [bSub_eq] at h4
      exact ⟨_, H, by simp only [asem, h1, h3], n, t, r, h4⟩
    · cases h
  · split at h
    · obtain ⟨m, h1, h2⟩ := bndT_true h
      obtain ⟨hh, h3, h4⟩ := bndT_true h2
      obtain ⟨l, h5, h6⟩ := bndT_true h4
      split at h6
      · exact ⟨_, H, by simp only [asem, h1, h3, h5], n, t, r, h6⟩
      · obtain ⟨o, h7, h8⟩ := r.getK h6
        split at h8
        · obtain ⟨h9, h10⟩ := asT_true h8
          simp only [forceN_eq] at h10
          exact ⟨_, H, by simp only [asem, h1, h3, h5, h7]; rw [if_pos (by rw [Bool.or_eq_true] at h9; rcases h9 with h9 | h9; exact .inl (Nat.eq_of_beq_eq_true h9); exact .inr (by simpa using h9))], n, t, r, h10⟩
        · cases h8
      · cases h6
    · cases h
  · split at h
    · rw [forceN_eq] at h
      exact ⟨_, H, rfl, n, t, r, h⟩
    · cases h
  · split at h
    · rename_i off x cs
      rw [nthO_eq] at h
      split at h
      · rename_i v hv
        exact ⟨v, H, by simp only [asem, hv, Option.map_some], n, t, r, h⟩
      · cases h
    · cases h
  · split at h
    · rename_i b o m k kk i
      obtain ⟨h1, h2⟩ := asT_true h
      rw [forceN_eq] at h2
      have := Nat.le_of_ble_eq_true h1
      refine ⟨_, H, ?_, n, t, r, h2⟩
      simp only [asem]
      rw [if_pos ⟨Int.natCast_nonneg _, by simp only [Int.ofNat_eq_natCast]; omega⟩]
      rfl
    · cases h
  · split at h
    · rw [nthO_eq] at h
      split at h
      · rename_i v hv
        exact ⟨v, H, by simp only [asem, hv, Option.map_some], n, t, r, h⟩
      · cases h
    · cases h
  · split at h
    · exact ⟨_, H, rfl, n, t, r, h⟩
    · rw [forceN_eq, bLen_eq] at h
      exact ⟨_, H, rfl, n, t, r, h⟩
    · cases h
  · split at h
    · rename_i e esz bytes s x aa m kk
      obtain ⟨news, h1, h2⟩ := elemsT_true r h
      obtain ⟨v, H', h3, h4⟩ := appT_true r h2
      exact ⟨v, H', by simp only [asem, h1]; exact h3, h4⟩
    · cases h
  · split at h
    · rename_i b o k i
      obtain ⟨h1, h2⟩ := asT_true h
      rw [forceN_eq] at h2
      have := Nat.le_of_ble_eq_true h1
      refine ⟨_, H, ?_, n, t, r, h2⟩
      simp only [asem]
      rw [if_pos ⟨Int.natCast_nonneg _, by simp only [Int.ofNat_eq_natCast]; omega⟩]
      rfl
    · cases h
  · split at h
    · obtain ⟨m, h1, h2⟩ := bndT_true h
      obtain ⟨hh, h3, h4⟩ := bndT_true h2
      obtain ⟨l, h5, h6⟩ := bndT_true h4
      simp only [forceN_eq] at h6
      exact ⟨_, H, by simp only [asem, h1, h3, h5], n, t, r, h6⟩
    · cases h
  · split at h
    · rename_i s
      obtain ⟨n', t', h3, h4⟩ := r.allocT h
      exact ⟨_, _, rfl, n', t', h4, by rw [hn]; exact h3⟩
    · cases h
  · split at h
    · obtain ⟨o, h1, h2⟩ := r.getK h
      split at h2
      · rename_i s pos
        split at h2
        · rename_i e
          rw [forceI_eq, forceN_eq] at h2
          obtain ⟨t', h7, h8⟩ := r.set (by rw [h1]; rfl) h2
          rw [bLen_eq] at e
          exact ⟨_, _, by simp only [asem, h1]; rw [if_pos (show pos < s.size from Nat.le_of_ble_eq_true e)], n, t', h8, h7⟩
        · rename_i e
          rw [bLen_eq] at e
          have : ¬ pos < s.size := fun h => by rw [Nat.ble_eq_true_of_le h] at e; cases e
          exact ⟨_, H, by simp only [asem, h1]; rw [if_neg this], n, t, r, h2⟩
      · cases h2
    · cases h
  · split at h
    · obtain ⟨h1, h⟩ := asT_true h
      obtain ⟨h2, h⟩ := asT_true h
      exact ⟨_, H, by simp only [asem]; rw [if_pos ⟨Nat.eq_of_beq_eq_true h1, Nat.eq_of_beq_eq_true h2⟩], n, t, r, h⟩
    · obtain ⟨l, h1, h2⟩ := elemsT_true r h
      obtain ⟨o, h3, h4⟩ := r.getK h2
      split at h4
      · rename_i own room esz' c e
        rw [forceN_eq] at h4
        split at h4
        · rename_i e0
          exact ⟨_, H, by simp only [asem, h1, h3]; rw [if_pos (Nat.eq_of_beq_eq_true e0)], n, t, r, h4⟩
        · rename_i e0
          obtain ⟨h5, h6⟩ := asT_true h4
          obtain ⟨h7, h8⟩ := asT_true h6
          obtain ⟨t', h9, h10⟩ := r.set (by rw [h3]; rfl) h8
          refine ⟨_, _, ?_, n, t', h10, h9⟩
          simp only [asem, h1, h3]
          rw [if_neg (fun hh => by rw [hh] at e0; cases e0), if_pos ⟨h5, Nat.le_of_ble_eq_true h7⟩]
          rfl
      · cases h4
    · cases h
  · split at h
    · obtain ⟨h1, h⟩ := asT_true h
      obtain ⟨h2, h⟩ := asT_true h
      exact ⟨_, H, by simp only [asem]; rw [if_pos ⟨Nat.eq_of_beq_eq_true h1, Nat.eq_of_beq_eq_true h2⟩], n, t, r, h⟩
    · split at h
      · rename_i e0
        exact ⟨_, H, by simp only [asem]; rw [if_pos (Nat.eq_of_beq_eq_true e0)], n, t, r, h⟩
      · rename_i e0
        obtain ⟨o, h3, h4⟩ := r.getK h
        split at h4
        · obtain ⟨h5, h6⟩ := asT_true h4
          obtain ⟨h7, h8⟩ := asT_true h6
          obtain ⟨h9, h10⟩ := asT_true h8
          obtain ⟨h11, h12⟩ := asT_true h10
          rw [allOne_eq] at h11
          obtain ⟨t', h13, h14⟩ := r.set (by rw [h3]; rfl) h12
          refine ⟨_, _, ?_, n, t', h14, h13⟩
          simp only [asem]
          rw [if_neg (fun hh => by rw [hh] at e0; cases e0)]
          simp only [h3]
          rw [if_pos ⟨h5, Nat.le_of_ble_eq_true h7, Nat.eq_of_beq_eq_true h9, h11⟩]
        · cases h4
    · cases h
  · split at h
    · rw [forceN_eq, bLen_eq] at h
      obtain ⟨v, H', h3, h4⟩ := appT_true r h
      exact ⟨v, H', by simp only [asem]; exact h3, h4⟩
    · cases h
  · split at h
    · obtain ⟨o, h1, h2⟩ := r.getK h
      split at h2
      · exact ⟨_, H, by simp only [asem, h1], n, t, r, h2⟩
      · cases h2
    · cases h
  · cases h
  · cases h
  · cases h
  · obtain ⟨v, h1, h2⟩ := optK_true h
    exact ⟨v, H, plainT_sound h1, n, t, r, h2⟩
end Go.AM
