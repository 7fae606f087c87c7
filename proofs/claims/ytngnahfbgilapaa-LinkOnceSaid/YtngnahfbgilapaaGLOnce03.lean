/- Part of the proof. -/
import Derived.Test.YtngnahfbgilapaaGLOnce02
set_option linter.unusedSimpArgs false
set_option linter.unusedVariables false
set_option linter.unusedSimpArgs false
set_option linter.unusedVariables false
namespace Go.AM
structure Th where
  P : AHeap → Prop
  F : List Nat
  lt : ∀ H, P H → ∀ b ∈ F, b < H.n
  st : ∀ H H', P H → H.n ≤ H'.n → (∀ b ∈ F, H'.get b = H.get b) → P H'
def Apart (a b : Th) : Prop := ∀ x ∈ a.F, x ∉ b.F
theorem Apart.symm {a b : Th} (h : Apart a b) : Apart b a := fun x h1 h2 => h x h2 h1
structure Sep (H : AHeap) (ts : List Th) : Prop where
  all : ∀ t ∈ ts, t.P H
  ap : ts.Pairwise Apart
theorem Sep.nil (H : AHeap) : Sep H [] := ⟨by simp, .nil⟩
theorem Sep.get {H : AHeap} {ts : List Th} (h : Sep H ts) (i : Nat) {t : Th} (hi : ts[i]? = some t) : t.P H := h.all t (List.mem_of_getElem? hi)
theorem Sep.keeps {H H' : AHeap} {ts : List Th} (h : Sep H ts) (k : Keeps H H') : Sep H' ts :=
  ⟨fun t ht => t.st H H' (h.all t ht) k.n (fun b hb => k.get b (t.lt H (h.all t ht) b hb)), h.ap⟩
theorem Sep.upd {H H' : AHeap} {t t' : Th} {r : List Th} : ∀ {l : List Th}, Sep H (l ++ t :: r) → Chg t.F H H' → t'.P H' → (∀ b ∈ t'.F, b ∈ t.F ∨ H.n ≤ b) → Sep H' (l ++ t' :: r) := by
  intro l h c hp hf
  have key : ∀ x, x.P H → Apart t x → Apart t' x := fun x hx ha b hb hbx => by
    rcases hf b hb with h1 | h1
    · exact ha b h1 hbx
    · have := x.lt H hx b hbx; omega
  have stay : ∀ x, x.P H → Apart t x → x.P H' := fun x hx ha => x.st H H' hx c.n (fun b hb => c.get b (x.lt H hx b hb) (fun hbt => ha b hbt hb))
  have h1 := List.pairwise_append.1 h.ap
  obtain ⟨a1, a2, a3⟩ := h1
  have a4 := List.pairwise_cons.1 a2
  refine ⟨?_, List.pairwise_append.2 ⟨a1, List.pairwise_cons.2 ⟨fun x hx => key x (h.all x (by simp [hx])) (a4.1 x hx), a4.2⟩, ?_⟩⟩
  · intro x hx
    rcases List.mem_append.1 hx with hx | hx
    · exact stay x (h.all x (by simp [hx])) (a3 x hx t (by simp)).symm
    · rcases List.mem_cons.1 hx with rfl | hx
      · exact hp
      · exact stay x (h.all x (by simp [hx])) (a4.1 x hx)
  · intro x hx y hy
    rcases List.mem_cons.1 hy with rfl | hy
    · exact (key x (h.all x (by simp [hx])) (a3 x hx t (by simp)).symm).symm
    · exact a3 x hx y (by simp [hy])
theorem Sep.apart {H : AHeap} {ts : List Th} (h : Sep H ts) (i j : Nat) (hij : i < j) {a b : Th} (hi : ts[i]? = some a) (hj : ts[j]? = some b) : Apart a b := by
  obtain ⟨h1, rfl⟩ := List.getElem?_eq_some_iff.1 hi
  obtain ⟨h2, rfl⟩ := List.getElem?_eq_some_iff.1 hj
  exact List.pairwise_iff_getElem.1 h.ap i j h1 h2 hij
theorem Sep.add {H H' : AHeap} {t : Th} {ts : List Th} (h : Sep H ts) (k : Keeps H H') (hp : t.P H') (hf : ∀ b ∈ t.F, H.n ≤ b) : Sep H' (t :: ts) :=
  ⟨fun x hx => by
    rcases List.mem_cons.1 hx with rfl | hx
    · exact hp
    · exact (h.keeps k).all x hx, List.pairwise_cons.2 ⟨fun x hx b hb hbx => by have := x.lt H (h.all x hx) b hbx; have := hf b hb; omega, h.ap⟩⟩
theorem Sep.perm {H : AHeap} {ts us : List Th} (h : Sep H ts) (p : ts.Perm us) : Sep H us :=
  ⟨fun t ht => h.all t (p.mem_iff.2 ht), p.pairwise_iff (fun {a b} hab => hab.symm) |>.1 h.ap⟩
def thB (b : Nat) (o : AO) : Th where
  P H := H.get b = some o
  F := [b]
  lt H h x hx := by simp at hx; subst hx; exact AHeap.get_lt h
  st H H' h _ k := by rw [k b (by simp)]; exact h
theorem Sep.box {H : AHeap} {ts : List Th} (h : Sep H ts) (o : AO) : Sep (H.alloc o) (thB H.n o :: ts) :=
  h.add ((Keeps.refl H).alloc o) (AHeap.get_alloc_new H o) (by simp [thB])
section
variable {P : Program} {ng : Nat} {H : AHeap} {KF : List Value → AHeap → Prop} {fr tm : List Value} {tr : List TE} {Q : AQ}
theorem appG {d : D} {r : List AOper} {e esz bytes : Nat} {s x : Value} {n m : Nat} {c news : List Value} (h : AP H e esz s n c) (hx : ∃ a k, x = .slice a m k) (h1 : elemsA H esz x = some news) (hm : news.length = m * esz)
    (hs : (n + m) * bytes ≤ 140737488355328 ∧ n + m ≤ 140737488355328)
    (hk : ∀ v' H', AP H' e esz v' (n + m) (c ++ news) → Chg (blkL s) H H' → (blk v' = blk s ∨ blk v' = some H.n) → RW P ng r (d.frame v' fr) (d.temps v' tm) H' KF) : goR P ng (asem (.app e esz bytes s x) H) d r fr tm KF := by
  rw [← st_app]; exact appR h hx h1 hm hs hk
theorem appGD {d : D} {r : List (AOper × List Nat)} {e esz bytes : Nat} {s x : Value} {n m : Nat} {c news : List Value} (h : AP H e esz s n c) (hx : ∃ a k, x = .slice a m k) (h1 : elemsA H esz x = some news) (hm : news.length = m * esz)
    (hs : (n + m) * bytes ≤ 140737488355328 ∧ n + m ≤ 140737488355328)
    (hk : ∀ v' H', AP H' e esz v' (n + m) (c ++ news) → Chg (blkL s) H H' → (blk v' = blk s ∨ blk v' = some H.n) → RD P ng r (d.frame v' fr) (d.temps v' tm) H' (tr ++ [⟨3, [], H, H'⟩]) KF) : goD P ng (.app e esz bytes s x) (asem (.app e esz bytes s x) H) d [] r fr tm H tr KF := by
  obtain ⟨v', H', e1, e2, e3, e4⟩ := h.app (bytes := bytes) hm hs
  obtain ⟨a, k, rfl⟩ := hx
  exact ⟨v', H', by simp only [asem, h1]; exact e1, trivial, hk v' H' e2 e3 e4⟩
theorem W_mid {c : ACode} {K : List Value → AHeap → Prop} (M : List Value → AHeap → Prop)
    (h1 : ∀ Q' : AQ, (∀ fr H, M fr H → Q' .normal fr H) → (∀ i fr H, Q (.exit i) fr H → Q' (.exit i) fr H) → (∀ fr H, Q .ret fr H → Q' .ret fr H) → W P ng c Q' fr H)
    (h2 : ∀ fr H, M fr H → K fr H) : W P ng c (Q.andThen K) fr H :=
  h1 _ (fun fr H h => h2 fr H h) (fun _ _ _ h => h) (fun _ _ h => h)
end
theorem elems_new {H : AHeap} {own room : Bool} {esz e n : Nat} {c : List Value} {b : Nat} (hb : b = H.n) (h : c.length = n * esz) : elemsA (H.alloc (.cells own room esz c e)) esz (slc b 0 n n) = some c := by
  subst hb; exact elems_own (AHeap.get_alloc_new H _) h
theorem b_remn {kd : IntKind} {n m : Nat} (h : 0 < m) : binA .rem (.int kd (n : Int)) (.int kd (m : Int)) = some (.int kd ((n % m : Nat) : Int)) := by
  simp only [binA, if_true, intA]
  rw [if_neg (by omega)]
  rfl
theorem b_rem8 {kd : IntKind} (n : Nat) : binA .rem (.int kd (n : Int)) (.int kd 8) = some (.int kd ((n % 8 : Nat) : Int)) := b_remn (m := 8) (by omega)
def chunks (esz : Nat) : Nat → List Value → List (List Value)
  | 0, _ => []
  | n + 1, c => c.take esz :: chunks esz n (c.drop esz)
theorem chunks_len (esz : Nat) : ∀ (n : Nat) (c : List Value), (chunks esz n c).length = n
  | 0, _ => rfl
  | n + 1, c => by simp [chunks, chunks_len esz n]
theorem chunks_flat (esz : Nat) : ∀ (n : Nat) (c : List Value), (chunks esz n c).flatten = c.take (n * esz)
  | 0, _ => by simp [chunks]
  | n + 1, c => by
    rw [chunks, List.flatten_cons, chunks_flat esz n, Nat.add_mul, Nat.one_mul, Nat.add_comm (n * esz) esz, List.take_add]
theorem chunks_mem (esz : Nat) : ∀ (n : Nat) (c : List Value) (r : List Value), r ∈ chunks esz n c → ∃ i, i < n ∧ r = (c.drop (i * esz)).take esz
  | n + 1, c, r, h => by
    simp only [chunks, List.mem_cons] at h
    rcases h with rfl | h
    · exact ⟨0, by omega, by simp⟩
    · obtain ⟨i, hi, rfl⟩ := chunks_mem esz n _ r h
      exact ⟨i + 1, by omega, by rw [List.drop_drop, Nat.add_mul, Nat.one_mul, Nat.add_comm]⟩
theorem AR.rows {P : Program} {t e esz : Nat} {H : AHeap} {v : Value} (hu : P.underlying t = some (.slice e)) (hz : P.cellsOf e = esz) (h : AR P H.get t [v]) : ∃ rows, Sl H esz v rows ∧ ∀ r ∈ rows, AR P H.get e r := by
  subst hz
  rcases h.slice_inv hu with h2 | ⟨x, hx, h2⟩ | ⟨b, n, k, c, u, h2, h3, h4, h5, h6, h7, h8⟩
  · cases h2; exact ⟨[], Sl.nil _ _, by simp⟩
  · cases h2
    refine ⟨[], ⟨⟨_, _, rfl⟩, by simp, ?_⟩, by simp⟩
    obtain ⟨b, o, s⟩ := x
    cases s with
    | none => simp at hx
    | some s => simp [elemsA]
  · cases h2
    have hnk : n * P.cellsOf e ≤ c.length := by rw [h7]; exact Nat.mul_le_mul_right _ h4
    refine ⟨chunks (P.cellsOf e) n c, ⟨⟨_, k, by rw [chunks_len]; rfl⟩, ?_, ?_⟩, ?_⟩
    · intro r hr
      obtain ⟨i, hi, rfl⟩ := chunks_mem _ _ _ _ hr
      have : (i + 1) * P.cellsOf e ≤ n * P.cellsOf e := Nat.mul_le_mul_right _ hi
      rw [Nat.add_mul, Nat.one_mul] at this
      rw [List.length_take, List.length_drop]; omega
    · rw [chunks_flat]
      simp only [elemsA, slc, h6]
      rw [if_pos (by omega), List.drop_zero]
    · intro r hr
      obtain ⟨i, hi, rfl⟩ := chunks_mem _ _ _ _ hr
      exact h8 i (by omega)
theorem AV.rows {P : Program} {t e esz : Nat} {H : AHeap} {v : Value} (hu : P.underlying t = some (.slice e)) (hz : P.cellsOf e = esz) (h : AV P H.get t v) : ∃ rows, Sl H esz v rows ∧ ∀ r ∈ rows, AR P H.get e r := by
  have h1 := h.one (by unfold isAggT; rw [hu]; rfl)
  have := h.1
  rw [h1] at this
  exact this.rows hu hz
theorem list_choose {α β : Type} {f : β → α} {Q : β → Prop} : ∀ {l : List α}, (∀ x ∈ l, ∃ y, x = f y ∧ Q y) → ∃ m : List β, l = m.map f ∧ ∀ y ∈ m, Q y
  | [], _ => ⟨[], rfl, by simp⟩
  | x :: l, h => by
    obtain ⟨y, rfl, hy⟩ := h x (by simp)
    obtain ⟨m, rfl, hm⟩ := list_choose (l := l) (fun z hz => h z (by simp [hz]))
    exact ⟨y :: m, rfl, by intro z hz; rcases List.mem_cons.1 hz with rfl | hz; exact hy; exact hm z hz⟩
end Go.AM

set_option linter.unusedSimpArgs false
set_option linter.unusedVariables false
namespace Go.AM.Fd
open Nat (reduceAdd reduceEqDiff reduceLT reduceLeDiff reduceMul reduceSub)
open Go.Proofs Go.AM.F
def be : Nat → Nat → List UInt8
  | 0, _ => []
  | w + 1, n => UInt8.ofNat (n / 256 ^ w) :: be w n
theorem be_length : ∀ w n, (be w n).length = w
  | 0, _ => rfl
  | w + 1, n => by simp [be, be_length w n]
theorem pow8 (i : Nat) : (2 : Nat) ^ (8 * i) = 256 ^ i := by rw [Nat.pow_mul]
theorem byte_cell (n i : Nat) : (((n : Int).fdiv (2 ^ (8 * i))) % 256 : Int) = ((UInt8.ofNat (n / 256 ^ i)).toNat : Int) := by
  have h1 : ((2 : Int) ^ (8 * i)) = ((256 ^ i : Nat) : Int) := by rw [← pow8]; push_cast; rfl
  rw [h1, Int.fdiv_eq_ediv_of_nonneg _ (Int.natCast_nonneg _)]
  simp only [UInt8.toNat_ofNat']
  omega
theorem t73 {H : AHeap} {x : Value} {l : List UInt8} (hx : BS H x l) (hl : l.length ≤ 1000000000) : ∃ v H', ARun Go.Proofs.Try.prog 0 73 [x] H v H' ∧
    AP H' 5 1 v l.length (cellsOf l) ∧ Keeps H H' ∧ Fresh H.n v := by
  refine walk f73_ok f73_n ?_
  obtain ⟨a, k, rfl⟩ := hx.sh
  cases a with
  | none =>
    have hl0 : l = [] := by
      have := hx.el
      simp only [elemsA, Option.some.injEq] at this
      have := congrArg List.length this
      rw [cellsOf_length] at this
      exact List.length_eq_zero_iff.1 this.symm
    subst hl0
    simp only [f73, initFr, ↓reduceIte, RD_nil, RD_cons, RD_consg, W_dreg, obl_nil, Nat.reduceAdd, Nat.add_zero, Nat.zero_add, Nat.mul_one, Int.toNat_natCast, W_skip, W_reg, W_seq, W_cond, W_block, W_exit, W_ret, getD_nil', RW_nil, RW_cons, RW_consg, AOp.map, AX_fr, AX_tm, AX_c, AX_fn, AX_g, D_no, D_no', D_tm, D_tm', D_fr, D_fr', List.getD_cons_zero, List.getD_cons_succ, List.set_cons_zero, List.set_cons_succ, List.map_cons, List.map_nil, Option.map_some, Option.map_none, wantA, beq_self_eq_true, if_true, Bool.false_eq_true, if_false, Bool.not_true, Bool.not_false, s_mov, s_pick, s_new, s_box, s_build, s_bslice, s_load1, s_loadn, s_nilck, s_bin, s_eqv, s_not, s_neg, s_i2i, s_s2s, s_s2b, s_iface, s_mkfn, s_faddr, s_fld1, s_iaddr, s_idxs, s_assert, s_extract, s_len, s_lens, s_lenc, s_callf, resO0, resO1, resO2, resO3, List.getElem?_cons_zero, List.getElem?_cons_succ, Nat.reduceEqDiff, true_and, and_true, false_and, e_sn, e_ss, e_pn, e_ps, e_bb, fill0, fill1, b_add, b_sub, b_mul, b_eql, b_neq, b_lss, b_leq, b_gtr, b_geq, b_and, b_or, b_xor, b_seql, b_sneq, b_slss, AQ.andThen, AQ.inBlock, Option.some.injEq, exists_eq_left', exists_eq_left, reduceCtorEq, Exit.exit.injEq]
    exact ⟨.inl ⟨rfl, rfl, rfl⟩, Keeps.refl H, fun b hb => by cases hb⟩
  | some a =>
    simp only [f73, initFr, ↓reduceIte, RD_nil, RD_cons, RD_consg, W_dreg, obl_nil, Nat.reduceAdd, Nat.add_zero, Nat.zero_add, Nat.mul_one, Int.toNat_natCast, W_skip, W_reg, W_seq, W_cond, W_block, W_exit, W_ret, getD_nil', RW_nil, RW_cons, RW_consg, AOp.map, AX_fr, AX_tm, AX_c, AX_fn, AX_g, D_no, D_no', D_tm, D_tm', D_fr, D_fr', List.getD_cons_zero, List.getD_cons_succ, List.set_cons_zero, List.set_cons_succ, List.map_cons, List.map_nil, Option.map_some, Option.map_none, wantA, beq_self_eq_true, if_true, Bool.false_eq_true, if_false, Bool.not_true, Bool.not_false, s_mov, s_pick, s_new, s_box, s_build, s_bslice, s_load1, s_loadn, s_nilck, s_bin, s_eqv, s_not, s_neg, s_i2i, s_s2s, s_s2b, s_iface, s_mkfn, s_faddr, s_fld1, s_iaddr, s_idxs, s_assert, s_extract, s_len, s_lens, s_lenc, s_callf, resO0, resO1, resO2, resO3, List.getElem?_cons_zero, List.getElem?_cons_succ, Nat.reduceEqDiff, true_and, and_true, false_and, e_sn, e_ss, e_pn, e_ps, e_bb, fill0, fill1, b_add, b_sub, b_mul, b_eql, b_neq, b_lss, b_leq, b_gtr, b_geq, b_and, b_or, b_xor, b_seql, b_sneq, b_slss, AQ.andThen, AQ.inBlock, Option.some.injEq, exists_eq_left', exists_eq_left, reduceCtorEq, Exit.exit.injEq]
    refine ⟨⟨rfl, rfl⟩, s_appAP (.inr ⟨_, _, rfl, rfl, AHeap.get_alloc_new H _⟩) ⟨_, _, rfl⟩ (hx.keeps ((Keeps.refl H).alloc _)).el (by rw [cellsOf_length]; omega) (by omega) ?_⟩
    intro v' H' k1 k2 k3
    rw [Nat.zero_add, List.nil_append] at k1
    have hf : Fresh H.n (slc H.n 0 0 0) := fun b hb => by cases hb; exact Nat.le_refl _
    exact ⟨k1, ((Keeps.refl H).alloc _).chg_trans k2 hf.L, Fresh.app hf (by rw [alloc_n]; omega) k3⟩
def wd (t : Nat) : Nat := if t = 5 then 1 else if t = 111 then 2 else if t = 25 then 4 else 8
def kd (t : Nat) : IntKind := if t = 5 then .u8 else if t = 111 then .u16 else if t = 25 then .u32 else .u64
theorem t114 (t n : Nat) (ht : t = 5 ∨ t = 111 ∨ t = 25 ∨ t = 24) (hn : n < 256 ^ wd t) (H : AHeap) : ARun Go.Proofs.Try.prog 0 114 [.iface t (.int (kd t) n)] H (.tuple #[.int .u64 n, .int .i64 (wd t)]) H := by
  suffices h : ∃ v H', ARun Go.Proofs.Try.prog 0 114 [.iface t (.int (kd t) n)] H v H' ∧ v = .tuple #[.int .u64 n, .int .i64 (wd t)] ∧ H' = H by
    obtain ⟨v, H', h1, h2, h3⟩ := h
    rw [h2, h3] at h1; exact h1
  refine walk f114_ok f114_n ?_
  rcases ht with rfl | rfl | rfl | rfl <;> simp only [f114, initFr, kd, wd, ↓reduceIte, RD_nil, RD_cons, RD_consg, W_dreg, obl_nil, Nat.reduceAdd, Nat.add_zero, Nat.zero_add, Nat.mul_one, Int.toNat_natCast, W_skip, W_reg, W_seq, W_cond, W_block, W_exit, W_ret, getD_nil', RW_nil, RW_cons, RW_consg, AOp.map, AX_fr, AX_tm, AX_c, AX_fn, AX_g, D_no, D_no', D_tm, D_tm', D_fr, D_fr', List.getD_cons_zero, List.getD_cons_succ, List.set_cons_zero, List.set_cons_succ, List.map_cons, List.map_nil, Option.map_some, Option.map_none, wantA, beq_self_eq_true, if_true, Bool.false_eq_true, if_false, Bool.not_true, Bool.not_false, s_mov, s_pick, s_new, s_box, s_build, s_bslice, s_load1, s_loadn, s_nilck, s_bin, s_eqv, s_not, s_neg, s_i2i, s_s2s, s_s2b, s_iface, s_mkfn, s_faddr, s_fld1, s_iaddr, s_idxs, s_assert, s_extract, s_len, s_lens, s_lenc, s_callf, resO0, resO1, resO2, resO3, List.getElem?_cons_zero, List.getElem?_cons_succ, Nat.reduceEqDiff, true_and, and_true, false_and, e_sn, e_ss, e_pn, e_ps, e_bb, fill0, fill1, b_add, b_sub, b_mul, b_eql, b_neq, b_lss, b_leq, b_gtr, b_geq, b_and, b_or, b_xor, b_seql, b_sneq, b_slss, AQ.andThen, AQ.inBlock, Option.some.injEq, exists_eq_left', exists_eq_left, reduceCtorEq, Exit.exit.injEq, Nat.reduceEqDiff] at hn ⊢ <;> (try rw [wrap_u64]) <;> (try rw [Int.emod_eq_of_lt (by omega) (by omega)]) <;> trivial
def WS (H : AHeap) (b bv : Nat) (l : List UInt8) : Prop :=
  ∃ v, H.get b = some (.cells true false 1 [v] 166) ∧ AP H 5 1 v l.length (cellsOf l) ∧ (blk v = none ∧ bv = b ∨ blk v = some bv ∧ bv ≠ b)
theorem WS.lt {H : AHeap} {b bv : Nat} {l : List UInt8} (h : WS H b bv l) : b < H.n ∧ bv < H.n := by
  obtain ⟨v, h1, h2, h3⟩ := h
  have := AHeap.get_lt h1
  refine ⟨this, ?_⟩
  rcases h3 with ⟨_, rfl⟩ | ⟨h3, _⟩
  · exact this
  · exact h2.lt h3
theorem WS.chg {H H' : AHeap} {b bv : Nat} {l : List UInt8} {S : List Nat} (h : WS H b bv l) (k : Chg S H H') (h1 : b ∉ S) (h2 : bv ∉ S) : WS H' b bv l := by
  obtain ⟨v, a1, a2, a3⟩ := h
  refine ⟨v, k.at_ a1 h1, a2.chg k ?_, a3⟩
  intro x hx
  rw [mem_blkL] at hx
  rcases a3 with ⟨e, _⟩ | ⟨e, _⟩
  · rw [e] at hx; cases hx
  · rw [e] at hx; cases hx; exact h2
theorem WS.app {H : AHeap} {b bv : Nat} {l m : List UInt8} {x : Value} (h : WS H b bv l) (hx : BS H x m) (hl : l.length + m.length ≤ 1000000000) :
    ∃ v v' H1, H.get b = some (.cells true false 1 [v] 166) ∧ (∀ K : Value → AHeap → Prop, K v' H1 → stepA Go.Proofs.Try.prog 0 (.app 5 1 1 v x) H K) ∧ H1.get b = some (.cells true false 1 [v] 166) ∧ v'.oneCell' = true ∧
      ∃ bv', WS (H1.set b (.cells true false 1 [v'] 166)) b bv' (l ++ m) ∧ (bv' = bv ∨ H.n ≤ bv') ∧ Chg [b, bv] H (H1.set b (.cells true false 1 [v'] 166)) := by
  obtain ⟨v, h1, h2, h3⟩ := h
  obtain ⟨a, k, rfl⟩ := hx.sh
  obtain ⟨v', H', k1, k2, k3, k4⟩ := h2.app (bytes := 1) (news := cellsOf m) (m := m.length) (by rw [cellsOf_length]; omega) (by omega)
  have hb : b ∉ blkL v := by
    rw [mem_blkL]
    rcases h3 with ⟨e, _⟩ | ⟨e, hne⟩
    · rw [e]; simp
    · rw [e]; simpa using hne
  have hbn := AHeap.get_lt h1
  have hb1 := k3.at_ h1 hb
  have hS : ∀ x ∈ blkL v, x ∈ [b, bv] ∨ H.n ≤ x := by
    intro x hx
    rw [mem_blkL] at hx
    rcases h3 with ⟨e, _⟩ | ⟨e, hne⟩
    · rw [e] at hx; cases hx
    · rw [e] at hx; cases hx; simp
  have hv'b : blk v' ≠ some b := by
    rcases k4 with k4 | k4
    · exact fun e => hb (mem_blkL.2 (k4 ▸ e))
    · rw [k4]; simp; omega
  refine ⟨v, v', H', h1, fun K hK => by rw [s_app rfl hx.el k1]; exact hK, hb1, ?_, ?_⟩
  · obtain ⟨a', ha⟩ := k2.shape
    rw [ha]; rfl
  have hset := Chg.set H' (AHeap.get_lt hb1) (.cells true false 1 [v'] 166)
  have hW : AP (H'.set b (.cells true false 1 [v'] 166)) 5 1 v' (l ++ m).length (cellsOf (l ++ m)) := by
    rw [List.length_append, cellsOf_append]
    refine k2.chg hset ?_
    intro x hx
    rw [mem_blkL] at hx
    intro e
    simp only [List.mem_singleton] at e
    subst e
    exact hv'b hx
  have hC : Chg [b, bv] H (H'.set b (.cells true false 1 [v'] 166)) := by
    refine Chg.trans (S := [b, bv]) (Chg.mono k3 (fun x hx => ?_)) hset (by simp)
    rcases hS x hx with h | h
    · exact h
    · rw [mem_blkL] at hx
      have := h2.lt hx
      omega
  cases hbv : blk v' with
  | none =>
    have hbl : blk v = none := by
      rcases k4 with k4 | k4
      · rw [← k4]; exact hbv
      · rw [hbv] at k4; cases k4
    refine ⟨bv, ⟨v', AHeap.get_set_same hb1 _, hW, .inl ⟨hbv, ?_⟩⟩, .inl rfl, hC⟩
    rcases h3 with ⟨_, e⟩ | ⟨e, _⟩
    · exact e
    · rw [hbl] at e; cases e
  | some x =>
    refine ⟨x, ⟨v', AHeap.get_set_same hb1 _, hW, .inr ⟨hbv, fun e => hv'b (by rw [hbv, e])⟩⟩, ?_, hC⟩
    rcases k4 with k4 | k4
    · rw [hbv] at k4
      rcases h3 with ⟨e, _⟩ | ⟨e, _⟩
      · rw [e] at k4; cases k4
      · rw [e] at k4; cases k4; exact .inl rfl
    · rw [hbv] at k4; cases k4; exact .inr (Nat.le_refl _)
theorem t105 {H : AHeap} {b bv : Nat} {l : List UInt8} (h : WS H b bv l) (t n : Nat) (ht : t = 5 ∨ t = 111 ∨ t = 25 ∨ t = 24) (hn : n < 256 ^ wd t) (hl : l.length ≤ 100000000) :
    ∃ v H', ARun Go.Proofs.Try.prog 0 105 [ptr b 0, .iface t (.int (kd t) n)] H v H' ∧ ∃ bv', WS H' b bv' (l ++ be (wd t) n) ∧ (bv' = bv ∨ H.n ≤ bv') ∧ Chg [b, bv] H H' := by
  refine walk f105_ok f105_n ?_
  have r35 := t114 t n ht hn H
  have hw : 1 ≤ wd t ∧ wd t ≤ 8 := by rcases ht with rfl | rfl | rfl | rfl <;> simp [wd]
  simp only [f105, initFr, ↓reduceIte, RD_nil, RD_cons, RD_consg, W_dreg, obl_nil, Nat.reduceAdd, Nat.add_zero, Nat.zero_add, Nat.mul_one, Int.toNat_natCast, W_skip, W_reg, W_seq, W_cond, W_block, W_exit, W_ret, getD_nil', RW_nil, RW_cons, RW_consg, AOp.map, AX_fr, AX_tm, AX_c, AX_fn, AX_g, D_no, D_no', D_tm, D_tm', D_fr, D_fr', List.getD_cons_zero, List.getD_cons_succ, List.set_cons_zero, List.set_cons_succ, List.map_cons, List.map_nil, Option.map_some, Option.map_none, wantA, beq_self_eq_true, if_true, Bool.false_eq_true, if_false, Bool.not_true, Bool.not_false, s_mov, s_pick, s_new, s_box, s_build, s_bslice, s_load1, s_loadn, s_nilck, s_bin, s_eqv, s_not, s_neg, s_i2i, s_s2s, s_s2b, s_iface, s_mkfn, s_faddr, s_fld1, s_iaddr, s_idxs, s_assert, s_extract, s_len, s_lens, s_lenc, s_callf, resO0, resO1, resO2, resO3, List.getElem?_cons_zero, List.getElem?_cons_succ, Nat.reduceEqDiff, true_and, and_true, false_and, e_sn, e_ss, e_pn, e_ps, e_bb, fill0, fill1, b_add, b_sub, b_mul, b_eql, b_neq, b_lss, b_leq, b_gtr, b_geq, b_and, b_or, b_xor, b_seql, b_sneq, b_slss, AQ.andThen, AQ.inBlock, Option.some.injEq, exists_eq_left', exists_eq_left, reduceCtorEq, Exit.exit.injEq]
  refine ⟨_, _, r35, ?_⟩
  simp only [↓reduceIte, RD_nil, RD_cons, RD_consg, W_dreg, obl_nil, Nat.reduceAdd, Nat.add_zero, Nat.zero_add, Nat.mul_one, Int.toNat_natCast, W_skip, W_reg, W_seq, W_cond, W_block, W_exit, W_ret, getD_nil', RW_nil, RW_cons, RW_consg, AOp.map, AX_fr, AX_tm, AX_c, AX_fn, AX_g, D_no, D_no', D_tm, D_tm', D_fr, D_fr', List.getD_cons_zero, List.getD_cons_succ, List.set_cons_zero, List.set_cons_succ, List.map_cons, List.map_nil, Option.map_some, Option.map_none, wantA, beq_self_eq_true, if_true, Bool.false_eq_true, if_false, Bool.not_true, Bool.not_false, s_mov, s_pick, s_new, s_box, s_build, s_bslice, s_load1, s_loadn, s_nilck, s_bin, s_eqv, s_not, s_neg, s_i2i, s_s2s, s_s2b, s_iface, s_mkfn, s_faddr, s_fld1, s_iaddr, s_idxs, s_assert, s_extract, s_len, s_lens, s_lenc, s_callf, resO0, resO1, resO2, resO3, List.getElem?_cons_zero, List.getElem?_cons_succ, Nat.reduceEqDiff, true_and, and_true, false_and, e_sn, e_ss, e_pn, e_ps, e_bb, fill0, fill1, b_add, b_sub, b_mul, b_eql, b_neq, b_lss, b_leq, b_gtr, b_geq, b_and, b_or, b_xor, b_seql, b_sneq, b_slss, AQ.andThen, AQ.inBlock, Option.some.injEq, exists_eq_left', exists_eq_left, reduceCtorEq, Exit.exit.injEq]
  rw [wrap_i64 (n := (wd t : Int) - 1) (by omega) (by omega), wrap_i64 (by omega) (by omega)]
  refine W_loop (fun k fr H1 => ∃ (j : Int) (x : Value) (m : List UInt8) (bv1 : Nat), fr = [ptr b 0, .iface t (.int (kd t) n), .int .u64 n, .int .i64 (wd t), .int .i64 (8 * j), .bool false, x] ∧ -1 ≤ j ∧ j < wd t ∧ k = (j + 1).toNat ∧
    m ++ be (j + 1).toNat n = be (wd t) n ∧ WS H1 b bv1 (l ++ m) ∧ (bv1 = bv ∨ H.n ≤ bv1) ∧ Chg [b, bv] H H1) (wd t) ?_ ?_
  · refine ⟨(wd t : Int) - 1, undef, [], bv, rfl, by omega, by omega, by omega, ?_, by rw [List.append_nil]; exact h, .inl rfl, Chg.refl _ _⟩
    rw [show ((wd t : Int) - 1 + 1).toNat = wd t by omega, List.nil_append]
  · rintro k fr H1 ⟨j, x, m, bv1, rfl, h1, h2, rfl, h3, h4, h5, h6⟩
    simp only [↓reduceIte, RD_nil, RD_cons, RD_consg, W_dreg, obl_nil, Nat.reduceAdd, Nat.add_zero, Nat.zero_add, Nat.mul_one, Int.toNat_natCast, W_skip, W_reg, W_seq, W_cond, W_block, W_exit, W_ret, getD_nil', RW_nil, RW_cons, RW_consg, AOp.map, AX_fr, AX_tm, AX_c, AX_fn, AX_g, D_no, D_no', D_tm, D_tm', D_fr, D_fr', List.getD_cons_zero, List.getD_cons_succ, List.set_cons_zero, List.set_cons_succ, List.map_cons, List.map_nil, Option.map_some, Option.map_none, wantA, beq_self_eq_true, if_true, Bool.false_eq_true, if_false, Bool.not_true, Bool.not_false, s_mov, s_pick, s_new, s_box, s_build, s_bslice, s_load1, s_loadn, s_nilck, s_bin, s_eqv, s_not, s_neg, s_i2i, s_s2s, s_s2b, s_iface, s_mkfn, s_faddr, s_fld1, s_iaddr, s_idxs, s_assert, s_extract, s_len, s_lens, s_lenc, s_callf, resO0, resO1, resO2, resO3, List.getElem?_cons_zero, List.getElem?_cons_succ, Nat.reduceEqDiff, true_and, and_true, false_and, e_sn, e_ss, e_pn, e_ps, e_bb, fill0, fill1, b_add, b_sub, b_mul, b_eql, b_neq, b_lss, b_leq, b_gtr, b_geq, b_and, b_or, b_xor, b_seql, b_sneq, b_slss, AQ.andThen, AQ.inBlock, Option.some.injEq, exists_eq_left', exists_eq_left, reduceCtorEq, Exit.exit.injEq]
    by_cases hj : 0 ≤ j
    · obtain ⟨i, rfl⟩ : ∃ i : Nat, j = i := ⟨j.toNat, by omega⟩
      simp only [show (0 : Int) ≤ 8 * (i : Int) by omega, decide_true, ↓reduceIte, RD_nil, RD_cons, RD_consg, W_dreg, obl_nil, Nat.reduceAdd, Nat.add_zero, Nat.zero_add, Nat.mul_one, Int.toNat_natCast, W_skip, W_reg, W_seq, W_cond, W_block, W_exit, W_ret, getD_nil', RW_nil, RW_cons, RW_consg, AOp.map, AX_fr, AX_tm, AX_c, AX_fn, AX_g, D_no, D_no', D_tm, D_tm', D_fr, D_fr', List.getD_cons_zero, List.getD_cons_succ, List.set_cons_zero, List.set_cons_succ, List.map_cons, List.map_nil, Option.map_some, Option.map_none, wantA, beq_self_eq_true, if_true, Bool.false_eq_true, if_false, Bool.not_true, Bool.not_false, s_mov, s_pick, s_new, s_box, s_build, s_bslice, s_load1, s_loadn, s_nilck, s_bin, s_eqv, s_not, s_neg, s_i2i, s_s2s, s_s2b, s_iface, s_mkfn, s_faddr, s_fld1, s_iaddr, s_idxs, s_assert, s_extract, s_len, s_lens, s_lenc, s_callf, resO0, resO1, resO2, resO3, List.getElem?_cons_zero, List.getElem?_cons_succ, Nat.reduceEqDiff, true_and, and_true, false_and, e_sn, e_ss, e_pn, e_ps, e_bb, fill0, fill1, b_add, b_sub, b_mul, b_eql, b_neq, b_lss, b_leq, b_gtr, b_geq, b_and, b_or, b_xor, b_seql, b_sneq, b_slss, AQ.andThen, AQ.inBlock, Option.some.injEq, exists_eq_left', exists_eq_left, reduceCtorEq, Exit.exit.injEq]
      have hji : ((i : Int) + 1).toNat = i + 1 := by omega
      rw [hji] at h3
      have hlen : m.length + (i + 1) = wd t := by
        have := congrArg List.length h3
        simpa [be_length] using this
      have h4' := h4.chg (S := []) (((Keeps.refl H1).alloc (.cells true false 1 [.int .u8 (UInt8.ofNat (n / 256 ^ i)).toNat] 5)).chg []) (by simp) (by simp)
      obtain ⟨v, v', H2, e1, e2, e3, e4, bv', e5, e6, e7⟩ := h4'.app (m := [UInt8.ofNat (n / 256 ^ i)]) (x := slc H1.n 0 1 1) ⟨⟨_, _, rfl⟩, elems_own (AHeap.get_alloc_new H1 _) rfl⟩ (by simp; omega)
      have e0 : H1.get b = some (.cells true false 1 [v] 166) := by
        rw [AHeap.get_alloc_old H1 _ h4.lt.1] at e1; exact e1
      simp only [cellA_of e0, b_shr _ _ _ _ (show (0 : Int) ≤ 8 * (i : Int) by omega), ↓reduceIte, RD_nil, RD_cons, RD_consg, W_dreg, obl_nil, Nat.reduceAdd, Nat.add_zero, Nat.zero_add, Nat.mul_one, Int.toNat_natCast, W_skip, W_reg, W_seq, W_cond, W_block, W_exit, W_ret, getD_nil', RW_nil, RW_cons, RW_consg, AOp.map, AX_fr, AX_tm, AX_c, AX_fn, AX_g, D_no, D_no', D_tm, D_tm', D_fr, D_fr', List.getD_cons_zero, List.getD_cons_succ, List.set_cons_zero, List.set_cons_succ, List.map_cons, List.map_nil, Option.map_some, Option.map_none, wantA, beq_self_eq_true, if_true, Bool.false_eq_true, if_false, Bool.not_true, Bool.not_false, s_mov, s_pick, s_new, s_box, s_build, s_bslice, s_load1, s_loadn, s_nilck, s_bin, s_eqv, s_not, s_neg, s_i2i, s_s2s, s_s2b, s_iface, s_mkfn, s_faddr, s_fld1, s_iaddr, s_idxs, s_assert, s_extract, s_len, s_lens, s_lenc, s_callf, resO0, resO1, resO2, resO3, List.getElem?_cons_zero, List.getElem?_cons_succ, Nat.reduceEqDiff, true_and, and_true, false_and, e_sn, e_ss, e_pn, e_ps, e_bb, fill0, fill1, b_add, b_sub, b_mul, b_eql, b_neq, b_lss, b_leq, b_gtr, b_geq, b_and, b_or, b_xor, b_seql, b_sneq, b_slss, AQ.andThen, AQ.inBlock, Option.some.injEq, exists_eq_left', exists_eq_left, reduceCtorEq, Exit.exit.injEq]
      have hmin : min (8 * (i : Int)).toNat IntKind.u64.bits = 8 * i := by simp only [IntKind.bits]; omega
      rw [hmin, wrap_u8, byte_cell]
      refine ⟨⟨rfl, rfl⟩, e2 _ ?_⟩
      simp only [↓reduceIte, RD_nil, RD_cons, RD_consg, W_dreg, obl_nil, Nat.reduceAdd, Nat.add_zero, Nat.zero_add, Nat.mul_one, Int.toNat_natCast, W_skip, W_reg, W_seq, W_cond, W_block, W_exit, W_ret, getD_nil', RW_nil, RW_cons, RW_consg, AOp.map, AX_fr, AX_tm, AX_c, AX_fn, AX_g, D_no, D_no', D_tm, D_tm', D_fr, D_fr', List.getD_cons_zero, List.getD_cons_succ, List.set_cons_zero, List.set_cons_succ, List.map_cons, List.map_nil, Option.map_some, Option.map_none, wantA, beq_self_eq_true, if_true, Bool.false_eq_true, if_false, Bool.not_true, Bool.not_false, s_mov, s_pick, s_new, s_box, s_build, s_bslice, s_load1, s_loadn, s_nilck, s_bin, s_eqv, s_not, s_neg, s_i2i, s_s2s, s_s2b, s_iface, s_mkfn, s_faddr, s_fld1, s_iaddr, s_idxs, s_assert, s_extract, s_len, s_lens, s_lenc, s_callf, resO0, resO1, resO2, resO3, List.getElem?_cons_zero, List.getElem?_cons_succ, Nat.reduceEqDiff, true_and, and_true, false_and, e_sn, e_ss, e_pn, e_ps, e_bb, fill0, fill1, b_add, b_sub, b_mul, b_eql, b_neq, b_lss, b_leq, b_gtr, b_geq, b_and, b_or, b_xor, b_seql, b_sneq, b_slss, AQ.andThen, AQ.inBlock, Option.some.injEq, exists_eq_left', exists_eq_left, reduceCtorEq, Exit.exit.injEq, s_store1 e3]
      refine ⟨⟨by simp, e4⟩, i, by omega, (i : Int) - 1, .bool true, m ++ [UInt8.ofNat (n / 256 ^ i)], bv', ?_, by omega, by omega, by omega, ?_, ?_, ?_, ?_⟩
      · rw [wrap_i64 (by omega) (by omega), show 8 * (i : Int) - 8 = 8 * ((i : Int) - 1) by omega]
      · rw [show ((i : Int) - 1 + 1).toNat = i by omega, ← h3]
        simp [be]
      · rw [← List.append_assoc]; exact e5
      · have := h6.n
        rw [alloc_n] at e6
        omega
      · have := h6.n
        refine (h6.alloc _).trans e7 ?_
        intro x hx
        simp only [List.mem_cons, List.not_mem_nil, or_false] at hx ⊢
        omega
    · simp only [show ¬ (0 : Int) ≤ 8 * j by omega, decide_false, ↓reduceIte, RD_nil, RD_cons, RD_consg, W_dreg, obl_nil, Nat.reduceAdd, Nat.add_zero, Nat.zero_add, Nat.mul_one, Int.toNat_natCast, W_skip, W_reg, W_seq, W_cond, W_block, W_exit, W_ret, getD_nil', RW_nil, RW_cons, RW_consg, AOp.map, AX_fr, AX_tm, AX_c, AX_fn, AX_g, D_no, D_no', D_tm, D_tm', D_fr, D_fr', List.getD_cons_zero, List.getD_cons_succ, List.set_cons_zero, List.set_cons_succ, List.map_cons, List.map_nil, Option.map_some, Option.map_none, wantA, beq_self_eq_true, if_true, Bool.false_eq_true, if_false, Bool.not_true, Bool.not_false, s_mov, s_pick, s_new, s_box, s_build, s_bslice, s_load1, s_loadn, s_nilck, s_bin, s_eqv, s_not, s_neg, s_i2i, s_s2s, s_s2b, s_iface, s_mkfn, s_faddr, s_fld1, s_iaddr, s_idxs, s_assert, s_extract, s_len, s_lens, s_lenc, s_callf, resO0, resO1, resO2, resO3, List.getElem?_cons_zero, List.getElem?_cons_succ, Nat.reduceEqDiff, true_and, and_true, false_and, e_sn, e_ss, e_pn, e_ps, e_bb, fill0, fill1, b_add, b_sub, b_mul, b_eql, b_neq, b_lss, b_leq, b_gtr, b_geq, b_and, b_or, b_xor, b_seql, b_sneq, b_slss, AQ.andThen, AQ.inBlock, Option.some.injEq, exists_eq_left', exists_eq_left, reduceCtorEq, Exit.exit.injEq]
      have : (j + 1).toNat = 0 := by omega
      rw [this] at h3
      simp only [be, List.append_nil] at h3
      subst h3
      exact ⟨bv1, h4, h5, h6⟩
def Put (H H' : AHeap) (b bv : Nat) (l : List UInt8) : Prop := ∃ bv', WS H' b bv' l ∧ (bv' = bv ∨ H.n ≤ bv') ∧ Chg [b, bv] H H'
theorem t79 {H : AHeap} {b bv : Nat} {l : List UInt8} (h : WS H b bv l) (n : Nat) (hn : n < 256) (hl : l.length ≤ 100000000) : ∃ v H', ARun Go.Proofs.Try.prog 0 79 [ptr b 0, .int .u8 n] H v H' ∧ Put H H' b bv (l ++ be 1 n) := by
  refine walk f79_ok f79_n ?_
  obtain ⟨v, H', r, p⟩ := t105 h 5 n (by omega) (by simpa [wd] using hn) hl
  simp only [f79, initFr, ↓reduceIte, RD_nil, RD_cons, RD_consg, W_dreg, obl_nil, Nat.reduceAdd, Nat.add_zero, Nat.zero_add, Nat.mul_one, Int.toNat_natCast, W_skip, W_reg, W_seq, W_cond, W_block, W_exit, W_ret, getD_nil', RW_nil, RW_cons, RW_consg, AOp.map, AX_fr, AX_tm, AX_c, AX_fn, AX_g, D_no, D_no', D_tm, D_tm', D_fr, D_fr', List.getD_cons_zero, List.getD_cons_succ, List.set_cons_zero, List.set_cons_succ, List.map_cons, List.map_nil, Option.map_some, Option.map_none, wantA, beq_self_eq_true, if_true, Bool.false_eq_true, if_false, Bool.not_true, Bool.not_false, s_mov, s_pick, s_new, s_box, s_build, s_bslice, s_load1, s_loadn, s_nilck, s_bin, s_eqv, s_not, s_neg, s_i2i, s_s2s, s_s2b, s_iface, s_mkfn, s_faddr, s_fld1, s_iaddr, s_idxs, s_assert, s_extract, s_len, s_lens, s_lenc, s_callf, resO0, resO1, resO2, resO3, List.getElem?_cons_zero, List.getElem?_cons_succ, Nat.reduceEqDiff, true_and, and_true, false_and, e_sn, e_ss, e_pn, e_ps, e_bb, fill0, fill1, b_add, b_sub, b_mul, b_eql, b_neq, b_lss, b_leq, b_gtr, b_geq, b_and, b_or, b_xor, b_seql, b_sneq, b_slss, AQ.andThen, AQ.inBlock, Option.some.injEq, exists_eq_left', exists_eq_left, reduceCtorEq, Exit.exit.injEq]
  exact ⟨v, H', r, p⟩
theorem t81 {H : AHeap} {b bv : Nat} {l : List UInt8} (h : WS H b bv l) (n : Nat) (hn : n < 65536) (hl : l.length ≤ 100000000) : ∃ v H', ARun Go.Proofs.Try.prog 0 81 [ptr b 0, .int .u16 n] H v H' ∧ Put H H' b bv (l ++ be 2 n) := by
  refine walk f81_ok f81_n ?_
  obtain ⟨v, H', r, p⟩ := t105 h 111 n (by omega) (by simpa [wd] using hn) hl
  simp only [f81, initFr, ↓reduceIte, RD_nil, RD_cons, RD_consg, W_dreg, obl_nil, Nat.reduceAdd, Nat.add_zero, Nat.zero_add, Nat.mul_one, Int.toNat_natCast, W_skip, W_reg, W_seq, W_cond, W_block, W_exit, W_ret, getD_nil', RW_nil, RW_cons, RW_consg, AOp.map, AX_fr, AX_tm, AX_c, AX_fn, AX_g, D_no, D_no', D_tm, D_tm', D_fr, D_fr', List.getD_cons_zero, List.getD_cons_succ, List.set_cons_zero, List.set_cons_succ, List.map_cons, List.map_nil, Option.map_some, Option.map_none, wantA, beq_self_eq_true, if_true, Bool.false_eq_true, if_false, Bool.not_true, Bool.not_false, s_mov, s_pick, s_new, s_box, s_build, s_bslice, s_load1, s_loadn, s_nilck, s_bin, s_eqv, s_not, s_neg, s_i2i, s_s2s, s_s2b, s_iface, s_mkfn, s_faddr, s_fld1, s_iaddr, s_idxs, s_assert, s_extract, s_len, s_lens, s_lenc, s_callf, resO0, resO1, resO2, resO3, List.getElem?_cons_zero, List.getElem?_cons_succ, Nat.reduceEqDiff, true_and, and_true, false_and, e_sn, e_ss, e_pn, e_ps, e_bb, fill0, fill1, b_add, b_sub, b_mul, b_eql, b_neq, b_lss, b_leq, b_gtr, b_geq, b_and, b_or, b_xor, b_seql, b_sneq, b_slss, AQ.andThen, AQ.inBlock, Option.some.injEq, exists_eq_left', exists_eq_left, reduceCtorEq, Exit.exit.injEq]
  exact ⟨v, H', r, p⟩
theorem t85 {H : AHeap} {b bv : Nat} {l : List UInt8} (h : WS H b bv l) (n : Nat) (hn : n < 4294967296) (hl : l.length ≤ 100000000) : ∃ v H', ARun Go.Proofs.Try.prog 0 85 [ptr b 0, .int .u32 n] H v H' ∧ Put H H' b bv (l ++ be 4 n) := by
  refine walk f85_ok f85_n ?_
  obtain ⟨v, H', r, p⟩ := t105 h 25 n (by omega) (by simpa [wd] using hn) hl
  simp only [f85, initFr, ↓reduceIte, RD_nil, RD_cons, RD_consg, W_dreg, obl_nil, Nat.reduceAdd, Nat.add_zero, Nat.zero_add, Nat.mul_one, Int.toNat_natCast, W_skip, W_reg, W_seq, W_cond, W_block, W_exit, W_ret, getD_nil', RW_nil, RW_cons, RW_consg, AOp.map, AX_fr, AX_tm, AX_c, AX_fn, AX_g, D_no, D_no', D_tm, D_tm', D_fr, D_fr', List.getD_cons_zero, List.getD_cons_succ, List.set_cons_zero, List.set_cons_succ, List.map_cons, List.map_nil, Option.map_some, Option.map_none, wantA, beq_self_eq_true, if_true, Bool.false_eq_true, if_false, Bool.not_true, Bool.not_false, s_mov, s_pick, s_new, s_box, s_build, s_bslice, s_load1, s_loadn, s_nilck, s_bin, s_eqv, s_not, s_neg, s_i2i, s_s2s, s_s2b, s_iface, s_mkfn, s_faddr, s_fld1, s_iaddr, s_idxs, s_assert, s_extract, s_len, s_lens, s_lenc, s_callf, resO0, resO1, resO2, resO3, List.getElem?_cons_zero, List.getElem?_cons_succ, Nat.reduceEqDiff, true_and, and_true, false_and, e_sn, e_ss, e_pn, e_ps, e_bb, fill0, fill1, b_add, b_sub, b_mul, b_eql, b_neq, b_lss, b_leq, b_gtr, b_geq, b_and, b_or, b_xor, b_seql, b_sneq, b_slss, AQ.andThen, AQ.inBlock, Option.some.injEq, exists_eq_left', exists_eq_left, reduceCtorEq, Exit.exit.injEq]
  exact ⟨v, H', r, p⟩
theorem t84 {H : AHeap} {b bv : Nat} {l : List UInt8} (h : WS H b bv l) (n : Nat) (hn : n < 18446744073709551616) (hl : l.length ≤ 100000000) : ∃ v H', ARun Go.Proofs.Try.prog 0 84 [ptr b 0, .int .u64 n] H v H' ∧ Put H H' b bv (l ++ be 8 n) := by
  refine walk f84_ok f84_n ?_
  obtain ⟨v, H', r, p⟩ := t105 h 24 n (by omega) (by simpa [wd] using hn) hl
  simp only [f84, initFr, ↓reduceIte, RD_nil, RD_cons, RD_consg, W_dreg, obl_nil, Nat.reduceAdd, Nat.add_zero, Nat.zero_add, Nat.mul_one, Int.toNat_natCast, W_skip, W_reg, W_seq, W_cond, W_block, W_exit, W_ret, getD_nil', RW_nil, RW_cons, RW_consg, AOp.map, AX_fr, AX_tm, AX_c, AX_fn, AX_g, D_no, D_no', D_tm, D_tm', D_fr, D_fr', List.getD_cons_zero, List.getD_cons_succ, List.set_cons_zero, List.set_cons_succ, List.map_cons, List.map_nil, Option.map_some, Option.map_none, wantA, beq_self_eq_true, if_true, Bool.false_eq_true, if_false, Bool.not_true, Bool.not_false, s_mov, s_pick, s_new, s_box, s_build, s_bslice, s_load1, s_loadn, s_nilck, s_bin, s_eqv, s_not, s_neg, s_i2i, s_s2s, s_s2b, s_iface, s_mkfn, s_faddr, s_fld1, s_iaddr, s_idxs, s_assert, s_extract, s_len, s_lens, s_lenc, s_callf, resO0, resO1, resO2, resO3, List.getElem?_cons_zero, List.getElem?_cons_succ, Nat.reduceEqDiff, true_and, and_true, false_and, e_sn, e_ss, e_pn, e_ps, e_bb, fill0, fill1, b_add, b_sub, b_mul, b_eql, b_neq, b_lss, b_leq, b_gtr, b_geq, b_and, b_or, b_xor, b_seql, b_sneq, b_slss, AQ.andThen, AQ.inBlock, Option.some.injEq, exists_eq_left', exists_eq_left, reduceCtorEq, Exit.exit.injEq]
  exact ⟨v, H', r, p⟩
theorem t82 {H : AHeap} {b bv : Nat} {l m : List UInt8} {x : Value} (h : WS H b bv l) (hx : BS H x m) (hl : l.length + m.length ≤ 1000000000) : ∃ v H', ARun Go.Proofs.Try.prog 0 82 [ptr b 0, x] H v H' ∧ Put H H' b bv (l ++ m) := by
  refine walk f82_ok f82_n ?_
  obtain ⟨v, v', H1, e1, e2, e3, e4, e5⟩ := h.app hx hl
  simp only [f82, initFr, cellA_of e1, ↓reduceIte, RD_nil, RD_cons, RD_consg, W_dreg, obl_nil, Nat.reduceAdd, Nat.add_zero, Nat.zero_add, Nat.mul_one, Int.toNat_natCast, W_skip, W_reg, W_seq, W_cond, W_block, W_exit, W_ret, getD_nil', RW_nil, RW_cons, RW_consg, AOp.map, AX_fr, AX_tm, AX_c, AX_fn, AX_g, D_no, D_no', D_tm, D_tm', D_fr, D_fr', List.getD_cons_zero, List.getD_cons_succ, List.set_cons_zero, List.set_cons_succ, List.map_cons, List.map_nil, Option.map_some, Option.map_none, wantA, beq_self_eq_true, if_true, Bool.false_eq_true, if_false, Bool.not_true, Bool.not_false, s_mov, s_pick, s_new, s_box, s_build, s_bslice, s_load1, s_loadn, s_nilck, s_bin, s_eqv, s_not, s_neg, s_i2i, s_s2s, s_s2b, s_iface, s_mkfn, s_faddr, s_fld1, s_iaddr, s_idxs, s_assert, s_extract, s_len, s_lens, s_lenc, s_callf, resO0, resO1, resO2, resO3, List.getElem?_cons_zero, List.getElem?_cons_succ, Nat.reduceEqDiff, true_and, and_true, false_and, e_sn, e_ss, e_pn, e_ps, e_bb, fill0, fill1, b_add, b_sub, b_mul, b_eql, b_neq, b_lss, b_leq, b_gtr, b_geq, b_and, b_or, b_xor, b_seql, b_sneq, b_slss, AQ.andThen, AQ.inBlock, Option.some.injEq, exists_eq_left', exists_eq_left, reduceCtorEq, Exit.exit.injEq]
  refine e2 _ ?_
  simp only [s_store1 e3, ↓reduceIte, RD_nil, RD_cons, RD_consg, W_dreg, obl_nil, Nat.reduceAdd, Nat.add_zero, Nat.zero_add, Nat.mul_one, Int.toNat_natCast, W_skip, W_reg, W_seq, W_cond, W_block, W_exit, W_ret, getD_nil', RW_nil, RW_cons, RW_consg, AOp.map, AX_fr, AX_tm, AX_c, AX_fn, AX_g, D_no, D_no', D_tm, D_tm', D_fr, D_fr', List.getD_cons_zero, List.getD_cons_succ, List.set_cons_zero, List.set_cons_succ, List.map_cons, List.map_nil, Option.map_some, Option.map_none, wantA, beq_self_eq_true, if_true, Bool.false_eq_true, if_false, Bool.not_true, Bool.not_false, s_mov, s_pick, s_new, s_box, s_build, s_bslice, s_load1, s_loadn, s_nilck, s_bin, s_eqv, s_not, s_neg, s_i2i, s_s2s, s_s2b, s_iface, s_mkfn, s_faddr, s_fld1, s_iaddr, s_idxs, s_assert, s_extract, s_len, s_lens, s_lenc, s_callf, resO0, resO1, resO2, resO3, List.getElem?_cons_zero, List.getElem?_cons_succ, Nat.reduceEqDiff, true_and, and_true, false_and, e_sn, e_ss, e_pn, e_ps, e_bb, fill0, fill1, b_add, b_sub, b_mul, b_eql, b_neq, b_lss, b_leq, b_gtr, b_geq, b_and, b_or, b_xor, b_seql, b_sneq, b_slss, AQ.andThen, AQ.inBlock, Option.some.injEq, exists_eq_left', exists_eq_left, reduceCtorEq, Exit.exit.injEq]
  exact ⟨⟨by simp, e4⟩, e5⟩
theorem t104 {H : AHeap} {b bv : Nat} {l : List UInt8} (h : WS H b bv l) (hl : l.length ≤ 1000000000) : ∃ v H', ARun Go.Proofs.Try.prog 0 104 [ptr b 0] H v H' ∧ AP H' 5 1 v l.length (cellsOf l) ∧ Keeps H H' ∧ Fresh H.n v := by
  refine walk f104_ok f104_n ?_
  obtain ⟨v, h1, h2, h3⟩ := h
  obtain ⟨v', H', r, p⟩ := t73 h2.bs hl
  simp only [f104, initFr, cellA_of h1, ↓reduceIte, RD_nil, RD_cons, RD_consg, W_dreg, obl_nil, Nat.reduceAdd, Nat.add_zero, Nat.zero_add, Nat.mul_one, Int.toNat_natCast, W_skip, W_reg, W_seq, W_cond, W_block, W_exit, W_ret, getD_nil', RW_nil, RW_cons, RW_consg, AOp.map, AX_fr, AX_tm, AX_c, AX_fn, AX_g, D_no, D_no', D_tm, D_tm', D_fr, D_fr', List.getD_cons_zero, List.getD_cons_succ, List.set_cons_zero, List.set_cons_succ, List.map_cons, List.map_nil, Option.map_some, Option.map_none, wantA, beq_self_eq_true, if_true, Bool.false_eq_true, if_false, Bool.not_true, Bool.not_false, s_mov, s_pick, s_new, s_box, s_build, s_bslice, s_load1, s_loadn, s_nilck, s_bin, s_eqv, s_not, s_neg, s_i2i, s_s2s, s_s2b, s_iface, s_mkfn, s_faddr, s_fld1, s_iaddr, s_idxs, s_assert, s_extract, s_len, s_lens, s_lenc, s_callf, resO0, resO1, resO2, resO3, List.getElem?_cons_zero, List.getElem?_cons_succ, Nat.reduceEqDiff, true_and, and_true, false_and, e_sn, e_ss, e_pn, e_ps, e_bb, fill0, fill1, b_add, b_sub, b_mul, b_eql, b_neq, b_lss, b_leq, b_gtr, b_geq, b_and, b_or, b_xor, b_seql, b_sneq, b_slss, AQ.andThen, AQ.inBlock, Option.some.injEq, exists_eq_left', exists_eq_left, reduceCtorEq, Exit.exit.injEq]
  exact ⟨v', H', r, p⟩
theorem be_mod : ∀ w n k : Nat, w ≤ k → be w (n % 256 ^ k) = be w n
  | 0, _, _, _ => rfl
  | w + 1, n, k, h => by
    simp only [be]
    rw [be_mod w n k (by omega)]
    congr 1
    have h1 : n % 256 ^ k / 256 ^ w = n / 256 ^ w % 256 ^ (k - w) := by
      rw [show (256 : Nat) ^ k = 256 ^ w * 256 ^ (k - w) by rw [← Nat.pow_add]; congr 1; omega]
      rw [Nat.mod_mul_right_div_self]
    rw [h1]
    have h2 : (256 : Nat) ^ (k - w) = 256 * 256 ^ (k - w - 1) := by
      rw [← Nat.pow_succ']; congr 1; omega
    apply UInt8.toNat_inj.1
    simp only [UInt8.toNat_ofNat', h2]
    exact Nat.mod_mul_right_mod _ _ _
def num (l : List UInt8) : Nat := l.foldl (fun n b => (n * 256 + b.toNat) % 18446744073709551616) 0
theorem num_append (l : List UInt8) (b : UInt8) : num (l ++ [b]) = (num l * 256 + b.toNat) % 18446744073709551616 := by simp [num]
theorem or_byte (n : Nat) (b : UInt8) : (IntKind.u64.wrap ((BitVec.ofInt IntKind.u64.bits (IntKind.u64.wrap ((n : Int) * 2 ^ (min 8 IntKind.u64.bits))) ||| BitVec.ofInt IntKind.u64.bits (b.toNat : Int)).toNat : Int)) =
    (((n * 256 + b.toNat) % 18446744073709551616 : Nat) : Int) := by
  have hb := b.toNat_lt
  change IntKind.u64.wrap (((BitVec.ofInt 64 (IntKind.u64.wrap ((n : Int) * 2 ^ (min 8 64))) ||| BitVec.ofInt 64 (b.toNat : Int)).toNat : Nat) : Int) = _
  have e1 : (IntKind.u64.wrap ((n : Int) * 2 ^ (min 8 64))) = ((n * 256 % 18446744073709551616 : Nat) : Int) := by
    rw [wrap_u64]
    have : (2 : Int) ^ (min 8 64) = 256 := by decide
    rw [this]
    omega
  rw [e1]
  simp only [BitVec.ofInt_natCast, BitVec.toNat_or, BitVec.toNat_ofNat]
  have h1 : n * 256 % 18446744073709551616 % 2 ^ 64 = (n % 72057594037927936) <<< 8 := by
    rw [Nat.shiftLeft_eq]; omega
  have h2 : b.toNat % 2 ^ 64 = b.toNat := by omega
  rw [h1, h2, ← Nat.shiftLeft_add_eq_or_of_lt (by omega), wrap_u64, Nat.shiftLeft_eq]
  omega
def RV (H : AHeap) (r bv : Nat) (v : Value) (l : List UInt8) : Prop :=
  (v = .slice none 0 0 ∧ l = [] ∧ bv = r) ∨ ∃ o c rm, v = slc bv o l.length l.length ∧ H.get bv = some (.cells true rm 1 c 5) ∧ bv ≠ r ∧ c.drop o = cellsOf l ∧ o ≤ c.length
def RS (H : AHeap) (r bv : Nat) (l : List UInt8) (bad : Bool) : Prop := ∃ v, H.get r = some (.cells true false 2 [v, .bool bad] 171) ∧ RV H r bv v l
theorem RV.bs {H : AHeap} {r bv : Nat} {v : Value} {l : List UInt8} (h : RV H r bv v l) : BS H v l := by
  rcases h with ⟨rfl, rfl, rfl⟩ | ⟨o, c, rm, rfl, h1, h2, h3, h4⟩
  · exact BS.nil H
  · refine ⟨⟨_, _, rfl⟩, ?_⟩
    have hl := congrArg List.length h3
    rw [List.length_drop, cellsOf_length] at hl
    simp only [elemsA, slc, h1]
    rw [if_pos (by omega), h3, List.take_of_length_le (by rw [cellsOf_length]; omega)]
theorem RV.chg {H H' : AHeap} {r bv : Nat} {v : Value} {l : List UInt8} {S : List Nat} (h : RV H r bv v l) (k : Chg S H H') (hS : bv ∉ S) : RV H' r bv v l := by
  rcases h with ⟨rfl, rfl, rfl⟩ | ⟨o, c, rm, rfl, h1, h2, h3, h4⟩
  · exact .inl ⟨rfl, rfl, rfl⟩
  · exact .inr ⟨o, c, rm, rfl, k.at_ h1 hS, h2, h3, h4⟩
theorem RS.chg {H H' : AHeap} {r bv : Nat} {l : List UInt8} {bad : Bool} {S : List Nat} (h : RS H r bv l bad) (k : Chg S H H') (h1 : r ∉ S) (h2 : bv ∉ S) : RS H' r bv l bad := by
  obtain ⟨v, a1, a2⟩ := h
  exact ⟨v, k.at_ a1 h1, a2.chg k h2⟩
theorem RS.lt {H : AHeap} {r bv : Nat} {l : List UInt8} {bad : Bool} (h : RS H r bv l bad) : r < H.n ∧ bv < H.n := by
  obtain ⟨v, a1, a2⟩ := h
  refine ⟨AHeap.get_lt a1, ?_⟩
  rcases a2 with ⟨_, _, rfl⟩ | ⟨o, c, rm, _, h1, _⟩
  · exact AHeap.get_lt a1
  · exact AHeap.get_lt h1
theorem t96 {H : AHeap} {x : Value} {l : List UInt8} (hx : BS H x l) (hl : l.length ≤ 1000000000) : ∃ v H', ARun Go.Proofs.Try.prog 0 96 [x] H v H' ∧ ∃ r bv, v = ptr r 0 ∧ RS H' r bv l false ∧ H.n ≤ r ∧ H.n ≤ bv ∧ Keeps H H' := by
  refine walk f96_ok f96_n ?_
  obtain ⟨v, H1, r31, p1, p2, p3⟩ := t73 hx hl
  simp only [f96, initFr, ↓reduceIte, RD_nil, RD_cons, RD_consg, W_dreg, obl_nil, Nat.reduceAdd, Nat.add_zero, Nat.zero_add, Nat.mul_one, Int.toNat_natCast, W_skip, W_reg, W_seq, W_cond, W_block, W_exit, W_ret, getD_nil', RW_nil, RW_cons, RW_consg, AOp.map, AX_fr, AX_tm, AX_c, AX_fn, AX_g, D_no, D_no', D_tm, D_tm', D_fr, D_fr', List.getD_cons_zero, List.getD_cons_succ, List.set_cons_zero, List.set_cons_succ, List.map_cons, List.map_nil, Option.map_some, Option.map_none, wantA, beq_self_eq_true, if_true, Bool.false_eq_true, if_false, Bool.not_true, Bool.not_false, s_mov, s_pick, s_new, s_box, s_build, s_bslice, s_load1, s_loadn, s_nilck, s_bin, s_eqv, s_not, s_neg, s_i2i, s_s2s, s_s2b, s_iface, s_mkfn, s_faddr, s_fld1, s_iaddr, s_idxs, s_assert, s_extract, s_len, s_lens, s_lenc, s_callf, resO0, resO1, resO2, resO3, List.getElem?_cons_zero, List.getElem?_cons_succ, Nat.reduceEqDiff, true_and, and_true, false_and, e_sn, e_ss, e_pn, e_ps, e_bb, fill0, fill1, b_add, b_sub, b_mul, b_eql, b_neq, b_lss, b_leq, b_gtr, b_geq, b_and, b_or, b_xor, b_seql, b_sneq, b_slss, AQ.andThen, AQ.inBlock, Option.some.injEq, exists_eq_left', exists_eq_left, reduceCtorEq, Exit.exit.injEq]
  refine ⟨_, _, r31, ?_⟩
  obtain ⟨a, ha⟩ := p1.shape
  have hf : fillA [.slice none 0 0, .bool false] [(0, 1, v)] = some [v, .bool false] := by rw [ha]; rfl
  refine ⟨_, hf, ?_⟩
  simp only [↓reduceIte, RD_nil, RD_cons, RD_consg, W_dreg, obl_nil, Nat.reduceAdd, Nat.add_zero, Nat.zero_add, Nat.mul_one, Int.toNat_natCast, W_skip, W_reg, W_seq, W_cond, W_block, W_exit, W_ret, getD_nil', RW_nil, RW_cons, RW_consg, AOp.map, AX_fr, AX_tm, AX_c, AX_fn, AX_g, D_no, D_no', D_tm, D_tm', D_fr, D_fr', List.getD_cons_zero, List.getD_cons_succ, List.set_cons_zero, List.set_cons_succ, List.map_cons, List.map_nil, Option.map_some, Option.map_none, wantA, beq_self_eq_true, if_true, Bool.false_eq_true, if_false, Bool.not_true, Bool.not_false, s_mov, s_pick, s_new, s_box, s_build, s_bslice, s_load1, s_loadn, s_nilck, s_bin, s_eqv, s_not, s_neg, s_i2i, s_s2s, s_s2b, s_iface, s_mkfn, s_faddr, s_fld1, s_iaddr, s_idxs, s_assert, s_extract, s_len, s_lens, s_lenc, s_callf, resO0, resO1, resO2, resO3, List.getElem?_cons_zero, List.getElem?_cons_succ, Nat.reduceEqDiff, true_and, and_true, false_and, e_sn, e_ss, e_pn, e_ps, e_bb, fill0, fill1, b_add, b_sub, b_mul, b_eql, b_neq, b_lss, b_leq, b_gtr, b_geq, b_and, b_or, b_xor, b_seql, b_sneq, b_slss, AQ.andThen, AQ.inBlock, Option.some.injEq, exists_eq_left', exists_eq_left, reduceCtorEq, Exit.exit.injEq, Value.cells]
  refine ⟨by rw [ha]; rfl, H1.n, ?_⟩
  have hK := (Keeps.refl H1).alloc (.cells true false 2 [v, .bool false] 171)
  have hg := AHeap.get_alloc_new H1 (.cells true false 2 [v, .bool false] 171)
  rcases p1 with ⟨rfl, h2, h3⟩ | ⟨b, room, rfl, h1, h2⟩
  · have hl0 : l = [] := List.length_eq_zero_iff.1 h2
    subst hl0
    exact ⟨H1.n, rfl, ⟨_, hg, .inl ⟨rfl, rfl, rfl⟩⟩, p2.n, p2.n, p2.trans hK⟩
  · have hb := AHeap.get_lt h2
    exact ⟨b, rfl, ⟨_, hg, .inr ⟨0, _, room, rfl, hK.at_ h2, by omega, by rw [List.drop_zero], by omega⟩⟩, p2.n, p3 b rfl, p2.trans hK⟩
def TK (H H' : AHeap) (r bv : Nat) (l : List UInt8) (n : Nat) (v : Value) : Prop :=
  Chg [r] H H' ∧ ((v = .slice none 0 0 ∧ l = [] ∧ n = 0 ∧ bv = r ∧ H'.get r = some (.cells true false 2 [.slice none 0 0, .bool false] 171)) ∨
    ∃ o c rm, v = slc bv o n n ∧ H'.get r = some (.cells true false 2 [slc bv (o + n) (l.length - n) (l.length - n), .bool false] 171) ∧ H'.get bv = some (.cells true rm 1 c 5) ∧ bv ≠ r ∧ c.drop o = cellsOf l ∧ o + n ≤ c.length)
theorem TK.rs {H H' : AHeap} {r bv : Nat} {l : List UInt8} {n : Nat} {v : Value} (h : TK H H' r bv l n v) : RS H' r bv (l.drop n) false := by
  obtain ⟨_, ⟨rfl, rfl, rfl, rfl, h1⟩ | ⟨o, c, rm, rfl, h1, h2, h3, h4, h5⟩⟩ := h
  · exact ⟨_, h1, .inl ⟨rfl, rfl, rfl⟩⟩
  · refine ⟨_, h1, .inr ⟨o + n, c, rm, by rw [List.length_drop], h2, h3, ?_, h5⟩⟩
    rw [← List.drop_drop, h4]
    simp [cellsOf, List.map_drop]
theorem TK.bs {H H' : AHeap} {r bv : Nat} {l : List UInt8} {n : Nat} {v : Value} (h : TK H H' r bv l n v) (hn : n ≤ l.length) : BS H' v (l.take n) := by
  obtain ⟨_, ⟨rfl, rfl, rfl, rfl, h1⟩ | ⟨o, c, rm, rfl, h1, h2, h3, h4, h5⟩⟩ := h
  · exact BS.nil H'
  · refine ⟨⟨some ⟨bv, o, none⟩, n, by rw [List.length_take, Nat.min_eq_left hn]; rfl⟩, ?_⟩
    simp only [elemsA, slc, h2, Nat.mul_one]
    rw [if_pos h5, h4]
    simp [cellsOf, List.map_take]
theorem t103 {H : AHeap} {r bv : Nat} {l : List UInt8} {bad : Bool} (h : RS H r bv l bad) (n : Int) (hl : l.length ≤ 1000000000) :
    ∃ v H', ARun Go.Proofs.Try.prog 0 103 [ptr r 0, .int .i64 n] H v H' ∧ if bad = true ∨ n < 0 ∨ (l.length : Int) < n then v = .slice none 0 0 ∧ RS H' r r [] true ∧ Chg [r] H H' else TK H H' r bv l n.toNat v := by
  refine walk2 f103_ok f103_n ?_
  intro Q hq1 hq2
  obtain ⟨v, h1, h2⟩ := h
  obtain ⟨a, k, hsh⟩ := h2.bs.sh
  have hrn := AHeap.get_lt h1
  have e1 : ∀ x : Value, (H.set r (.cells true false 2 [x, .bool bad] 171)).get r = some (.cells true false 2 [x, .bool bad] 171) := fun x => AHeap.get_set_same h1 _
  have fail : RS ((H.set r (.cells true false 2 [.slice none 0 0, .bool bad] 171)).set r (.cells true false 2 [.slice none 0 0, .bool true] 171)) r r [] true ∧ Chg [r] H ((H.set r (.cells true false 2 [.slice none 0 0, .bool bad] 171)).set r (.cells true false 2 [.slice none 0 0, .bool true] 171)) :=
    ⟨⟨_, AHeap.get_set_same (e1 _) _, .inl ⟨rfl, rfl, rfl⟩⟩, (Chg.set H hrn _).trans (Chg.set (H.set r _) hrn _) (fun x hx => .inl hx)⟩
  by_cases hbad : bad = true
  · subst hbad
    simp only [f103, W_block, ANs, AOp.map, ↓reduceIte, Nat.reduceAdd, Nat.reduceEqDiff, reduceCtorEq, initFr, Nat.reduceLT, ANc, cellA_of h1, a_st h1, a_st (e1 _)]
    refine hq2 _ _ ⟨_, rfl, ?_⟩
    rw [if_pos (.inl rfl)]
    exact ⟨rfl, fail⟩
  · have hb0 : bad = false := by simpa using hbad
    subst hb0
    by_cases hn : n < 0
    · simp only [f103, W_block, ANs, AOp.map, ↓reduceIte, Nat.reduceAdd, Nat.reduceEqDiff, reduceCtorEq, initFr, Nat.reduceLT, ANc, cellA_of h1, hn, decide_true, a_st h1, a_st (e1 _)]
      refine hq2 _ _ ⟨_, rfl, ?_⟩
      rw [if_pos (.inr (.inl hn))]
      exact ⟨rfl, fail⟩
    · by_cases hn2 : (l.length : Int) < n
      · subst hsh
        simp only [f103, W_block, ANs, AOp.map, ↓reduceIte, Nat.reduceAdd, Nat.reduceEqDiff, reduceCtorEq, initFr, Nat.reduceLT, ANc, cellA_of h1, hn, decide_true, decide_false, hn2, a_st h1, a_st (e1 _)]
        refine hq2 _ _ ⟨_, rfl, ?_⟩
        rw [if_pos (.inr (.inr hn2))]
        exact ⟨rfl, fail⟩
      · obtain ⟨m, rfl⟩ : ∃ m : Nat, n = m := ⟨n.toNat, by omega⟩
        have hm : m ≤ l.length := by omega
        rcases h2 with ⟨rfl, rfl, rfl⟩ | ⟨o, c, rm, rfl, g1, g2, g3, g4⟩
        · have hm0 : m = 0 := by simpa using hm
          have z1 : ∀ k : IntKind, bndA (some (.int k (m : Int))) 0 0 = some 0 := fun k => by rw [hm0]; exact bnd_some k 0 0 0 (Nat.le_refl _)
          have hn3 : ¬ (((0 : Nat) : Int) < (m : Int)) := by omega
          simp only [f103, W_block, ANs, AOp.map, ↓reduceIte, Nat.reduceAdd, Nat.reduceEqDiff, reduceCtorEq, initFr, Nat.reduceLT, ANc, cellA_of h1, hn, decide_true, decide_false, hn3, a_slsl_nil ⟨0, 0, 0, z1 .i64, z1 .i64, bnd_none 0 0⟩, a_slsl_nil ⟨0, 0, 0, bnd_none 0 0, bnd_none 0 0, z1 .i64⟩, a_st h1]
          refine hq2 _ _ ⟨_, rfl, ?_⟩
          rw [if_neg (by simp; omega)]
          exact ⟨Chg.set H hrn _, .inl ⟨rfl, rfl, hm0, rfl, AHeap.get_set_same h1 _⟩⟩
        · simp only [f103, W_block, ANs, AOp.map, ↓reduceIte, Nat.reduceAdd, Nat.reduceEqDiff, reduceCtorEq, initFr, Nat.reduceLT, ANc, cellA_of h1, hn, decide_true, decide_false, hn2, a_slsl g1 (bnd_some .i64 m l.length l.length hm) (bnd_some .i64 m l.length m (Nat.le_refl _)) (bnd_none 0 m),
            a_slsl g1 (bnd_none l.length l.length) (bnd_none l.length l.length) (bnd_some .i64 m 0 l.length hm), a_st h1, Nat.sub_zero, Nat.zero_mul]
          refine hq2 _ _ ⟨_, rfl, ?_⟩
          rw [if_neg (by simp; omega)]
          exact ⟨Chg.set H hrn _, .inr ⟨o, c, rm, rfl, AHeap.get_set_same h1 _, by rw [AHeap.get_set_other H g2 hrn]; exact g1, g2, g3, by
            have hl := congrArg List.length g3
            rw [List.length_drop, cellsOf_length] at hl
            simp only [Int.toNat_natCast]; omega⟩⟩
def failB (l : List UInt8) (bad : Bool) (n : Int) : Prop := bad = true ∨ n < 0 ∨ (l.length : Int) < n
instance (l : List UInt8) (bad : Bool) (n : Int) : Decidable (failB l bad n) := by unfold failB; infer_instance
def gotL (l : List UInt8) (bad : Bool) (n : Int) : List UInt8 := if failB l bad n then [] else l.take n.toNat
def restL (l : List UInt8) (bad : Bool) (n : Int) : List UInt8 := if failB l bad n then [] else l.drop n.toNat
def badB (l : List UInt8) (bad : Bool) (n : Int) : Bool := decide (failB l bad n)
def Aft (H H' : AHeap) (r bv : Nat) (l : List UInt8) (bad : Bool) (n : Int) : Prop := ∃ bv', RS H' r bv' (restL l bad n) (badB l bad n) ∧ (bv' = bv ∨ bv' = r)
theorem t103' {H : AHeap} {r bv : Nat} {l : List UInt8} {bad : Bool} (h : RS H r bv l bad) (n : Int) (hl : l.length ≤ 1000000000) :
    ∃ v H', ARun Go.Proofs.Try.prog 0 103 [ptr r 0, .int .i64 n] H v H' ∧ BS H' v (gotL l bad n) ∧ Aft H H' r bv l bad n ∧ Chg [r] H H' ∧ ((v = .slice none 0 0 ∧ gotL l bad n = []) ∨ (¬ failB l bad n ∧ TK H H' r bv l n.toNat v)) := by
  obtain ⟨v, H', q, p⟩ := t103 h n hl
  refine ⟨v, H', q, ?_⟩
  by_cases hf : failB l bad n
  · rw [if_pos (show bad = true ∨ n < 0 ∨ (l.length : Int) < n from hf)] at p
    obtain ⟨rfl, p1, p2⟩ := p
    have hb : badB l bad n = true := by simp [badB, hf]
    refine ⟨by simp only [gotL, hf, if_true]; exact BS.nil H', ⟨r, by rw [hb]; simp only [restL, hf, if_true]; exact p1, .inr rfl⟩, p2, .inl ⟨rfl, by simp [gotL, hf]⟩⟩
  · rw [if_neg (show ¬ (bad = true ∨ n < 0 ∨ (l.length : Int) < n) from hf)] at p
    have hb : badB l bad n = false := by simp [badB, hf]
    have hn : n.toNat ≤ l.length := by unfold failB at hf; omega
    refine ⟨by simp only [gotL, hf, if_false]; exact p.bs hn, ⟨bv, by rw [hb]; simp only [restL, hf, if_false]; exact p.rs, .inl rfl⟩, p.1, .inr ⟨hf, p⟩⟩
def tyR (k : Nat) : Nat := if k = 0 then 5 else if k = 1 then 111 else if k = 2 then 25 else 24
def kdR (k : Nat) : IntKind := if k = 0 then .u8 else if k = 1 then .u16 else if k = 2 then .u32 else .u64
theorem fold_le : ∀ (l : List UInt8) (a : Nat), l.foldl (fun n b => (n * 256 + b.toNat) % 18446744073709551616) a + 1 ≤ a * 256 ^ l.length + 256 ^ l.length
  | [], a => by simp
  | b :: l, a => by
    have h := fold_le l ((a * 256 + b.toNat) % 18446744073709551616)
    have hb := b.toNat_lt
    have h1 : (a * 256 + b.toNat) % 18446744073709551616 ≤ a * 256 + 255 := Nat.le_trans (Nat.mod_le _ _) (by omega)
    have h2 : ((a * 256 + b.toNat) % 18446744073709551616) * 256 ^ l.length ≤ (a * 256 + 255) * 256 ^ l.length := Nat.mul_le_mul_right _ h1
    simp only [List.foldl_cons, List.length_cons, Nat.pow_succ]
    have h3 : (a * 256 + 255) * 256 ^ l.length + 256 ^ l.length = a * (256 ^ l.length * 256) + 256 ^ l.length * 256 := by
      rw [Nat.add_mul, Nat.mul_assoc, Nat.mul_comm 256 (256 ^ l.length)]; omega
    omega
theorem num_lt' (l : List UInt8) : num l < 256 ^ l.length := by
  have := fold_le l 0
  unfold num
  omega
theorem t110 {H : AHeap} {x : Value} {l : List UInt8} (hx : BS H x l) (k : Nat) (hk : k < 4) (hl : l.length ≤ 2 ^ k) : ∃ v H', ARun Go.Proofs.Try.prog 0 110 [x, .int .i64 ((2 ^ k : Nat) : Int)] H v H' ∧ v = .iface (tyR k) (.int (kdR k) (num l)) ∧ H' = H := by
  refine walk2 f110_ok f110_n ?_
  intro Q hq1 hq2
  obtain ⟨a, kk, hsh⟩ := hx.sh
  have hp8 : 2 ^ k ≤ 8 := by
    have c0 : k = 0 ∨ k = 1 ∨ k = 2 ∨ k = 3 := by omega
    rcases c0 with rfl | rfl | rfl | rfl <;> decide
  rw [hsh]
  simp only [f110, W_block, ANs, AOp.map, ↓reduceIte, Nat.reduceAdd, Nat.reduceEqDiff, reduceCtorEq, initFr, Nat.reduceLT, ANc]
  refine W_loop2 (fun q fr H1 => ∃ (i : Nat) (z y : Value), fr = [.slice a l.length kk, .int .i64 ((2 ^ k : Nat) : Int), .nilIface, .int .u64 (num (l.take i)), y, .slice a l.length kk, .int .i64 l.length, .int .i64 i, z, undef, undef, undef, undef] ∧ i ≤ l.length ∧ q = l.length - i ∧ H1 = H) l.length ?_ ?_
  · exact ⟨0, undef, undef, by simp [num], by omega, by omega, rfl⟩
  · rintro Q' q fr H1 ⟨i, z, y, rfl, h1, rfl, rfl⟩ hnext hexit hret
    by_cases hi : i < l.length
    · obtain ⟨b, o, kc, hs, hc⟩ := hx.split (fun e => by subst e; simp at hi)
      rw [hsh] at hs
      have e1 : ((l[i].toNat : Int) % 18446744073709551616) = (l[i].toNat : Int) := by have := l[i].toNat_lt; omega
      rw [hs]
      simp only [W_block, ANs, AOp.map, ↓reduceIte, Nat.reduceAdd, Nat.reduceEqDiff, reduceCtorEq, initFr, Nat.reduceLT, ANc, show (i : Int) < (l.length : Int) by omega, decide_true, show (0 : Int) ≤ (i : Int) by omega, hc i hi, b_shl _ _ _ _ (show (0 : Int) ≤ 8 by omega), wrap_u64 ((l[i].toNat : Int)), show Int.toNat 8 = 8 from rfl, e1, or_byte, ← num_append, wrap_succ (n := i) (by omega)]
      refine hnext _ _ _ ⟨i + 1, _, _, by rw [List.take_succ_eq_append_getElem hi, hs], by omega, rfl, rfl⟩ (by omega)
    · simp only [W_block, ANs, AOp.map, ↓reduceIte, Nat.reduceAdd, Nat.reduceEqDiff, reduceCtorEq, initFr, Nat.reduceLT, ANc, show ¬ (i : Int) < (l.length : Int) by omega, decide_false]
      refine hexit _ _ _ ?_
      have hnum := num_lt' l
      rw [List.take_of_length_le (by omega)]
      have hpw : 256 ^ l.length ≤ 256 ^ (2 ^ k) := Nat.pow_le_pow_right (by omega) hl
      have c0 : k = 0 ∨ k = 1 ∨ k = 2 ∨ k = 3 := by omega
      rcases c0 with rfl | rfl | rfl | rfl
      · simp only [W_block, ANs, AOp.map, ↓reduceIte, Nat.reduceAdd, Nat.reduceEqDiff, reduceCtorEq, initFr, Nat.reduceLT, ANc, show ((((2 ^ 0 : Nat) : Int)) == 1) = true by decide]
        refine hq2 _ _ ⟨_, rfl, ?_, rfl⟩
        rw [wrap_u8, Int.emod_eq_of_lt (by omega) (by omega)]
        rfl
      · simp only [W_block, ANs, AOp.map, ↓reduceIte, Nat.reduceAdd, Nat.reduceEqDiff, reduceCtorEq, initFr, Nat.reduceLT, ANc, show ((((2 ^ 1 : Nat) : Int)) == 1) = false by decide, show ((((2 ^ 1 : Nat) : Int)) == 2) = true by decide]
        refine hq2 _ _ ⟨_, rfl, ?_, rfl⟩
        rw [wrap_u16, Int.emod_eq_of_lt (by omega) (by omega)]
        rfl
      · simp only [W_block, ANs, AOp.map, ↓reduceIte, Nat.reduceAdd, Nat.reduceEqDiff, reduceCtorEq, initFr, Nat.reduceLT, ANc, show ((((2 ^ 2 : Nat) : Int)) == 1) = false by decide, show ((((2 ^ 2 : Nat) : Int)) == 2) = false by decide, show ((((2 ^ 2 : Nat) : Int)) == 4) = true by decide]
        refine hq2 _ _ ⟨_, rfl, ?_, rfl⟩
        rw [wrap_u32, Int.emod_eq_of_lt (by omega) (by omega)]
        rfl
      · simp only [W_block, ANs, AOp.map, ↓reduceIte, Nat.reduceAdd, Nat.reduceEqDiff, reduceCtorEq, initFr, Nat.reduceLT, ANc, show ((((2 ^ 3 : Nat) : Int)) == 1) = false by decide, show ((((2 ^ 3 : Nat) : Int)) == 2) = false by decide, show ((((2 ^ 3 : Nat) : Int)) == 4) = false by decide]
        exact hq2 _ _ ⟨_, rfl, rfl, rfl⟩
theorem got_le (l : List UInt8) (bad : Bool) (n : Int) : ((gotL l bad n).length : Int) ≤ max n 0 := by
  unfold gotL
  split
  · simp; omega
  · rw [List.length_take]; omega
theorem t98 {H : AHeap} {r bv : Nat} {l : List UInt8} {bad : Bool} (h : RS H r bv l bad) (k : Nat) (hk : k < 4) (hl : l.length ≤ 1000000000) :
    ∃ v H', ARun Go.Proofs.Try.prog 0 98 [ptr r 0, .int .i64 ((2 ^ k : Nat) : Int)] H v H' ∧ v = .iface (tyR k) (.int (kdR k) (num (gotL l bad ((2 ^ k : Nat) : Int)))) ∧ Aft H H' r bv l bad ((2 ^ k : Nat) : Int) ∧ Chg [r] H H' := by
  refine walk2 f98_ok f98_n ?_
  intro Q hq1 hq2
  obtain ⟨v, H1, r1, p1, p2, p3, _⟩ := t103' h ((2 ^ k : Nat) : Int) hl
  simp only [f98, W_block, ANs, AOp.map, ↓reduceIte, Nat.reduceAdd, Nat.reduceEqDiff, reduceCtorEq, initFr, Nat.reduceLT, ANc]
  refine ⟨_, _, r1, ?_⟩
  simp only [W_block, ANs, AOp.map, ↓reduceIte, Nat.reduceAdd, Nat.reduceEqDiff, reduceCtorEq, initFr, Nat.reduceLT, ANc]
  have hle := got_le l bad ((2 ^ k : Nat) : Int)
  rw [Int.max_eq_left (Int.natCast_nonneg _)] at hle
  obtain ⟨v2, H2, r2, rfl, rfl⟩ := t110 p1 k hk (Int.ofNat_le.1 hle)
  refine ⟨_, _, r2, ?_⟩
  simp only [W_block, ANs, AOp.map, ↓reduceIte, Nat.reduceAdd, Nat.reduceEqDiff, reduceCtorEq, initFr, Nat.reduceLT, ANc]
  exact hq2 _ _ ⟨_, rfl, rfl, p2, p3⟩
theorem t63 {H : AHeap} {r bv : Nat} {l : List UInt8} {bad : Bool} (h : RS H r bv l bad) (hl : l.length ≤ 1000000000) :
    ∃ v H', ARun Go.Proofs.Try.prog 0 63 [ptr r 0] H v H' ∧ v = .int .u8 (num (gotL l bad 1)) ∧ Aft H H' r bv l bad 1 ∧ Chg [r] H H' := by
  refine walk2 f63_ok f63_n ?_
  intro Q hq1 hq2
  obtain ⟨v, H1, r1, rfl, p2, p3⟩ := t98 h 0 (by omega) hl
  simp only [f63, W_block, ANs, AOp.map, ↓reduceIte, Nat.reduceAdd, Nat.reduceEqDiff, reduceCtorEq, initFr, Nat.reduceLT, ANc]
  refine ⟨_, _, r1, ?_⟩
  simp only [W_block, ANs, AOp.map, ↓reduceIte, Nat.reduceAdd, Nat.reduceEqDiff, reduceCtorEq, initFr, Nat.reduceLT, ANc, tyR, kdR]
  exact hq2 _ _ ⟨_, rfl, rfl, p2, p3⟩
theorem t75 {H : AHeap} {r bv : Nat} {l : List UInt8} {bad : Bool} (h : RS H r bv l bad) (hl : l.length ≤ 1000000000) :
    ∃ v H', ARun Go.Proofs.Try.prog 0 75 [ptr r 0] H v H' ∧ v = .int .u16 (num (gotL l bad 2)) ∧ Aft H H' r bv l bad 2 ∧ Chg [r] H H' := by
  refine walk2 f75_ok f75_n ?_
  intro Q hq1 hq2
  obtain ⟨v, H1, r1, rfl, p2, p3⟩ := t98 h 1 (by omega) hl
  simp only [f75, W_block, ANs, AOp.map, ↓reduceIte, Nat.reduceAdd, Nat.reduceEqDiff, reduceCtorEq, initFr, Nat.reduceLT, ANc]
  refine ⟨_, _, r1, ?_⟩
  simp only [W_block, ANs, AOp.map, ↓reduceIte, Nat.reduceAdd, Nat.reduceEqDiff, reduceCtorEq, initFr, Nat.reduceLT, ANc, tyR, kdR]
  exact hq2 _ _ ⟨_, rfl, rfl, p2, p3⟩
theorem t65 {H : AHeap} {r bv : Nat} {l : List UInt8} {bad : Bool} (h : RS H r bv l bad) (hl : l.length ≤ 1000000000) :
    ∃ v H', ARun Go.Proofs.Try.prog 0 65 [ptr r 0] H v H' ∧ v = .int .u32 (num (gotL l bad 4)) ∧ Aft H H' r bv l bad 4 ∧ Chg [r] H H' := by
  refine walk2 f65_ok f65_n ?_
  intro Q hq1 hq2
  obtain ⟨v, H1, r1, rfl, p2, p3⟩ := t98 h 2 (by omega) hl
  simp only [f65, W_block, ANs, AOp.map, ↓reduceIte, Nat.reduceAdd, Nat.reduceEqDiff, reduceCtorEq, initFr, Nat.reduceLT, ANc]
  refine ⟨_, _, r1, ?_⟩
  simp only [W_block, ANs, AOp.map, ↓reduceIte, Nat.reduceAdd, Nat.reduceEqDiff, reduceCtorEq, initFr, Nat.reduceLT, ANc, tyR, kdR]
  exact hq2 _ _ ⟨_, rfl, rfl, p2, p3⟩
theorem t64 {H : AHeap} {r bv : Nat} {l : List UInt8} {bad : Bool} (h : RS H r bv l bad) (hl : l.length ≤ 1000000000) :
    ∃ v H', ARun Go.Proofs.Try.prog 0 64 [ptr r 0] H v H' ∧ v = .int .u64 (num (gotL l bad 8)) ∧ Aft H H' r bv l bad 8 ∧ Chg [r] H H' := by
  refine walk2 f64_ok f64_n ?_
  intro Q hq1 hq2
  obtain ⟨v, H1, r1, rfl, p2, p3⟩ := t98 h 3 (by omega) hl
  simp only [f64, W_block, ANs, AOp.map, ↓reduceIte, Nat.reduceAdd, Nat.reduceEqDiff, reduceCtorEq, initFr, Nat.reduceLT, ANc]
  refine ⟨_, _, r1, ?_⟩
  simp only [W_block, ANs, AOp.map, ↓reduceIte, Nat.reduceAdd, Nat.reduceEqDiff, reduceCtorEq, initFr, Nat.reduceLT, ANc, tyR, kdR]
  exact hq2 _ _ ⟨_, rfl, rfl, p2, p3⟩
theorem t74 {H : AHeap} {r bv : Nat} {l : List UInt8} {bad : Bool} (h : RS H r bv l bad) (n : Int) (hl : l.length ≤ 1000000000) :
    ∃ v H', ARun Go.Proofs.Try.prog 0 74 [ptr r 0, .int .i64 n] H v H' ∧ BS H' v (gotL l bad n) ∧ Aft H H' r bv l bad n ∧ Chg [r] H H' ∧ ((v = .slice none 0 0 ∧ gotL l bad n = []) ∨ (¬ failB l bad n ∧ TK H H' r bv l n.toNat v)) := by
  refine walk2 f74_ok f74_n ?_
  intro Q hq1 hq2
  obtain ⟨v, H1, r1, p⟩ := t103' h n hl
  simp only [f74, W_block, ANs, AOp.map, ↓reduceIte, Nat.reduceAdd, Nat.reduceEqDiff, reduceCtorEq, initFr, Nat.reduceLT, ANc]
  refine ⟨_, _, r1, ?_⟩
  simp only [W_block, ANs, AOp.map, ↓reduceIte, Nat.reduceAdd, Nat.reduceEqDiff, reduceCtorEq, initFr, Nat.reduceLT, ANc]
  exact hq2 _ _ ⟨_, rfl, p⟩
theorem t99 {H : AHeap} {r bv : Nat} {l : List UInt8} {bad : Bool} (h : RS H r bv l bad) : ∃ v H', ARun Go.Proofs.Try.prog 0 99 [ptr r 0] H v H' ∧ v = .bool bad ∧ H' = H := by
  refine walk2 f99_ok f99_n ?_
  intro Q hq1 hq2
  obtain ⟨v, h1, h2⟩ := h
  simp only [f99, W_block, ANs, AOp.map, ↓reduceIte, Nat.reduceAdd, Nat.reduceEqDiff, reduceCtorEq, initFr, Nat.reduceLT, ANc, cellA_of h1]
  exact hq2 _ _ ⟨_, rfl, rfl, rfl⟩
theorem t100 {H : AHeap} {r bv : Nat} {l : List UInt8} {bad : Bool} (h : RS H r bv l bad) : ∃ v H', ARun Go.Proofs.Try.prog 0 100 [ptr r 0] H v H' ∧ v = .int .i64 l.length ∧ H' = H := by
  refine walk2 f100_ok f100_n ?_
  intro Q hq1 hq2
  obtain ⟨v, h1, h2⟩ := h
  obtain ⟨a, k, rfl⟩ := h2.bs.sh
  simp only [f100, W_block, ANs, AOp.map, ↓reduceIte, Nat.reduceAdd, Nat.reduceEqDiff, reduceCtorEq, initFr, Nat.reduceLT, ANc, cellA_of h1]
  exact hq2 _ _ ⟨_, rfl, rfl, rfl⟩
end Go.AM.Fd

set_option linter.unusedSimpArgs false
set_option linter.unusedVariables false
namespace Go.AM
theorem ofI (n a : Nat) : BitVec.ofInt n (a : Int) = BitVec.ofNat n a := BitVec.ofInt_natCast ..
theorem bv_xor (n a b : Nat) : (BitVec.ofInt n (a : Int) ^^^ BitVec.ofInt n (b : Int)).toNat = (a ^^^ b) % 2 ^ n := by
  rw [ofI, ofI, BitVec.toNat_xor, BitVec.toNat_ofNat, BitVec.toNat_ofNat, Nat.xor_mod_two_pow]
theorem bv_and (n a b : Nat) : (BitVec.ofInt n (a : Int) &&& BitVec.ofInt n (b : Int)).toNat = (a &&& b) % 2 ^ n := by
  rw [ofI, ofI, BitVec.toNat_and, BitVec.toNat_ofNat, BitVec.toNat_ofNat, Nat.and_mod_two_pow]
def uk (k : IntKind) : Bool := !k.signed
theorem wrapU {k : IntKind} (h : uk k = true) (n : Nat) (hn : n < 2 ^ k.bits) : k.wrap (n : Int) = n := by
  cases k <;> simp [uk, IntKind.signed] at h <;> simp [IntKind.wrap, IntKind.bits, IntKind.signed] at hn ⊢ <;> omega
theorem w_xor {k : IntKind} (hk : uk k = true) {a b : Nat} (ha : a < 2 ^ k.bits) (hb : b < 2 ^ k.bits) : k.wrap ((BitVec.ofInt k.bits (a : Int) ^^^ BitVec.ofInt k.bits (b : Int)).toNat : Int) = ((a ^^^ b : Nat) : Int) := by
  rw [bv_xor, Nat.mod_eq_of_lt (Nat.xor_lt_two_pow ha hb), wrapU hk _ (Nat.xor_lt_two_pow ha hb)]
theorem w_and {k : IntKind} (hk : uk k = true) {a b : Nat} (ha : a < 2 ^ k.bits) : k.wrap ((BitVec.ofInt k.bits (a : Int) &&& BitVec.ofInt k.bits (b : Int)).toNat : Int) = ((a &&& b : Nat) : Int) := by
  have : a &&& b < 2 ^ k.bits := Nat.lt_of_le_of_lt Nat.and_le_left ha
  rw [bv_and, Nat.mod_eq_of_lt this, wrapU hk _ this]
theorem w_xor32 {a b : Nat} (ha : a < 4294967296) (hb : b < 4294967296) : IntKind.u32.wrap ((BitVec.ofInt IntKind.u32.bits (a : Int) ^^^ BitVec.ofInt IntKind.u32.bits (b : Int)).toNat : Int) = ((a ^^^ b : Nat) : Int) := w_xor (k := .u32) rfl ha hb
theorem w_and1 {k : IntKind} (hk : uk k = true) {a : Nat} (ha : a < 2 ^ k.bits) : k.wrap ((BitVec.ofInt k.bits (a : Int) &&& BitVec.ofInt k.bits 1).toNat : Int) = ((a % 2 : Nat) : Int) := by
  have := w_and hk (b := 1) ha
  rw [Nat.and_one_is_mod] at this; exact this
theorem b_shrN {k k' : IntKind} {n s : Nat} (h : s ≤ k.bits) : binA .shr (.int k (n : Int)) (.int k' (s : Int)) = some (.int k ((n / 2 ^ s : Nat) : Int)) := by
  rw [b_shr _ _ _ _ (Int.natCast_nonneg s), Int.toNat_natCast, Nat.min_eq_left h, Int.fdiv_eq_ediv_of_nonneg _ (Int.le_of_lt (Int.pow_pos (by omega)))]
  simp
theorem a_uxor {H : AHeap} {k : IntKind} {n : Int} : asem (.un .xor (.int k n)) H = some (.int k (k.wrap (BitVec.ofInt k.bits (if k.signed then -1 else k.max) ^^^ BitVec.ofInt k.bits n).toNat), H) := _root_.id rfl
def BQ (H : AHeap) (v : Value) (l : List UInt8) : Prop :=
  (v = .slice none 0 0 ∧ l = []) ∨ (∃ b o z, v = .slice (some ⟨b, o, some z⟩) 0 0 ∧ l = []) ∨
    ∃ b o k own room esz c e, v = slc b o l.length k ∧ l.length ≤ k ∧ H.get b = some (.cells own room esz c e) ∧ (esz = 1 ∨ room = false) ∧ (c.drop o).take l.length = cellsOf l ∧ o + l.length ≤ c.length
theorem BQ.bs {H : AHeap} {v : Value} {l : List UInt8} (h : BQ H v l) : BS H v l := by
  rcases h with ⟨rfl, rfl⟩ | ⟨b, o, z, rfl, rfl⟩ | ⟨b, o, k, own, room, esz, c, e, rfl, h1, h2, h3, h4, h5⟩
  · exact BS.nil H
  · exact ⟨⟨_, _, rfl⟩, by simp [elemsA, cellsOf]⟩
  · refine ⟨⟨_, _, rfl⟩, ?_⟩
    simp only [elemsA, slc, h2, Nat.mul_one]
    rw [if_pos h5, h4]
def tb : Value → List Nat
  | .slice (some ⟨b, _, none⟩) _ _ => [b]
  | _ => []
theorem BQ.tbl {H : AHeap} {v : Value} {l : List UInt8} (h : BQ H v l) : ∀ b ∈ tb v, b < H.n := by
  rcases h with ⟨rfl, rfl⟩ | ⟨b, o, z, rfl, rfl⟩ | ⟨b, o, k, own, room, esz, c, e, rfl, h1, h2, h3, h4, h5⟩
  · simp [tb]
  · simp [tb]
  · intro x hx; simp [tb, slc] at hx; subst hx; exact AHeap.get_lt h2
theorem BQ.chg {H H' : AHeap} {v : Value} {l : List UInt8} {S : List Nat} (h : BQ H v l) (k : Chg S H H') (hS : ∀ b ∈ tb v, b ∉ S) : BQ H' v l := by
  rcases h with h | h | ⟨b, o, kk, own, room, esz, c, e, rfl, h1, h2, h3, h4, h5⟩
  · exact .inl h
  · exact .inr (.inl h)
  · exact .inr (.inr ⟨b, o, kk, own, room, esz, c, e, rfl, h1, k.at_ h2 (hS b (by simp [tb, slc])), h3, h4, h5⟩)
theorem touch_sl (s : Nat) (v : Value) (a b c : Option Value) (X : AHeap) : touchA (.slsl s v a b c) X = tb v := by
  unfold touchA
  have : clsA (.slsl s v a b c) = 1 := rfl
  rw [if_pos this]
  cases v <;> try rfl
  rename_i a n k
  cases a with
  | none => rfl
  | some a =>
    obtain ⟨b, o, z⟩ := a
    cases z <;> rfl
theorem tb_older {v : Value} {H : AHeap} (h : ∀ b ∈ tb v, b < H.n) : olderB (tb v) H := by
  unfold tb at *
  split
  · exact ⟨h _ (by simp), trivial⟩
  · trivial
theorem tb_keeps {v : Value} {S : List Nat} {H H' : AHeap} (h : ∀ b ∈ tb v, b < H.n ∧ b ∉ S) (k : Chg S H H') : keepsB (tb v) H H' := by
  unfold tb at *
  split
  · rename_i b _ _ _
    have := h b (by simp)
    exact ⟨k.get _ this.1 this.2, trivial⟩
  · trivial
theorem BQ.keeps {H H' : AHeap} {v : Value} {l : List UInt8} (h : BQ H v l) (k : Keeps H H') : BQ H' v l := h.chg (k.chg []) (by simp)
theorem AP.bq {H : AHeap} {e : Nat} {v : Value} {n : Nat} {l : List UInt8} (h : AP H e 1 v n (cellsOf l)) : BQ H v l := by
  rcases h with ⟨rfl, rfl, h2⟩ | ⟨b, room, rfl, h1, h2⟩
  · have := congrArg List.length h2
    rw [cellsOf_length] at this
    exact .inl ⟨rfl, List.length_eq_zero_iff.1 this⟩
  · rw [cellsOf_length, Nat.mul_one] at h1
    subst h1
    exact .inr (.inr ⟨b, 0, l.length, true, room, 1, _, e, rfl, Nat.le_refl _, h2, .inl rfl, by rw [List.drop_zero, List.take_of_length_le (by rw [cellsOf_length]; omega)], by rw [cellsOf_length]; omega⟩)
theorem BQ.cut {H : AHeap} {v : Value} {l : List UInt8} (h : BQ H v l) {lo hi : Option Value} {i j : Nat} (hij : i ≤ j) (hj : j ≤ l.length) (h1 : ∀ k, l.length ≤ k → bndA hi l.length k = some j) (h2 : bndA lo 0 j = some i) :
    ∃ w, asem (.slsl 1 v lo hi none) H = some (w, H) ∧ BQ H w ((l.drop i).take (j - i)) := by
  rcases h with ⟨rfl, rfl⟩ | ⟨b, o, z, rfl, rfl⟩ | ⟨b, o, k, own, room, esz, c, e, rfl, p1, p2, p3, p4, p5⟩
  · have hj0 : j = 0 := by simpa using hj
    have hi0 : i = 0 := by omega
    subst hj0; subst hi0
    exact ⟨_, a_slsl_nil ⟨0, 0, 0, bnd_none 0 0, h1 0 (Nat.le_refl _), h2⟩, .inl ⟨rfl, rfl⟩⟩
  · have hj0 : j = 0 := by simpa using hj
    have hi0 : i = 0 := by omega
    subst hj0; subst hi0
    refine ⟨.slice (some ⟨b, o, some z⟩) 0 0, ?_, .inr (.inl ⟨b, o, z, rfl, rfl⟩)⟩
    have := h1 0 (Nat.le_refl _)
    simp only [List.length_nil] at this
    simp only [asem, bnd_none, this, h2]
    simp
  · refine ⟨slc b (o + i) (j - i) (k - i), ?_, ?_⟩
    · have := h1 k p1
      simp only [asem, slc, bnd_none, this, h2, p2, Nat.mul_one]
      rw [if_pos p3]
    · have hl : ((l.drop i).take (j - i)).length = j - i := by rw [List.length_take, List.length_drop]; omega
      refine .inr (.inr ⟨b, o + i, k - i, own, room, esz, c, e, by rw [hl], by rw [hl]; omega, p2, p3, ?_, by rw [hl]; omega⟩)
      rw [hl]
      have e1 : cellsOf ((l.drop i).take (j - i)) = ((cellsOf l).drop i).take (j - i) := by simp [cellsOf, List.map_take, List.map_drop]
      rw [e1, ← p4, ← List.drop_drop, List.drop_take, List.take_take]
      congr 1
      omega
theorem BQ.from_ {H : AHeap} {v : Value} {l : List UInt8} (h : BQ H v l) {k : IntKind} (i : Nat) (hi : i ≤ l.length) : ∃ w, asem (.slsl 1 v (some (.int k (i : Nat))) none none) H = some (w, H) ∧ BQ H w (l.drop i) := by
  obtain ⟨w, h1, h2⟩ := h.cut (hi := none) (lo := some (.int k (i : Nat))) (i := i) (j := l.length) hi (Nat.le_refl _) (fun _ _ => bnd_none _ _) (bnd_some k i 0 l.length hi)
  exact ⟨w, h1, by rwa [List.take_of_length_le (by rw [List.length_drop]; omega)] at h2⟩
theorem BQ.to_ {H : AHeap} {v : Value} {l : List UInt8} (h : BQ H v l) {k : IntKind} (j : Nat) (hj : j ≤ l.length) : ∃ w, asem (.slsl 1 v none (some (.int k (j : Nat))) none) H = some (w, H) ∧ BQ H w (l.take j) := by
  obtain ⟨w, h1, h2⟩ := h.cut (hi := some (.int k (j : Nat))) (lo := none) (i := 0) (j := j) (by omega) hj (fun m hm => bnd_some k j l.length m (by omega)) (bnd_none 0 j)
  exact ⟨w, h1, by simpa using h2⟩
theorem BQ.mid {H : AHeap} {v : Value} {l : List UInt8} (h : BQ H v l) {k k' : IntKind} (i j : Nat) (hi : i ≤ j) (hj : j ≤ l.length) : ∃ w, asem (.slsl 1 v (some (.int k (i : Nat))) (some (.int k' (j : Nat))) none) H = some (w, H) ∧ BQ H w ((l.drop i).take (j - i)) :=
  h.cut (hi := some (.int k' (j : Nat))) (lo := some (.int k (i : Nat))) hi hj (fun m hm => bnd_some k' j l.length m (by omega)) (bnd_some k i 0 j hi)
theorem AR.bq {P : Program} {t e : Nat} {H : AHeap} {v : Value} (hu : P.underlying t = some (.slice e)) (hu5 : P.underlying e = some (.int .u8)) (hz : P.cellsOf e = 1) (h : AR P H.get t [v]) : ∃ l, BQ H v l := by
  rcases h.slice_inv hu with h2 | ⟨x, hx, h2⟩ | ⟨b, n, k, c, u, h2, h3, h4, h5, h6, h7, h8⟩
  · cases h2; exact ⟨[], .inl ⟨rfl, rfl⟩⟩
  · cases h2
    obtain ⟨b, o, s⟩ := x
    cases s with
    | none => simp at hx
    | some s => exact ⟨[], .inr (.inl ⟨_, _, _, rfl, rfl⟩)⟩
  · cases h2
    obtain ⟨l, rfl⟩ := AR.bytes hu5 hz k c h7 h8
    rw [cellsOf_length, hz] at h7
    rw [hz] at h6
    have hl : (l.take n).length = n := by rw [List.length_take]; omega
    exact ⟨l.take n, .inr (.inr ⟨b, 0, k, false, false, 1, _, _, by rw [hl], by rw [hl]; exact h4, h6, .inr rfl, by rw [hl]; simp [cellsOf, List.map_take], by rw [hl, cellsOf_length]; omega⟩)⟩
theorem el_tbl {H : AHeap} {esz : Nat} {v : Value} {l : List Value} (h : elemsA H esz v = some l) : ∀ b ∈ tb v, b < H.n := by
  intro b hb
  unfold tb at hb
  split at hb
  · rename_i x o n k
    simp only [List.mem_singleton] at hb; subst hb
    simp only [elemsA] at h
    cases hg : H.get b with
    | none => rw [hg] at h; cases h
    | some ob => exact AHeap.get_lt hg
  · cases hb
theorem el_get {H H' : AHeap} {esz : Nat} {v : Value} {l : List Value} (h : elemsA H esz v = some l) (k : ∀ b ∈ tb v, b < H.n → H'.get b = H.get b) : elemsA H' esz v = some l := by
  have ht := el_tbl h
  unfold elemsA at h ⊢
  split
  · exact h
  · rename_i b o n k2
    have hb : b ∈ tb (.slice (some ⟨b, o, none⟩) n k2) := by simp [tb]
    rw [k b hb (ht b hb)]; exact h
  · exact h
  · simp at h
theorem Sl.tbl {H : AHeap} {esz : Nat} {v : Value} {rows : List (List Value)} (h : Sl H esz v rows) : ∀ b ∈ tb v, b < H.n := el_tbl h.el
theorem Sl.chgT {H H' : AHeap} {esz : Nat} {v : Value} {rows : List (List Value)} {S : List Nat} (h : Sl H esz v rows) (k : Chg S H H') (hS : ∀ b ∈ tb v, b ∉ S) : Sl H' esz v rows :=
  ⟨h.sh, h.row, el_get h.el fun b hb hn => k.get b hn (hS b hb)⟩
theorem BS.tbl {H : AHeap} {v : Value} {l : List UInt8} (h : BS H v l) : ∀ b ∈ tb v, b < H.n := el_tbl h.el
theorem BS.chgT {H H' : AHeap} {v : Value} {l : List UInt8} {S : List Nat} (h : BS H v l) (k : Chg S H H') (hS : ∀ b ∈ tb v, b ∉ S) : BS H' v l :=
  ⟨h.sh, el_get h.el fun b hb hn => k.get b hn (hS b hb)⟩
theorem resCT {H : AHeap} (n i j : Nat) (fr : List Value) : resO [.cn n i, .t j] fr H = (celln n (fr.getD i undef) H).map fun c => .tuple #[c, fr.getD j undef] := by
  simp only [resO, resVs, RX.get]
  cases celln n (fr.getD i undef) H <;> rfl
theorem Chg1.tr {r : Nat} {A B C : AHeap} (h : Chg [r] A B) (k : Chg [r] B C) : Chg [r] A C := h.trans k (fun x hx => .inl hx)
theorem tb_blk {v : Value} {b : Nat} (h : b ∈ tb v) : blk v = some b := by
  unfold tb at h
  split at h
  · simp only [List.mem_singleton] at h; subst h; rfl
  · cases h
theorem Fresh.tb {n : Nat} {v : Value} (h : Fresh n v) : ∀ b ∈ Go.AM.tb v, n ≤ b := fun b hb => h b (tb_blk hb)
end Go.AM

set_option linter.unusedSimpArgs false
set_option linter.unusedVariables false
namespace Go.AM.Fd
open Nat (reduceAdd reduceEqDiff reduceLT reduceLeDiff reduceMul reduceSub)
open Go.Proofs Go.AM.F
def DV : Nat := 3988292384
def ah (r : Nat) : Nat := if r % 2 = 1 then r / 2 ^^^ DV else r / 2
def ei : Nat → Nat → Nat
  | 0, r => r
  | n + 1, r => ei n (ah r)
def crcS (r : Nat) (c : UInt8) : Nat := ei 8 (r ^^^ c.toNat)
def crcL (l : List UInt8) : Nat := l.foldl crcS 4294967295
def crc (l : List UInt8) : Nat := 4294967295 ^^^ crcL l
theorem ah_lt {r : Nat} (h : r < 4294967296) : ah r < 4294967296 := by
  unfold ah
  split
  · exact Nat.xor_lt_two_pow (n := 32) (by omega) (by decide)
  · omega
theorem ei_lt : ∀ n {r : Nat}, r < 4294967296 → ei n r < 4294967296
  | 0, _, h => h
  | n + 1, _, h => ei_lt n (ah_lt h)
theorem xc_lt {r : Nat} (h : r < 4294967296) (c : UInt8) : r ^^^ c.toNat < 4294967296 := Nat.xor_lt_two_pow (n := 32) (by omega) (by have := c.toNat_lt; omega)
theorem crcS_lt {r : Nat} (h : r < 4294967296) (c : UInt8) : crcS r c < 4294967296 := ei_lt 8 (xc_lt h c)
theorem fold_lt : ∀ (l : List UInt8) {r : Nat}, r < 4294967296 → l.foldl crcS r < 4294967296
  | [], _, h => h
  | c :: l, _, h => fold_lt l (crcS_lt h c)
theorem crcL_lt (l : List UInt8) : crcL l < 4294967296 := fold_lt l (by decide)
theorem crc_lt (l : List UInt8) : crc l < 4294967296 := Nat.xor_lt_two_pow (n := 32) (by decide) (crcL_lt l)
theorem t109 (r : Nat) (hr : r < 4294967296) (H : AHeap) : ∃ v H', ARun Go.Proofs.Try.prog 0 109 [.int .u32 r] H v H' ∧ v = .int .u32 (ah r) ∧ H' = H := by
  refine walk2 f109_ok f109_n ?_
  intro Q hq1 hq2
  have h1 : IntKind.u32.wrap ((BitVec.ofInt IntKind.u32.bits (r : Int) &&& BitVec.ofInt IntKind.u32.bits 1).toNat : Int) = ((r % 2 : Nat) : Int) := w_and1 (k := .u32) rfl hr
  have h2 : binA .shr (.int .u32 (r : Int)) (.int .u64 1) = some (.int .u32 ((r / 2 : Nat) : Int)) := b_shrN (k := .u32) (k' := .u64) (n := r) (s := 1) (by decide)
  have h3 : IntKind.u32.wrap ((BitVec.ofInt IntKind.u32.bits ((r / 2 : Nat) : Int) ^^^ BitVec.ofInt IntKind.u32.bits 3988292384).toNat : Int) = ((r / 2 ^^^ DV : Nat) : Int) := w_xor32 (b := DV) (by omega) (by decide)
  by_cases h : r % 2 = 1
  · have h4 : (0 : Int) < ((r % 2 : Nat) : Int) := by omega
    simp (disch := first | assumption | omega | (simp only [LN] <;> omega) | (simp (disch := first | assumption | omega | (simp only [LN] <;> omega)) only [row_alloc, row_set]; assumption)) only [f109, W_block, P3, ↓reduceIte, reduceAdd, reduceEqDiff, reduceCtorEq, initFr, reduceLT, clsA, reduceLeDiff, reduceMul, reduceSub, reduceIte, h1, h2, h3, h4]
    exact hq2 _ _ ⟨_, rfl, by rw [ah, if_pos h]; rfl, rfl⟩
  · have h4 : ¬ (0 : Int) < ((r % 2 : Nat) : Int) := by omega
    simp (disch := first | assumption | omega | (simp only [LN] <;> omega) | (simp (disch := first | assumption | omega | (simp only [LN] <;> omega)) only [row_alloc, row_set]; assumption)) only [f109, W_block, P3, ↓reduceIte, reduceAdd, reduceEqDiff, reduceCtorEq, initFr, reduceLT, clsA, reduceLeDiff, reduceMul, reduceSub, reduceIte, h1, h2, h3, h4]
    exact hq2 _ _ ⟨_, rfl, by rw [ah, if_neg h]; rfl, rfl⟩
theorem t108 (r : Nat) (hr : r < 4294967296) (H : AHeap) : ∃ v H', ARun Go.Proofs.Try.prog 0 108 [.int .u32 r, .func (.func 109) #[] #[]] H v H' ∧ v = .int .u32 (ei 8 r) ∧ H' = H := by
  refine walk2 f108_ok f108_n ?_
  intro Q hq1 hq2
  simp (disch := first | assumption | omega | (simp only [LN] <;> omega) | (simp (disch := first | assumption | omega | (simp only [LN] <;> omega)) only [row_alloc, row_set]; assumption)) only [f108, W_block, P3, ↓reduceIte, reduceAdd, reduceEqDiff, reduceCtorEq, initFr, reduceLT, clsA, reduceLeDiff, reduceMul, reduceSub, reduceIte]
  refine W_loop2 (fun q fr K => K = H ∧ ∃ (i s : Nat) (a : Value), i ≤ 8 ∧ q = 8 - i ∧ s < 4294967296 ∧ ei (8 - i) s = ei 8 r ∧ fr = [.int .u32 s, .func (.func 109) #[] #[], .int .u32 0, .int .i64 i, a]) 8 ⟨rfl, 0, r, undef, by omega, rfl, hr, rfl, rfl⟩ ?_
  rintro Q' q fr K ⟨rfl, i, s, a, hi, rfl, hs, he8, rfl⟩ hn he hrt
  by_cases hc : i < 8
  · simp (disch := first | assumption | omega | (simp only [LN] <;> omega) | (simp (disch := first | assumption | omega | (simp only [LN] <;> omega)) only [row_alloc, row_set]; assumption)) only [W_block, P3, ↓reduceIte, reduceAdd, reduceEqDiff, reduceCtorEq, initFr, reduceLT, clsA, reduceLeDiff, reduceMul, reduceSub, reduceIte]
    refine callK (t109 s hs K) ?_
    rintro _ _ ⟨rfl, rfl⟩
    simp (disch := first | assumption | omega | (simp only [LN] <;> omega) | (simp (disch := first | assumption | omega | (simp only [LN] <;> omega)) only [row_alloc, row_set]; assumption)) only [W_block, P3, ↓reduceIte, reduceAdd, reduceEqDiff, reduceCtorEq, initFr, reduceLT, clsA, reduceLeDiff, reduceMul, reduceSub, reduceIte, wrap_succ (n := i) (by omega)]
    refine hn _ _ _ ⟨rfl, i + 1, ah s, _, by omega, rfl, ah_lt hs, ?_, rfl⟩ (by omega)
    rw [← he8, show 8 - i = (8 - (i + 1)) + 1 by omega]; rfl
  · obtain rfl : i = 8 := by omega
    simp (disch := first | assumption | omega | (simp only [LN] <;> omega) | (simp (disch := first | assumption | omega | (simp only [LN] <;> omega)) only [row_alloc, row_set]; assumption)) only [W_block, P3, ↓reduceIte, reduceAdd, reduceEqDiff, reduceCtorEq, initFr, reduceLT, clsA, reduceLeDiff, reduceMul, reduceSub, reduceIte]
    refine he _ _ _ ?_
    simp (disch := first | assumption | omega | (simp only [LN] <;> omega) | (simp (disch := first | assumption | omega | (simp only [LN] <;> omega)) only [row_alloc, row_set]; assumption)) only [W_block, P3, ↓reduceIte, reduceAdd, reduceEqDiff, reduceCtorEq, initFr, reduceLT, clsA, reduceLeDiff, reduceMul, reduceSub, reduceIte]
    exact hq2 _ _ ⟨_, rfl, by rw [← he8]; rfl, rfl⟩
theorem t97 {H : AHeap} {x : Value} {l : List UInt8} (hx : BS H x l) (hl : l.length ≤ 1000000000) : ∃ v H', ARun Go.Proofs.Try.prog 0 97 [x] H v H' ∧ v = .int .u32 (crc l) ∧ H' = H := by
  refine walk2 f97_ok f97_n ?_
  intro Q hq1 hq2
  have hs := hx.sl
  have his := hs.is
  have hlen := hs.len
  rw [List.length_map] at hlen
  simp (disch := first | assumption | omega | (simp only [LN] <;> omega) | (simp (disch := first | assumption | omega | (simp only [LN] <;> omega)) only [row_alloc, row_set]; assumption)) only [f97, W_block, P3, ↓reduceIte, reduceAdd, reduceEqDiff, reduceCtorEq, initFr, reduceLT, clsA, reduceLeDiff, reduceMul, reduceSub, reduceIte, hlen]
  refine W_loop2 (fun q fr K => K = H ∧ ∃ (i : Nat) (y a : Value), i ≤ l.length ∧ q = l.length - i ∧ fr = [x, .int .u32 0, .int .u32 ((l.take i).foldl crcS 4294967295 : Nat), y, x, .int .i64 l.length, .int .i64 i, a]) l.length ⟨rfl, 0, undef, undef, by omega, rfl, rfl⟩ ?_
  rintro Q' q fr K ⟨rfl, i, y, a, hi, rfl, rfl⟩ hn he hrt
  have hr := fold_lt (l.take i) (r := 4294967295) (by decide)
  generalize hR : (l.take i).foldl crcS 4294967295 = R at hr ⊢
  by_cases hc : i < l.length
  · obtain ⟨hnn, hrow⟩ := hs.at_ (by omega) (i := i) (by simpa using hc)
    rw [List.getElem_map] at hrow
    have hw : IntKind.u32.wrap (l[i].toNat : Int) = l[i].toNat := by rw [wrap_u32]; have := l[i].toNat_lt; omega
    have hw2 := w_xor32 (a := R) (b := l[i].toNat) hr (by have := l[i].toNat_lt; omega)
    simp (disch := first | assumption | omega | (simp only [LN] <;> omega) | (simp (disch := first | assumption | omega | (simp only [LN] <;> omega)) only [row_alloc, row_set]; assumption)) only [W_block, P3, ↓reduceIte, reduceAdd, reduceEqDiff, reduceCtorEq, initFr, reduceLT, clsA, reduceLeDiff, reduceMul, reduceSub, reduceIte, hlen, hw, hw2]
    refine callK (t108 _ (xc_lt hr l[i]) K) ?_
    rintro _ _ ⟨rfl, rfl⟩
    simp (disch := first | assumption | omega | (simp only [LN] <;> omega) | (simp (disch := first | assumption | omega | (simp only [LN] <;> omega)) only [row_alloc, row_set]; assumption)) only [W_block, P3, ↓reduceIte, reduceAdd, reduceEqDiff, reduceCtorEq, initFr, reduceLT, clsA, reduceLeDiff, reduceMul, reduceSub, reduceIte, wrap_succ (n := i) (by omega)]
    refine hn _ _ _ ⟨rfl, i + 1, .int .u8 l[i].toNat, .bool true, by omega, rfl, ?_⟩ (by omega)
    rw [List.take_succ_eq_append_getElem hc, List.foldl_append, hR]
    rfl
  · simp (disch := first | assumption | omega | (simp only [LN] <;> omega) | (simp (disch := first | assumption | omega | (simp only [LN] <;> omega)) only [row_alloc, row_set]; assumption)) only [W_block, P3, ↓reduceIte, reduceAdd, reduceEqDiff, reduceCtorEq, initFr, reduceLT, clsA, reduceLeDiff, reduceMul, reduceSub, reduceIte]
    refine he _ _ _ ?_
    have hw2 := w_xor32 (a := 4294967295) (b := R) (by decide) hr
    simp (disch := first | assumption | omega | (simp only [LN] <;> omega) | (simp (disch := first | assumption | omega | (simp only [LN] <;> omega)) only [row_alloc, row_set]; assumption)) only [W_block, P3, ↓reduceIte, reduceAdd, reduceEqDiff, reduceCtorEq, initFr, reduceLT, clsA, reduceLeDiff, reduceMul, reduceSub, reduceIte, a_uxor]
    rw [List.take_of_length_le (by omega)] at hR
    exact hq2 _ _ ⟨_, rfl, by unfold crc crcL; rw [hR, ← hw2]; rfl, rfl⟩
def TB : List Nat := [1996959894, 3993919788, 124634137, 249268274, 498536548, 997073096, 1994146192, 3988292384]
def tt (x k : Nat) : Nat := if x / 2 ^ k % 2 = 1 then TB.getD k 0 else 0
end Go.AM.Fd

set_option linter.unusedSimpArgs false
set_option linter.unusedVariables false
namespace Go.AM.Fd
open Go.Proofs Go.AM.F
def val : List UInt8 → Nat
  | [] => 0
  | c :: l => c.toNat * 256 ^ l.length + val l
theorem val_lt : ∀ l, val l < 256 ^ l.length
  | [] => by simp [val]
  | c :: l => by
    have h1 := val_lt l
    have h2 := c.toNat_lt
    have h3 : c.toNat * 256 ^ l.length ≤ 255 * 256 ^ l.length := Nat.mul_le_mul_right _ (by omega)
    simp only [val, List.length_cons, Nat.pow_succ]
    omega
theorem fold_val : ∀ (l : List UInt8) (a : Nat), (a + 1) * 256 ^ l.length ≤ 18446744073709551616 → l.foldl (fun n b => (n * 256 + b.toNat) % 18446744073709551616) a = a * 256 ^ l.length + val l
  | [], a, h => by simp [val]
  | c :: l, a, h => by
    have h2 := c.toNat_lt
    have hp : 0 < 256 ^ l.length := Nat.pow_pos (by omega)
    rw [List.length_cons, Nat.pow_succ, Nat.mul_comm (256 ^ l.length), ← Nat.mul_assoc] at h
    have h3 : (a * 256 + c.toNat + 1) * 256 ^ l.length ≤ (a + 1) * 256 * 256 ^ l.length := Nat.mul_le_mul_right _ (by omega)
    have h4 : (a * 256 + c.toNat + 1) * 1 ≤ (a * 256 + c.toNat + 1) * 256 ^ l.length := Nat.mul_le_mul_left _ hp
    rw [List.foldl_cons, Nat.mod_eq_of_lt (by omega), fold_val l _ (by omega)]
    simp only [val, List.length_cons, Nat.pow_succ]
    rw [Nat.add_mul, Nat.mul_assoc a, Nat.mul_comm 256]
    omega
theorem num_val {l : List UInt8} (h : l.length ≤ 8) : num l = val l := by
  unfold num
  rw [fold_val l 0 ?_]
  · omega
  · have : 256 ^ l.length ≤ 256 ^ 8 := Nat.pow_le_pow_right (by omega) h
    have e : (256 : Nat) ^ 8 = 18446744073709551616 := by decide
    omega
theorem val_be : ∀ w n, val (be w n) = n % 256 ^ w
  | 0, n => by simp [be, val, Nat.mod_one]
  | w + 1, n => by
    have e1 : n % 256 ^ (w + 1) = (n / 256 ^ w % 256) * 256 ^ w + n % 256 ^ w := by
      rw [Nat.pow_succ, Nat.mod_mul, Nat.mul_comm (256 ^ w), Nat.add_comm]
    have e3 : (UInt8.ofNat (n / 256 ^ w)).toNat = n / 256 ^ w % 256 := by simp
    rw [be, val, be_length, val_be w, e3, e1]
theorem be_val : ∀ l : List UInt8, be l.length (val l) = l
  | [] => rfl
  | c :: l => by
    have h := val_lt l
    have hp : 0 < 256 ^ l.length := Nat.pow_pos (by omega)
    rw [List.length_cons, be, val]
    have e1 : (c.toNat * 256 ^ l.length + val l) / 256 ^ l.length = c.toNat := by
      rw [Nat.add_comm, Nat.add_mul_div_right _ _ hp, Nat.div_eq_of_lt h, Nat.zero_add]
    have e2 : be l.length (c.toNat * 256 ^ l.length + val l) = be l.length (val l) := by
      rw [← be_mod _ (c.toNat * 256 ^ l.length + val l) l.length (Nat.le_refl _), Nat.add_comm, Nat.add_mul_mod_self_right, Nat.mod_eq_of_lt h]
    rw [e1, e2, be_val l]
    simp
theorem num_be (w n : Nat) (h : w ≤ 8) : num (be w n) = n % 256 ^ w := by rw [num_val (by rw [be_length]; exact h), val_be]
theorem be_num (l : List UInt8) (h : l.length ≤ 8) : be l.length (num l) = l := by rw [num_val h, be_val]
def seg (l : List UInt8) (s w : Nat) : List UInt8 := if l.length < s + w then [] else (l.drop s).take w
def na (l : List UInt8) (s w : Nat) : Nat := num (seg l s w)
theorem na_lt (l : List UInt8) (s w : Nat) : na l s w < 256 ^ w := by
  unfold na
  have h1 := num_lt' (seg l s w)
  have h2 : (seg l s w).length ≤ w := by
    unfold seg
    split
    · simp
    · rw [List.length_take]; omega
  exact Nat.lt_of_lt_of_le h1 (Nat.pow_le_pow_right (by omega) h2)
theorem na1 (l : List UInt8) (s : Nat) : na l s 1 < 256 := na_lt l s 1
theorem na2 (l : List UInt8) (s : Nat) : na l s 2 < 65536 := na_lt l s 2
theorem na8 (l : List UInt8) (s : Nat) : na l s 8 < 18446744073709551616 := na_lt l s 8
theorem be_na {l : List UInt8} {s w : Nat} (h : s + w ≤ l.length) (hw : w ≤ 8) : be w (na l s w) = (l.drop s).take w := by
  unfold na seg
  rw [if_neg (by omega)]
  have hl : ((l.drop s).take w).length = w := by rw [List.length_take, List.length_drop]; omega
  have := be_num ((l.drop s).take w) (by omega)
  rw [hl] at this
  exact this
theorem seg_in {l : List UInt8} {s w : Nat} (h : s + w ≤ l.length) : seg l s w = (l.drop s).take w := by unfold seg; rw [if_neg (by omega)]
theorem seg_app (p q : List UInt8) {s w : Nat} (h : p.length ≤ s) : seg (p ++ q) s w = seg q (s - p.length) w := by
  unfold seg
  rw [List.length_append, List.drop_append, List.drop_of_length_le h, List.nil_append]
  by_cases h1 : p.length + q.length < s + w
  · rw [if_pos h1, if_pos (by omega)]
  · rw [if_neg h1, if_neg (by omega)]
theorem seg_left (p q : List UInt8) {s w : Nat} (h : s + w ≤ p.length) : seg (p ++ q) s w = seg p s w := by
  unfold seg
  rw [List.length_append, if_neg (by omega), if_neg (by omega), List.drop_append, List.take_append_of_le_length (by rw [List.length_drop]; omega)]
theorem na_be (k n : Nat) (q : List UInt8) {s w : Nat} (h : k ≤ s) : na (be k n ++ q) s w = na q (s - k) w := by
  unfold na
  rw [seg_app _ _ (by rw [be_length]; exact h), be_length]
theorem na_0 (n : Nat) (q : List UInt8) {w : Nat} (hw : w ≤ 8) (hn : n < 256 ^ w) : na (be w n ++ q) 0 w = n := by
  unfold na
  rw [seg_left _ _ (by rw [be_length]; omega), seg_in (by rw [be_length]; omega), List.drop_zero, List.take_of_length_le (by rw [be_length]; omega), num_be w n hw, Nat.mod_eq_of_lt hn]
theorem td (l : List UInt8) {s w t : Nat} (h : t = s + w) : (l.drop s).take w ++ l.drop t = l.drop s := by
  subst h
  rw [← List.drop_drop, List.take_append_drop]
def chk (l : List UInt8) : List UInt8 := l ++ be 4 (crc l)
def bd (b : List UInt8) : List UInt8 := (b.drop 1).take (b.length - 5)
def frm (k : Nat) (b : List UInt8) : Bool := decide (5 ≤ b.length) && (b[0]? == some (UInt8.ofNat k) && num (b.drop (b.length - 4)) == crc (b.take (b.length - 4)))
theorem bd_len (b : List UInt8) : (bd b).length = b.length - 5 := by unfold bd; rw [List.length_take, List.length_drop]; omega
theorem chk_len (l : List UInt8) : (chk l).length = l.length + 4 := by simp [chk, be_length]
theorem bd_chk (k : UInt8) (l : List UInt8) : bd (chk (k :: l)) = l := by
  unfold bd
  rw [chk_len, chk, List.cons_append, List.drop_one, List.tail_cons, List.length_cons, show l.length + 1 + 4 - 5 = l.length by omega, List.take_left]
theorem frm_len {k : Nat} {b : List UInt8} (h : frm k b = true) : 5 ≤ b.length := by
  simp only [frm, Bool.and_eq_true, decide_eq_true_eq] at h; exact h.1
theorem frm_eq {k : Nat} {b : List UInt8} (h : frm k b = true) : b = chk (UInt8.ofNat k :: bd b) := by
  simp only [frm, Bool.and_eq_true, decide_eq_true_eq, beq_iff_eq] at h
  obtain ⟨h1, h2, h3⟩ := h
  cases b with
  | nil => simp at h1
  | cons c b =>
    simp only [List.getElem?_cons_zero, Option.some.injEq] at h2
    subst h2
    have e1 : (UInt8.ofNat k :: bd (UInt8.ofNat k :: b)) = (UInt8.ofNat k :: b).take ((UInt8.ofNat k :: b).length - 4) := by
      unfold bd
      rw [List.drop_one, List.tail_cons, List.length_cons]
      rw [List.length_cons] at h1
      rw [show b.length + 1 - 4 = (b.length + 1 - 5) + 1 by omega, List.take_succ_cons]
    rw [e1]
    unfold chk
    rw [← h3]
    generalize hx : UInt8.ofNat k :: b = x at *
    have hl : (x.drop (x.length - 4)).length = 4 := by rw [List.length_drop]; omega
    have := be_num (x.drop (x.length - 4)) (by omega)
    rw [hl] at this
    rw [this, List.take_append_drop]
theorem frm_chk {k : Nat} (l : List UInt8) : frm k (chk (UInt8.ofNat k :: l)) = true := by
  have hl := chk_len (UInt8.ofNat k :: l)
  rw [List.length_cons] at hl
  simp only [frm, Bool.and_eq_true, decide_eq_true_eq, beq_iff_eq]
  refine ⟨by omega, by simp [chk], ?_⟩
  rw [hl, show l.length + 1 + 4 - 4 = (UInt8.ofNat k :: l).length by simp]
  unfold chk
  rw [List.drop_left, List.take_left, num_be 4 _ (by omega), Nat.mod_eq_of_lt (crc_lt _)]
def sg (n : Nat) : Int := IntKind.i64.wrap n
theorem sg_pos {n : Nat} (hn : n < 18446744073709551616) (h : 0 ≤ sg n) : sg n = n := by
  unfold sg at *
  simp [IntKind.wrap, IntKind.bits, IntKind.signed] at *
  omega
theorem sg_nat {n : Nat} (hn : n < 9223372036854775808) : sg n = n := wrap_i64 (by omega) (by omega)
theorem be_sg {l : List UInt8} {s : Nat} (h : s + 8 ≤ l.length) (h0 : 0 ≤ sg (na l s 8)) : be 8 (sg (na l s 8)).toNat = (l.drop s).take 8 := by
  rw [sg_pos (na8 l s) h0, Int.toNat_natCast, be_na h (by omega)]
structure Li where
  f : Nat
  t : Nat
  q : Int
  k : Int
  B : List UInt8
def Li0 : Li := ⟨0, 0, 0, 0, []⟩
def sqB (n : Int) : Bool := decide (0 ≤ n) && decide (n ≤ 4611686018427387904)
theorem sqB_iff {n : Int} : sqB n = true ↔ 0 ≤ n ∧ n ≤ 4611686018427387904 := by simp [sqB]
def okLi (x : Li) : Bool := sqB x.q && sqB x.k && decide (x.B.length ≤ 2048)
structure rgLi (x : Li) : Prop where
  hf : x.f < 256
  ht : x.t < 256
def enLi (x : Li) : List UInt8 := be 1 x.f ++ (be 1 x.t ++ (be 8 x.q.toNat ++ (be 8 x.k.toNat ++ (be 2 x.B.length ++ x.B))))
def deLi (l : List UInt8) : Li := ⟨na l 0 1, na l 1 1, sg (na l 2 8), sg (na l 10 8), seg l 20 (na l 18 2)⟩
def pdLi (l : List UInt8) : Option Li := if l.length = 20 + na l 18 2 ∧ okLi (deLi l) = true then some (deLi l) else none
theorem enLi_len (x : Li) : (enLi x).length = 20 + x.B.length := by simp [enLi, be_length]; omega
theorem okLi_iff {x : Li} : okLi x = true ↔ (0 ≤ x.q ∧ x.q ≤ 4611686018427387904) ∧ (0 ≤ x.k ∧ x.k ≤ 4611686018427387904) ∧ x.B.length ≤ 2048 := by
  simp only [okLi, Bool.and_eq_true, sqB_iff, decide_eq_true_eq, and_assoc]
theorem deLi_rg (l : List UInt8) : rgLi (deLi l) := ⟨na1 l 0, na1 l 1⟩
theorem pdLi_e {l : List UInt8} {x : Li} (h : pdLi l = some x) : enLi x = l ∧ okLi x = true ∧ rgLi x := by
  unfold pdLi at h
  split at h
  · rename_i hc
    obtain ⟨h1, h2⟩ := hc
    simp only [Option.some.injEq] at h; subst h
    refine ⟨?_, h2, deLi_rg l⟩
    have h3 := okLi_iff.1 h2
    simp only [deLi] at h3
    have hs : seg l 20 (na l 18 2) = l.drop 20 := by rw [seg_in (by omega), List.take_of_length_le (by rw [List.length_drop]; omega)]
    unfold enLi deLi
    simp only
    rw [hs, show (l.drop 20).length = na l 18 2 by rw [List.length_drop]; omega, be_na (by omega) (by omega), be_na (by omega) (by omega), be_sg (by omega) h3.1.1, be_sg (by omega) h3.2.1.1, be_na (by omega) (by omega), td l rfl, td l rfl, td l rfl, td l rfl, td l rfl, List.drop_zero]
  · cases h
theorem pdLi_d {x : Li} (h1 : okLi x = true) (h2 : rgLi x) : pdLi (enLi x) = some x := by
  have h := okLi_iff.1 h1
  have e0 : na (enLi x) 18 2 = x.B.length := by
    unfold enLi
    simp only [na_be, Nat.reduceLeDiff, Nat.reduceSub, Nat.le_refl, Nat.sub_self]
    rw [na_0 _ _ (by omega) (by omega)]
  have e1 : seg (enLi x) 20 x.B.length = x.B := by
    rw [seg_in (by rw [enLi_len]; omega)]
    unfold enLi
    rw [← List.append_assoc, ← List.append_assoc, ← List.append_assoc, ← List.append_assoc, List.drop_append, List.drop_of_length_le (by simp [be_length])]
    simp [be_length]
  have e : deLi (enLi x) = x := by
    unfold deLi
    rw [e0, e1]
    unfold enLi
    simp only [na_be, Nat.reduceLeDiff, Nat.reduceSub, Nat.le_refl, Nat.sub_self]
    rw [na_0 _ _ (by omega) h2.hf, na_0 _ _ (by omega) h2.ht, na_0 _ _ (by omega) (by omega), na_0 _ _ (by omega) (by omega), sg_nat (by omega), sg_nat (by omega), Int.toNat_of_nonneg h.1.1, Int.toNat_of_nonneg h.2.1.1]
  unfold pdLi
  rw [if_pos ⟨by rw [enLi_len, e0], by rw [e]; exact h1⟩, e]
end Go.AM.Fd

set_option linter.unusedSimpArgs false
set_option linter.unusedVariables false
namespace Go.AM.Fd
open Nat (reduceAdd reduceEqDiff reduceLT reduceLeDiff reduceMul reduceSub)
open Go.Proofs Go.AM.F
def RR (H : AHeap) (lo hi r : Nat) (l : List UInt8) (s : Nat) : Prop := lo ≤ r ∧ r < hi ∧ hi ≤ H.n ∧ ∃ bv, lo ≤ bv ∧ bv < hi ∧ RS H r bv (l.drop s) (decide (l.length < s))
theorem RR.keeps {H H' : AHeap} {lo hi r : Nat} {l : List UInt8} {s : Nat} (h : RR H lo hi r l s) (k : Keeps H H') : RR H' lo hi r l s := by
  obtain ⟨h1, h2, h3, bv, h4, h5, h6⟩ := h
  exact ⟨h1, h2, Nat.le_trans h3 k.n, bv, h4, h5, h6.chg (k.chg []) (by simp) (by simp)⟩
theorem RR.chg {H H' : AHeap} {lo hi r b : Nat} {l : List UInt8} {s : Nat} (h : RR H lo hi r l s) (k : Chg [b] H H') (hb : b < lo ∨ hi ≤ b) : RR H' lo hi r l s := by
  obtain ⟨h1, h2, h3, bv, h4, h5, h6⟩ := h
  exact ⟨h1, h2, Nat.le_trans h3 k.n, bv, h4, h5, h6.chg k (by simp; omega) (by simp; omega)⟩
theorem fail_at (l : List UInt8) (s w : Nat) : failB (l.drop s) (decide (l.length < s)) (w : Int) ↔ l.length < s + w := by
  unfold failB
  rw [List.length_drop, decide_eq_true_eq]
  omega
theorem Aft.rr {H H' : AHeap} {r bv lo hi s w : Nat} {l : List UInt8} (h : Aft H H' r bv (l.drop s) (decide (l.length < s)) (w : Int)) (h1 : lo ≤ r) (h2 : r < hi) (h3 : hi ≤ H'.n) (h4 : lo ≤ bv) (h5 : bv < hi) : RR H' lo hi r l (s + w) := by
  obtain ⟨bv', p1, p2⟩ := h
  refine ⟨h1, h2, h3, bv', by omega, by omega, ?_⟩
  have e1 : restL (l.drop s) (decide (l.length < s)) (w : Int) = l.drop (s + w) := by
    unfold restL
    by_cases hf : l.length < s + w
    · rw [if_pos ((fail_at l s w).2 hf), List.drop_of_length_le (by omega)]
    · rw [if_neg (fun h => hf ((fail_at l s w).1 h)), Int.toNat_natCast, List.drop_drop]
  have e2 : badB (l.drop s) (decide (l.length < s)) (w : Int) = decide (l.length < s + w) := by
    unfold badB
    rw [decide_eq_decide, fail_at]
  rw [e1, e2] at p1
  exact p1
theorem gotL_at (l : List UInt8) (s w : Nat) : gotL (l.drop s) (decide (l.length < s)) (w : Int) = seg l s w := by
  unfold gotL seg
  by_cases hf : l.length < s + w
  · rw [if_pos ((fail_at l s w).2 hf), if_pos hf]
  · rw [if_neg (fun h => hf ((fail_at l s w).1 h)), if_neg hf, Int.toNat_natCast]
section
variable {H : AHeap} {lo hi r s : Nat} {l : List UInt8}
theorem q63 (h : RR H lo hi r l s) (hl : l.length ≤ 1000000000) : ∃ v H', ARun Go.Proofs.Try.prog 0 63 [ptr r 0] H v H' ∧ v = .int .u8 (na l s 1 : Nat) ∧ RR H' lo hi r l (s + 1) ∧ Chg [r] H H' := by
  obtain ⟨h1, h2, h3, bv, h4, h5, h6⟩ := h
  obtain ⟨v, H', q, rfl, p1, p2⟩ := t63 h6 (by rw [List.length_drop]; omega)
  exact ⟨_, H', q, by rw [show (1 : Int) = ((1 : Nat) : Int) from rfl, gotL_at]; rfl, Aft.rr p1 h1 h2 (Nat.le_trans h3 p2.n) h4 h5, p2⟩
theorem q75 (h : RR H lo hi r l s) (hl : l.length ≤ 1000000000) : ∃ v H', ARun Go.Proofs.Try.prog 0 75 [ptr r 0] H v H' ∧ v = .int .u16 (na l s 2 : Nat) ∧ RR H' lo hi r l (s + 2) ∧ Chg [r] H H' := by
  obtain ⟨h1, h2, h3, bv, h4, h5, h6⟩ := h
  obtain ⟨v, H', q, rfl, p1, p2⟩ := t75 h6 (by rw [List.length_drop]; omega)
  exact ⟨_, H', q, by rw [show (2 : Int) = ((2 : Nat) : Int) from rfl, gotL_at]; rfl, Aft.rr p1 h1 h2 (Nat.le_trans h3 p2.n) h4 h5, p2⟩
theorem q65 (h : RR H lo hi r l s) (hl : l.length ≤ 1000000000) : ∃ v H', ARun Go.Proofs.Try.prog 0 65 [ptr r 0] H v H' ∧ v = .int .u32 (na l s 4 : Nat) ∧ RR H' lo hi r l (s + 4) ∧ Chg [r] H H' := by
  obtain ⟨h1, h2, h3, bv, h4, h5, h6⟩ := h
  obtain ⟨v, H', q, rfl, p1, p2⟩ := t65 h6 (by rw [List.length_drop]; omega)
  exact ⟨_, H', q, by rw [show (4 : Int) = ((4 : Nat) : Int) from rfl, gotL_at]; rfl, Aft.rr p1 h1 h2 (Nat.le_trans h3 p2.n) h4 h5, p2⟩
theorem q64 (h : RR H lo hi r l s) (hl : l.length ≤ 1000000000) : ∃ v H', ARun Go.Proofs.Try.prog 0 64 [ptr r 0] H v H' ∧ v = .int .u64 (na l s 8 : Nat) ∧ RR H' lo hi r l (s + 8) ∧ Chg [r] H H' := by
  obtain ⟨h1, h2, h3, bv, h4, h5, h6⟩ := h
  obtain ⟨v, H', q, rfl, p1, p2⟩ := t64 h6 (by rw [List.length_drop]; omega)
  exact ⟨_, H', q, by rw [show (8 : Int) = ((8 : Nat) : Int) from rfl, gotL_at]; rfl, Aft.rr p1 h1 h2 (Nat.le_trans h3 p2.n) h4 h5, p2⟩
theorem q74 (h : RR H lo hi r l s) (w : Nat) (hl : l.length ≤ 1000000000) : ∃ v H', ARun Go.Proofs.Try.prog 0 74 [ptr r 0, .int .i64 (w : Nat)] H v H' ∧ BS H' v (seg l s w) ∧ RR H' lo hi r l (s + w) ∧ Chg [r] H H' ∧ (∀ b, blk v = some b → lo ≤ b ∧ b < hi) := by
  obtain ⟨h1, h2, h3, bv, h4, h5, h6⟩ := h
  obtain ⟨v, H', q, p0, p1, p2, p3⟩ := t74 h6 (w : Int) (by rw [List.length_drop]; omega)
  rw [gotL_at] at p0
  refine ⟨_, H', q, p0, Aft.rr p1 h1 h2 (Nat.le_trans h3 p2.n) h4 h5, p2, ?_⟩
  intro b hb
  rcases p3 with ⟨rfl, _⟩ | ⟨_, _, ⟨rfl, _⟩ | ⟨o, c, rm, rfl, _⟩⟩
  · cases hb
  · cases hb
  · cases hb; exact ⟨h4, h5⟩
theorem q99 (h : RR H lo hi r l s) : ∃ v H', ARun Go.Proofs.Try.prog 0 99 [ptr r 0] H v H' ∧ v = .bool (decide (l.length < s)) ∧ H' = H := by
  obtain ⟨h1, h2, h3, bv, h4, h5, h6⟩ := h
  exact t99 h6
theorem q100 (h : RR H lo hi r l s) : ∃ v H', ARun Go.Proofs.Try.prog 0 100 [ptr r 0] H v H' ∧ v = .int .i64 (l.length - s : Nat) ∧ H' = H := by
  obtain ⟨h1, h2, h3, bv, h4, h5, h6⟩ := h
  have := t100 h6
  rwa [List.length_drop] at this
end
theorem n103 (n : Int) (H : AHeap) : ∃ v H', ARun Go.Proofs.Try.prog 0 103 [.pointer none, .int .i64 n] H v H' ∧ v = .slice none 0 0 ∧ H' = H := by
  refine walk2 f103_ok f103_n ?_
  intro Q hq1 hq2
  simp (disch := first | assumption | omega | (simp only [LN] <;> omega) | (simp (disch := first | assumption | omega | (simp only [LN] <;> omega)) only [row_alloc, row_set]; assumption)) only [f103, W_block, P3, ↓reduceIte, reduceAdd, reduceEqDiff, reduceCtorEq, initFr, reduceLT, clsA, reduceLeDiff, reduceMul, reduceSub, reduceIte]
  exact hq2 _ _ ⟨_, rfl, rfl, rfl⟩
theorem n98 (k : Nat) (hk : k < 4) (H : AHeap) : ∃ v H', ARun Go.Proofs.Try.prog 0 98 [.pointer none, .int .i64 ((2 ^ k : Nat) : Int)] H v H' ∧ v = .iface (tyR k) (.int (kdR k) 0) ∧ H' = H := by
  refine walk2 f98_ok f98_n ?_
  intro Q hq1 hq2
  simp (disch := first | assumption | omega | (simp only [LN] <;> omega) | (simp (disch := first | assumption | omega | (simp only [LN] <;> omega)) only [row_alloc, row_set]; assumption)) only [f98, W_block, P3, ↓reduceIte, reduceAdd, reduceEqDiff, reduceCtorEq, initFr, reduceLT, clsA, reduceLeDiff, reduceMul, reduceSub, reduceIte]
  refine callK (n103 _ H) ?_
  rintro _ _ ⟨rfl, rfl⟩
  simp (disch := first | assumption | omega | (simp only [LN] <;> omega) | (simp (disch := first | assumption | omega | (simp only [LN] <;> omega)) only [row_alloc, row_set]; assumption)) only [W_block, P3, ↓reduceIte, reduceAdd, reduceEqDiff, reduceCtorEq, initFr, reduceLT, clsA, reduceLeDiff, reduceMul, reduceSub, reduceIte]
  refine callK (t110 (BS.nil _) k hk (by simp)) ?_
  rintro _ _ ⟨rfl, rfl⟩
  simp (disch := first | assumption | omega | (simp only [LN] <;> omega) | (simp (disch := first | assumption | omega | (simp only [LN] <;> omega)) only [row_alloc, row_set]; assumption)) only [W_block, P3, ↓reduceIte, reduceAdd, reduceEqDiff, reduceCtorEq, initFr, reduceLT, clsA, reduceLeDiff, reduceMul, reduceSub, reduceIte]
  exact hq2 _ _ ⟨_, rfl, rfl, rfl⟩
theorem n63 (H : AHeap) : ∃ v H', ARun Go.Proofs.Try.prog 0 63 [.pointer none] H v H' ∧ v = .int .u8 0 ∧ H' = H := by
  refine walk2 f63_ok f63_n ?_
  intro Q hq1 hq2
  simp (disch := first | assumption | omega | (simp only [LN] <;> omega) | (simp (disch := first | assumption | omega | (simp only [LN] <;> omega)) only [row_alloc, row_set]; assumption)) only [f63, W_block, P3, ↓reduceIte, reduceAdd, reduceEqDiff, reduceCtorEq, initFr, reduceLT, clsA, reduceLeDiff, reduceMul, reduceSub, reduceIte]
  refine callK (n98 0 (by omega) H) ?_
  rintro _ _ ⟨rfl, rfl⟩
  simp (disch := first | assumption | omega | (simp only [LN] <;> omega) | (simp (disch := first | assumption | omega | (simp only [LN] <;> omega)) only [row_alloc, row_set]; assumption)) only [W_block, P3, ↓reduceIte, reduceAdd, reduceEqDiff, reduceCtorEq, initFr, reduceLT, clsA, reduceLeDiff, reduceMul, reduceSub, reduceIte, tyR, kdR]
  exact hq2 _ _ ⟨_, rfl, rfl, rfl⟩
theorem n75 (H : AHeap) : ∃ v H', ARun Go.Proofs.Try.prog 0 75 [.pointer none] H v H' ∧ v = .int .u16 0 ∧ H' = H := by
  refine walk2 f75_ok f75_n ?_
  intro Q hq1 hq2
  simp (disch := first | assumption | omega | (simp only [LN] <;> omega) | (simp (disch := first | assumption | omega | (simp only [LN] <;> omega)) only [row_alloc, row_set]; assumption)) only [f75, W_block, P3, ↓reduceIte, reduceAdd, reduceEqDiff, reduceCtorEq, initFr, reduceLT, clsA, reduceLeDiff, reduceMul, reduceSub, reduceIte]
  refine callK (n98 1 (by omega) H) ?_
  rintro _ _ ⟨rfl, rfl⟩
  simp (disch := first | assumption | omega | (simp only [LN] <;> omega) | (simp (disch := first | assumption | omega | (simp only [LN] <;> omega)) only [row_alloc, row_set]; assumption)) only [W_block, P3, ↓reduceIte, reduceAdd, reduceEqDiff, reduceCtorEq, initFr, reduceLT, clsA, reduceLeDiff, reduceMul, reduceSub, reduceIte, tyR, kdR]
  exact hq2 _ _ ⟨_, rfl, rfl, rfl⟩
theorem n64 (H : AHeap) : ∃ v H', ARun Go.Proofs.Try.prog 0 64 [.pointer none] H v H' ∧ v = .int .u64 0 ∧ H' = H := by
  refine walk2 f64_ok f64_n ?_
  intro Q hq1 hq2
  simp (disch := first | assumption | omega | (simp only [LN] <;> omega) | (simp (disch := first | assumption | omega | (simp only [LN] <;> omega)) only [row_alloc, row_set]; assumption)) only [f64, W_block, P3, ↓reduceIte, reduceAdd, reduceEqDiff, reduceCtorEq, initFr, reduceLT, clsA, reduceLeDiff, reduceMul, reduceSub, reduceIte]
  refine callK (n98 3 (by omega) H) ?_
  rintro _ _ ⟨rfl, rfl⟩
  simp (disch := first | assumption | omega | (simp only [LN] <;> omega) | (simp (disch := first | assumption | omega | (simp only [LN] <;> omega)) only [row_alloc, row_set]; assumption)) only [W_block, P3, ↓reduceIte, reduceAdd, reduceEqDiff, reduceCtorEq, initFr, reduceLT, clsA, reduceLeDiff, reduceMul, reduceSub, reduceIte, tyR, kdR]
  exact hq2 _ _ ⟨_, rfl, rfl, rfl⟩
theorem n74 (n : Int) (H : AHeap) : ∃ v H', ARun Go.Proofs.Try.prog 0 74 [.pointer none, .int .i64 n] H v H' ∧ v = .slice none 0 0 ∧ H' = H := by
  refine walk2 f74_ok f74_n ?_
  intro Q hq1 hq2
  simp (disch := first | assumption | omega | (simp only [LN] <;> omega) | (simp (disch := first | assumption | omega | (simp only [LN] <;> omega)) only [row_alloc, row_set]; assumption)) only [f74, W_block, P3, ↓reduceIte, reduceAdd, reduceEqDiff, reduceCtorEq, initFr, reduceLT, clsA, reduceLeDiff, reduceMul, reduceSub, reduceIte]
  refine callK (n103 _ H) ?_
  rintro _ _ ⟨rfl, rfl⟩
  simp (disch := first | assumption | omega | (simp only [LN] <;> omega) | (simp (disch := first | assumption | omega | (simp only [LN] <;> omega)) only [row_alloc, row_set]; assumption)) only [W_block, P3, ↓reduceIte, reduceAdd, reduceEqDiff, reduceCtorEq, initFr, reduceLT, clsA, reduceLeDiff, reduceMul, reduceSub, reduceIte]
  exact hq2 _ _ ⟨_, rfl, rfl, rfl⟩
theorem frm_w (k : Nat) (b : List UInt8) (h5 : 5 ≤ b.length) : frm k b = (b[0]? == some (UInt8.ofNat k) && num (b.drop (b.length - 4)) == crc (b.take (b.length - 4))) := by
  simp [frm, h5]
theorem t62 {H : AHeap} {x : Value} {b : List UInt8} (hx : BQ H x b) (k : Nat) (hk : k < 256) (hl : b.length ≤ 1000000000) : ∃ v H', ARun Go.Proofs.Try.prog 0 62 [.int .u8 k, x] H v H' ∧ Keeps H H' ∧
    ((v = .tuple #[.pointer none, .bool false] ∧ H' = H ∧ frm k b = false) ∨ ∃ r, v = .tuple #[ptr r 0, .bool (frm k b)] ∧ RR H' H.n H'.n r (bd b) 0) := by
  refine walk2 f62_ok f62_n ?_
  intro Q hq1 hq2
  have hs := hx.bs.sl
  have his := hs.is
  have hlen := hs.len
  rw [List.length_map] at hlen
  by_cases h5 : b.length < 5
  · simp (disch := first | assumption | omega | (simp only [LN] <;> omega) | (simp (disch := first | assumption | omega | (simp only [LN] <;> omega)) only [row_alloc, row_set]; assumption)) only [f62, W_block, P3, ↓reduceIte, reduceAdd, reduceEqDiff, reduceCtorEq, initFr, reduceLT, clsA, reduceLeDiff, reduceMul, reduceSub, reduceIte, hlen]
    exact hq2 _ _ ⟨_, rfl, Keeps.refl _, .inl ⟨rfl, rfl, by simp [frm]; omega⟩⟩
  · obtain ⟨hnn, hrow⟩ := hs.at_ (by omega) (i := 0) (by rw [List.length_map]; omega)
    rw [List.getElem_map] at hrow
    by_cases h0 : b[0] = UInt8.ofNat k
    · have e0 : ((b[0].toNat : Nat) : Int) = (k : Int) := by rw [h0]; simp; omega
      have hw : IntKind.i64.wrap ((b.length : Int) - 4) = ((b.length - 4 : Nat) : Int) := by rw [wrap_i64 (by omega) (by omega)]; omega
      obtain ⟨w1, s1, q1⟩ := hx.from_ (k := .i64) (b.length - 4) (by omega)
      simp (disch := first | assumption | omega | (simp only [LN] <;> omega) | (simp (disch := first | assumption | omega | (simp only [LN] <;> omega)) only [row_alloc, row_set]; assumption)) only [f62, W_block, P3, ↓reduceIte, reduceAdd, reduceEqDiff, reduceCtorEq, initFr, reduceLT, clsA, reduceLeDiff, reduceMul, reduceSub, reduceIte, hlen, e0, hw, s1]
      refine callK (t96 q1.bs (by rw [List.length_drop]; omega)) ?_
      rintro _ H1 ⟨r1, bv1, rfl, p1, p2, p3, k1⟩
      obtain ⟨w2, s2, q2⟩ := (hx.keeps k1).mid (k := .i64) (k' := .i64) 1 (b.length - 4) (by omega) (by omega)
      have s2' : asem (.slsl 1 x (some (.int .i64 1)) (some (.int .i64 (b.length - 4 : Nat))) none) H1 = some (w2, H1) := s2
      simp (disch := first | assumption | omega | (simp only [LN] <;> omega) | (simp (disch := first | assumption | omega | (simp only [LN] <;> omega)) only [row_alloc, row_set]; assumption)) only [W_block, P3, ↓reduceIte, reduceAdd, reduceEqDiff, reduceCtorEq, initFr, reduceLT, clsA, reduceLeDiff, reduceMul, reduceSub, reduceIte, hlen, hw, s2']
      refine callK (t96 q2.bs (by rw [List.length_take, List.length_drop]; omega)) ?_
      rintro _ H2 ⟨r2, bv2, rfl, o1, o2, o3, k2⟩
      simp (disch := first | assumption | omega | (simp only [LN] <;> omega) | (simp (disch := first | assumption | omega | (simp only [LN] <;> omega)) only [row_alloc, row_set]; assumption)) only [W_block, P3, ↓reduceIte, reduceAdd, reduceEqDiff, reduceCtorEq, initFr, reduceLT, clsA, reduceLeDiff, reduceMul, reduceSub, reduceIte, hlen, hw]
      refine callK (t65 (p1.chg (k2.chg []) (by simp) (by simp)) (by rw [List.length_drop]; omega)) ?_
      rintro _ H3 ⟨rfl, m1, k3⟩
      have kk : Keeps H H3 := (k1.trans k2).chg_trans k3 (by simp; omega)
      obtain ⟨w3, s3, q3⟩ := (hx.keeps kk).to_ (k := .i64) (b.length - 4) (by omega)
      have tx := hx.tbl
      have n1 := k1.n
      have n2 := k2.n
      simp (disch := first | assumption | omega | (simp only [LN] <;> omega) | (simp (disch := first | assumption | omega | (simp only [LN] <;> omega)) only [row_alloc, row_set]; assumption)) only [W_block, P3, ↓reduceIte, reduceAdd, reduceEqDiff, reduceCtorEq, initFr, reduceLT, clsA, reduceLeDiff, reduceMul, reduceSub, reduceIte, hlen, hw, s3, touch_sl]
      refine ⟨⟨⟨tb_older (fun y hy => Nat.lt_of_lt_of_le (tx y hy) n1), tb_keeps (fun y hy => ⟨Nat.lt_of_lt_of_le (tx y hy) n1, by simp⟩) (k2.chg [])⟩,
        tb_older (fun y hy => Nat.lt_of_lt_of_le (tx y hy) (Nat.le_trans n1 n2)), tb_keeps (fun y hy => ⟨Nat.lt_of_lt_of_le (tx y hy) (Nat.le_trans n1 n2), by have := tx y hy; simp; omega⟩) k3⟩, ?_⟩
      refine callK (t97 q3.bs (by rw [List.length_take]; omega)) ?_
      rintro _ _ ⟨rfl, rfl⟩
      simp (disch := first | assumption | omega | (simp only [LN] <;> omega) | (simp (disch := first | assumption | omega | (simp only [LN] <;> omega)) only [row_alloc, row_set]; assumption)) only [W_block, P3, ↓reduceIte, reduceAdd, reduceEqDiff, reduceCtorEq, initFr, reduceLT, clsA, reduceLeDiff, reduceMul, reduceSub, reduceIte]
      have eb : (b.drop 1).take (b.length - 4 - 1) = bd b := by unfold bd; rw [show b.length - 4 - 1 = b.length - 5 by omega]
      have eg : gotL (b.drop (b.length - 4)) false 4 = b.drop (b.length - 4) := by
        have hl4 : (b.drop (b.length - 4)).length = 4 := by rw [List.length_drop]; omega
        unfold gotL
        rw [if_neg (by unfold failB; rw [hl4]; simp), List.take_of_length_le (by rw [hl4]; decide)]
      have ef : frm k b = ((num (b.drop (b.length - 4)) : Int) == (crc (b.take (b.length - 4)) : Int)) := by
        have e1 : ((b[0]? == some (UInt8.ofNat k)) = true) := by rw [List.getElem?_eq_getElem (by omega), h0]; simp
        rw [frm_w k b (by omega), e1, Bool.true_and, Bool.eq_iff_iff, beq_iff_eq, beq_iff_eq]
        omega
      refine hq2 _ _ ⟨_, rfl, kk, .inr ⟨r2, by rw [ef, eg]; rfl, by omega, AHeap.get_lt ((o1.chg k3 (by simp; have := p1.lt; omega) (by simp; have := p1.lt; omega)).choose_spec.1), Nat.le_refl _, bv2, by omega, ?_, ?_⟩⟩
      · exact (o1.chg k3 (by simp; have := p1.lt; omega) (by simp; have := p1.lt; omega)).lt.2
      · have := o1.chg k3 (by simp; have := p1.lt; omega) (by simp; have := p1.lt; omega)
        rw [eb] at this
        rw [List.drop_zero, decide_eq_false (by omega)]
        exact this
    · have e0 : ((b[0].toNat : Nat) : Int) ≠ (k : Int) := by
        intro he
        apply h0
        apply UInt8.toNat_inj.1
        simp; omega
      simp (disch := first | assumption | omega | (simp only [LN] <;> omega) | (simp (disch := first | assumption | omega | (simp only [LN] <;> omega)) only [row_alloc, row_set]; assumption)) only [f62, W_block, P3, ↓reduceIte, reduceAdd, reduceEqDiff, reduceCtorEq, initFr, reduceLT, clsA, reduceLeDiff, reduceMul, reduceSub, reduceIte, hlen, e0]
      refine hq2 _ _ ⟨_, rfl, Keeps.refl _, .inl ⟨rfl, rfl, ?_⟩⟩
      have e1 : ((b[0]? == some (UInt8.ofNat k)) = false) := by rw [List.getElem?_eq_getElem (by omega)]; simpa using h0
      rw [frm_w k b (by omega), e1, Bool.false_and]
end Go.AM.Fd

set_option linter.unusedSimpArgs false
set_option linter.unusedVariables false
namespace Go.AM.Fd
open Nat (reduceAdd reduceEqDiff reduceLT reduceLeDiff reduceMul reduceSub)
open Go.Proofs Go.AM.F
def II (l : List Int) : List (List Value) := l.map fun n => [.int .i64 n]
end Go.AM.Fd

set_option linter.unusedSimpArgs false
set_option linter.unusedVariables false
namespace Go.AM.Fd
open Nat (reduceAdd reduceEqDiff reduceLT reduceLeDiff reduceMul reduceSub)
open Go.Proofs Go.AM.F
def cLi (v : Value) (x : Li) : List Value := [.int .u8 (x.f : Nat), .int .u8 (x.t : Nat), .int .i64 x.q, .int .i64 x.k, v]
theorem sl2 (H : AHeap) (n m : Int) (e : Nat) : Sl (H.alloc (.cells true false 1 [.int .i64 n, .int .i64 m] e)) 1 (slc H.n 0 2 2) (II [n, m]) := by
  refine ⟨⟨_, _, rfl⟩, by simp [II], ?_⟩
  exact elems_own (AHeap.get_alloc_new H _) rfl
theorem fillII (x y : Value) (n m : Int) : fillA [x, y] [(0, 1, .int .i64 n), (1, 1, .int .i64 m)] = some [.int .i64 n, .int .i64 m] := rfl
theorem mayLi (x : Li) {vb : Value} {H : AHeap} (hb : BS H vb x.B) : ∃ v H', ARun Go.Proofs.Try.prog 0 101 [.iface 65 (.agg (cLi vb x).toArray)] H v H' ∧ v = .bool (okLi x) ∧ Keeps H H' := by
  refine walk2 f101_ok f101_n ?_
  intro Q hq1 hq2
  have hone := hb.sl.one
  have his := hb.sl.is
  have hlen := hb.sl.len
  rw [List.length_map] at hlen
  have lz : Z70.length = 70 := rfl
  have oz : Z70.all Value.oneCell' = true := rfl
  by_cases h0 : 0 ≤ x.q
  · by_cases h1 : x.q ≤ 4611686018427387904
    · by_cases h2 : 0 ≤ x.k
      · by_cases h3 : x.k ≤ 4611686018427387904
        · by_cases h4 : (x.B.length : Int) ≤ 2048
          · simp (disch := first | assumption | omega | (simp only [LN] <;> omega) | (simp (disch := first | assumption | omega | (simp only [LN] <;> omega)) only [row_alloc, row_set]; assumption)) only [f101, W_block, P3, ↓reduceIte, reduceAdd, reduceEqDiff, reduceCtorEq, initFr, reduceLT, clsA, reduceLeDiff, reduceMul, reduceSub, reduceIte, cLi, hone, hlen, oz]
            exact hq2 _ _ ⟨_, rfl, congrArg Value.bool (a₁ := _) (by simp [okLi, sqB]; omega), by ((repeat (first | exact Keeps.refl _ | assumption | refine Keeps.alloc ?_ _ | (refine Keeps.set ?_ (by first | omega | (simp only [alloc_n, set_n] <;> omega)) (by first | omega | (simp only [alloc_n, set_n] <;> omega)) _) | (refine Keeps.trans' (by assumption) ?_))))⟩
          · simp (disch := first | assumption | omega | (simp only [LN] <;> omega) | (simp (disch := first | assumption | omega | (simp only [LN] <;> omega)) only [row_alloc, row_set]; assumption)) only [f101, W_block, P3, ↓reduceIte, reduceAdd, reduceEqDiff, reduceCtorEq, initFr, reduceLT, clsA, reduceLeDiff, reduceMul, reduceSub, reduceIte, cLi, hone, hlen, oz]
            exact hq2 _ _ ⟨_, rfl, congrArg Value.bool (a₁ := _) (by simp [okLi, sqB]; omega), by ((repeat (first | exact Keeps.refl _ | assumption | refine Keeps.alloc ?_ _ | (refine Keeps.set ?_ (by first | omega | (simp only [alloc_n, set_n] <;> omega)) (by first | omega | (simp only [alloc_n, set_n] <;> omega)) _) | (refine Keeps.trans' (by assumption) ?_))))⟩
        · simp (disch := first | assumption | omega | (simp only [LN] <;> omega) | (simp (disch := first | assumption | omega | (simp only [LN] <;> omega)) only [row_alloc, row_set]; assumption)) only [f101, W_block, P3, ↓reduceIte, reduceAdd, reduceEqDiff, reduceCtorEq, initFr, reduceLT, clsA, reduceLeDiff, reduceMul, reduceSub, reduceIte, cLi, hone, hlen, oz]
          exact hq2 _ _ ⟨_, rfl, congrArg Value.bool (a₁ := _) (by simp [okLi, sqB]; omega), by ((repeat (first | exact Keeps.refl _ | assumption | refine Keeps.alloc ?_ _ | (refine Keeps.set ?_ (by first | omega | (simp only [alloc_n, set_n] <;> omega)) (by first | omega | (simp only [alloc_n, set_n] <;> omega)) _) | (refine Keeps.trans' (by assumption) ?_))))⟩
      · simp (disch := first | assumption | omega | (simp only [LN] <;> omega) | (simp (disch := first | assumption | omega | (simp only [LN] <;> omega)) only [row_alloc, row_set]; assumption)) only [f101, W_block, P3, ↓reduceIte, reduceAdd, reduceEqDiff, reduceCtorEq, initFr, reduceLT, clsA, reduceLeDiff, reduceMul, reduceSub, reduceIte, cLi, hone, hlen, oz]
        exact hq2 _ _ ⟨_, rfl, congrArg Value.bool (a₁ := _) (by simp [okLi, sqB]; omega), by ((repeat (first | exact Keeps.refl _ | assumption | refine Keeps.alloc ?_ _ | (refine Keeps.set ?_ (by first | omega | (simp only [alloc_n, set_n] <;> omega)) (by first | omega | (simp only [alloc_n, set_n] <;> omega)) _) | (refine Keeps.trans' (by assumption) ?_))))⟩
    · simp (disch := first | assumption | omega | (simp only [LN] <;> omega) | (simp (disch := first | assumption | omega | (simp only [LN] <;> omega)) only [row_alloc, row_set]; assumption)) only [f101, W_block, P3, ↓reduceIte, reduceAdd, reduceEqDiff, reduceCtorEq, initFr, reduceLT, clsA, reduceLeDiff, reduceMul, reduceSub, reduceIte, cLi, hone, hlen, oz]
      exact hq2 _ _ ⟨_, rfl, congrArg Value.bool (a₁ := _) (by simp [okLi, sqB]; omega), by ((repeat (first | exact Keeps.refl _ | assumption | refine Keeps.alloc ?_ _ | (refine Keeps.set ?_ (by first | omega | (simp only [alloc_n, set_n] <;> omega)) (by first | omega | (simp only [alloc_n, set_n] <;> omega)) _) | (refine Keeps.trans' (by assumption) ?_))))⟩
  · simp (disch := first | assumption | omega | (simp only [LN] <;> omega) | (simp (disch := first | assumption | omega | (simp only [LN] <;> omega)) only [row_alloc, row_set]; assumption)) only [f101, W_block, P3, ↓reduceIte, reduceAdd, reduceEqDiff, reduceCtorEq, initFr, reduceLT, clsA, reduceLeDiff, reduceMul, reduceSub, reduceIte, cLi, hone, hlen, oz]
    exact hq2 _ _ ⟨_, rfl, congrArg Value.bool (a₁ := _) (by simp [okLi, sqB]; omega), by ((repeat (first | exact Keeps.refl _ | assumption | refine Keeps.alloc ?_ _ | (refine Keeps.set ?_ (by first | omega | (simp only [alloc_n, set_n] <;> omega)) (by first | omega | (simp only [alloc_n, set_n] <;> omega)) _) | (refine Keeps.trans' (by assumption) ?_))))⟩
end Go.AM.Fd

set_option linter.unusedSimpArgs false
set_option linter.unusedVariables false
namespace Go.AM.Fd
open Nat (reduceAdd reduceEqDiff reduceLT reduceLeDiff reduceMul reduceSub)
open Go.Proofs Go.AM.F
theorem Put.lt {H H' : AHeap} {b bv : Nat} {l : List UInt8} (h : Put H H' b bv l) : H.n ≤ H'.n := h.choose_spec.2.2.n
theorem Put.trans {A B C : AHeap} {b bv bv' : Nat} {l : List UInt8} (hl : bv < A.n) (h1 : bv' = bv ∨ A.n ≤ bv') (k : Chg [b, bv] A B) (h2 : Put B C b bv' l) : Put A C b bv l := by
  obtain ⟨bw, w, hb, k2⟩ := h2
  refine ⟨bw, w, ?_, ⟨Nat.le_trans k.n k2.n, fun x hx hn => ?_⟩⟩
  · have := k.n; omega
  · simp only [List.mem_cons, List.not_mem_nil, or_false, not_or] at hn
    rw [k2.get x (Nat.lt_of_lt_of_le hx k.n) (by simp; omega), k.get x hx (by simp; omega)]
theorem Put.keeps {A B : AHeap} {b bv : Nat} {l : List UInt8} (w : WS A b bv l) (k : Keeps A B) : Put A B b bv l :=
  ⟨bv, w.chg (k.chg []) (by simp) (by simp), .inl rfl, k.chg _⟩
def nsB (l : List Int) : List UInt8 := l.flatMap fun n => be 8 n.toNat
theorem nsB_len (l : List Int) : (nsB l).length = 8 * l.length := by
  induction l with
  | nil => rfl
  | cons x l ih =>
    rw [nsB, List.flatMap_cons, List.length_append, be_length, List.length_cons]
    have : (l.flatMap fun n => be 8 n.toNat).length = 8 * l.length := ih
    omega
theorem t80 {H : AHeap} {b bv : Nat} {l : List UInt8} (h : WS H b bv l) {v : Value} {ns : List Int} (hs : Sl H 1 v (II ns)) (hv : ∀ y, blk v = some y → y ≠ b ∧ y ≠ bv) (hn : ∀ n ∈ ns, 0 ≤ n ∧ n ≤ 4611686018427387904) (hl : l.length ≤ 10000000) (hnl : ns.length ≤ 1000) :
    ∃ w H', ARun Go.Proofs.Try.prog 0 80 [ptr b 0, v] H w H' ∧ Put H H' b bv (l ++ nsB ns) := by
  refine walk2 f80_ok f80_n ?_
  intro Q hq1 hq2
  have his := hs.is
  have hlen := hs.len
  rw [II, List.length_map] at hlen
  have hlt := h.lt
  simp (disch := first | assumption | omega | (simp only [LN] <;> omega) | (simp (disch := first | assumption | omega | (simp only [LN] <;> omega)) only [row_alloc, row_set]; assumption)) only [f80, W_block, P3, ↓reduceIte, reduceAdd, reduceEqDiff, reduceCtorEq, initFr, reduceLT, clsA, reduceLeDiff, reduceMul, reduceSub, reduceIte, hlen]
  refine W_loop2 (fun q fr K => ∃ (i bw : Nat) (c e : Value), i ≤ ns.length ∧ q = ns.length - i ∧ WS K b bw (l ++ nsB (ns.take i)) ∧ (bw = bv ∨ H.n ≤ bw) ∧ Chg [b, bv] H K ∧ fr = [ptr b 0, v, c, v, .int .i64 ns.length, .int .i64 i, e]) ns.length ⟨0, bv, undef, undef, by omega, rfl, by simpa [nsB] using h, .inl rfl, Chg.refl _ _, rfl⟩ ?_
  rintro Q' q fr K ⟨i, bw, c, e, hi, rfl, hw, hbw, kK, rfl⟩ hn' he hrt
  have nK := kK.n
  by_cases hc : i < ns.length
  · obtain ⟨hnn, hrow⟩ := (hs.chg kK (fun y hy => by have := hv y hy; simp; omega)).at_ (by omega) (i := i) (by simpa [II] using hc)
    simp only [II, List.getElem_map] at hrow
    have hb := hn _ (List.getElem_mem hc)
    have hwr : IntKind.u64.wrap ns[i] = ((ns[i].toNat : Nat) : Int) := by rw [wrap_u64]; omega
    simp (disch := first | assumption | omega | (simp only [LN] <;> omega) | (simp (disch := first | assumption | omega | (simp only [LN] <;> omega)) only [row_alloc, row_set]; assumption)) only [W_block, P3, ↓reduceIte, reduceAdd, reduceEqDiff, reduceCtorEq, initFr, reduceLT, clsA, reduceLeDiff, reduceMul, reduceSub, reduceIte, hwr]
    refine callK (t84 hw ns[i].toNat (by omega) (by
      rw [List.length_append, nsB_len, List.length_take]; omega)) ?_
    rintro w K2 ⟨bw2, hw2, hb2, k2⟩
    simp (disch := first | assumption | omega | (simp only [LN] <;> omega) | (simp (disch := first | assumption | omega | (simp only [LN] <;> omega)) only [row_alloc, row_set]; assumption)) only [W_block, P3, ↓reduceIte, reduceAdd, reduceEqDiff, reduceCtorEq, initFr, reduceLT, clsA, reduceLeDiff, reduceMul, reduceSub, reduceIte, wrap_succ (n := i) (by omega)]
    refine hn' _ _ _ ⟨i + 1, bw2, _, _, by omega, rfl, ?_, by have := hw.lt; omega, ?_, rfl⟩ (by omega)
    · rw [List.take_succ_eq_append_getElem hc, nsB, List.flatMap_append]
      simp only [List.flatMap_cons, List.flatMap_nil, List.append_nil, ← List.append_assoc]
      rw [← nsB]
      exact hw2
    · refine ⟨Nat.le_trans kK.n k2.n, fun x hx hxn => ?_⟩
      simp only [List.mem_cons, List.not_mem_nil, or_false, not_or] at hxn
      rw [k2.get x (by omega) (by simp; omega), kK.get x hx (by simp; omega)]
  · simp (disch := first | assumption | omega | (simp only [LN] <;> omega) | (simp (disch := first | assumption | omega | (simp only [LN] <;> omega)) only [row_alloc, row_set]; assumption)) only [W_block, P3, ↓reduceIte, reduceAdd, reduceEqDiff, reduceCtorEq, initFr, reduceLT, clsA, reduceLeDiff, reduceMul, reduceSub, reduceIte]
    refine he _ _ _ ?_
    simp (disch := first | assumption | omega | (simp only [LN] <;> omega) | (simp (disch := first | assumption | omega | (simp only [LN] <;> omega)) only [row_alloc, row_set]; assumption)) only [W_block, P3, ↓reduceIte, reduceAdd, reduceEqDiff, reduceCtorEq, initFr, reduceLT, clsA, reduceLeDiff, reduceMul, reduceSub, reduceIte]
    rw [List.take_of_length_le (by omega)] at hw
    exact hq1 _ _ ⟨_, rfl, bw, hw, hbw, kK⟩
def CLO (H : AHeap) (g : Nat) (cap : Value) (pre body : List UInt8) : Prop :=
  ∀ (H1 : AHeap) (b bv : Nat), Keeps H H1 → H.n ≤ b → H.n ≤ bv → WS H1 b bv pre → ∃ w H', ARun Go.Proofs.Try.prog 0 g [ptr b 0, cap] H1 w H' ∧ Put H1 H' b bv (pre ++ body)
theorem blk_slc_eq {b o n k y : Nat} (h : blk (slc b o n k) = some y) : y = b := by cases h; rfl
theorem WS.alloc {H : AHeap} {b bv : Nat} {l : List UInt8} (h : WS H b bv l) (o : AO) : WS (H.alloc o) b bv l := h.chg (((Keeps.refl H).alloc o).chg []) (by simp) (by simp)
theorem Chg2.al {H K : AHeap} {b bv : Nat} {o : AO} (d : Chg [b, bv] (H.alloc o) K) : Chg [b, bv] H K := ⟨Nat.le_trans (by rw [alloc_n]; omega) d.n, fun x hx hn => by rw [d.get x (by rw [alloc_n]; omega) hn, AHeap.get_alloc_old _ _ hx]⟩
theorem or_al {H : AHeap} {b bv : Nat} {o : AO} (h : b = bv ∨ (H.alloc o).n ≤ b) : b = bv ∨ H.n ≤ b := by rw [alloc_n] at h; omega
theorem t78 {H : AHeap} {p : Nat} {x : Li} {vb : Value} (g : H.get p = some (.cells true false 5 (cLi vb x) 65)) (hB : BS H vb x.B) (hx : rgLi x) (hok : okLi x = true) (pre : List UInt8) (hp : pre.length ≤ 1000) : CLO H 78 (ptr p 0) pre (enLi x) := by
  intro H1 b bv k1 hb hbv w
  have hok' := okLi_iff.1 hok
  refine walk2 f78_ok f78_n ?_
  intro Q hq1 hq2
  have lpH := AHeap.get_lt g
  have g := k1.at_ g
  have lp := AHeap.get_lt g
  have hlt := w.lt
  have hone := hB.sl.one
  have his := hB.sl.is
  have hlen := hB.sl.len
  rw [List.length_map] at hlen
  have hB1 := hB.keeps k1
  have hne : ∀ y ∈ tb vb, y < H.n := hB.tbl
  simp (disch := first | assumption | omega | (simp only [LN] <;> omega) | (simp (disch := first | assumption | omega | (simp only [LN] <;> omega)) only [row_alloc, row_set]; assumption)) only [f78, W_block, P3, ↓reduceIte, reduceAdd, reduceEqDiff, reduceCtorEq, initFr, reduceLT, clsA, reduceLeDiff, reduceMul, reduceSub, reduceIte, g, cLi]
  refine callK (t79 w x.f hx.hf (by omega)) ?_
  rintro _ K1 ⟨b1, w1, hb1, d1⟩
  have n1 := d1.n
  have l1 := w1.lt
  simp (disch := first | assumption | omega | (simp only [LN] <;> omega) | (simp (disch := first | assumption | omega | (simp only [LN] <;> omega)) only [row_alloc, row_set]; assumption)) only [Chg2.get d1, W_block, P3, ↓reduceIte, reduceAdd, reduceEqDiff, reduceCtorEq, initFr, reduceLT, clsA, reduceLeDiff, reduceMul, reduceSub, reduceIte, g, cLi]
  refine callK (t79 w1 x.t hx.ht (by simp [be_length]; omega)) ?_
  rintro _ K2 ⟨b2, w2, hb2, d2⟩
  have n2 := d2.n
  have l2 := w2.lt
  simp (disch := first | assumption | omega | (simp only [LN] <;> omega) | (simp (disch := first | assumption | omega | (simp only [LN] <;> omega)) only [row_alloc, row_set]; assumption)) only [Chg2.get d1, Chg2.get d2, W_block, P3, ↓reduceIte, reduceAdd, reduceEqDiff, reduceCtorEq, initFr, reduceLT, clsA, reduceLeDiff, reduceMul, reduceSub, reduceIte, g, cLi, fillII]
  refine callK (t80 (w2.alloc _) (sl2 _ _ _ _) (by intro y hy; have := blk_slc_eq hy; omega) (by simp; omega) (by simp [be_length]; omega) (by simp)) ?_
  rintro _ K3 ⟨b3, w3, hb3, d3⟩
  have hb3 := or_al hb3
  have d3 := Chg2.al d3
  have n3 := d3.n
  have l3 := w3.lt
  have hw : IntKind.u16.wrap (x.B.length : Int) = (x.B.length : Nat) := by rw [wrap_u16]; omega
  simp (disch := first | assumption | omega | (simp only [LN] <;> omega) | (simp (disch := first | assumption | omega | (simp only [LN] <;> omega)) only [row_alloc, row_set]; assumption)) only [Chg2.get d1, Chg2.get d2, Chg2.get d3, W_block, P3, ↓reduceIte, reduceAdd, reduceEqDiff, reduceCtorEq, initFr, reduceLT, clsA, reduceLeDiff, reduceMul, reduceSub, reduceIte, g, cLi, hlen, hw]
  refine callK (t81 w3 x.B.length (by omega) (by simp [be_length, nsB_len]; omega)) ?_
  rintro _ K4 ⟨b4, w4, hb4, d4⟩
  have n4 := d4.n
  have l4 := w4.lt
  have hB4 : BS K4 vb x.B := (((hB1.chgT d1 (fun y hy => by have := hne y hy; simp; omega)).chgT d2 (fun y hy => by have := hne y hy; simp; omega)).chgT d3 (fun y hy => by have := hne y hy; simp; omega)).chgT d4 (fun y hy => by have := hne y hy; simp; omega)
  simp (disch := first | assumption | omega | (simp only [LN] <;> omega) | (simp (disch := first | assumption | omega | (simp only [LN] <;> omega)) only [row_alloc, row_set]; assumption)) only [Chg2.get d1, Chg2.get d2, Chg2.get d3, Chg2.get d4, W_block, P3, ↓reduceIte, reduceAdd, reduceEqDiff, reduceCtorEq, initFr, reduceLT, clsA, reduceLeDiff, reduceMul, reduceSub, reduceIte, g, cLi]
  refine callK (t82 w4 hB4 (by simp [be_length, nsB_len]; omega)) ?_
  rintro _ K5 p5
  simp (disch := first | assumption | omega | (simp only [LN] <;> omega) | (simp (disch := first | assumption | omega | (simp only [LN] <;> omega)) only [row_alloc, row_set]; assumption)) only [W_block, P3, ↓reduceIte, reduceAdd, reduceEqDiff, reduceCtorEq, initFr, reduceLT, clsA, reduceLeDiff, reduceMul, reduceSub, reduceIte]
  refine hq1 _ _ ⟨_, rfl, ?_⟩
  have e : pre ++ enLi x = pre ++ be 1 x.f ++ be 1 x.t ++ nsB [x.q, x.k] ++ be 2 x.B.length ++ x.B := by simp [enLi, nsB, List.append_assoc]
  rw [e]
  exact Put.trans hlt.2 hb1 d1 (Put.trans l1.2 hb2 d2 (Put.trans l2.2 hb3 d3 (Put.trans l3.2 hb4 d4 p5)))
end Go.AM.Fd

set_option linter.unusedSimpArgs false
set_option linter.unusedVariables false
namespace Go.AM.Fd
open Nat (reduceAdd reduceEqDiff reduceLT reduceLeDiff reduceMul reduceSub)
open Go.Proofs Go.AM.F
theorem new_ws (H : AHeap) : WS (H.alloc (.cells true false 1 [.slice none 0 0] 166)) H.n H.n [] := ⟨_, AHeap.get_alloc_new H _, .inl ⟨rfl, rfl, rfl⟩, .inl ⟨rfl, rfl⟩⟩
theorem be1 (k : Nat) : be 1 k = [UInt8.ofNat k] := by simp [be]
def PutR (H H' : AHeap) (v : Value) (l : List UInt8) : Prop := AP H' 5 1 v l.length (cellsOf l) ∧ Keeps H H' ∧ Fresh H.n v
theorem t77 {H : AHeap} (k : Nat) (hk : k < 256) (vi : Value) (okb : Bool) (g : Nat) (cap : Value) (body : List UInt8) (hb : body.length ≤ 100000)
    (hmay : ∃ v H', ARun Go.Proofs.Try.prog 0 101 [vi] H v H' ∧ v = .bool okb ∧ Keeps H H') (hfill : okb = true → CLO H g cap (be 1 k) body) :
    ∃ v H', ARun Go.Proofs.Try.prog 0 77 [.int .u8 k, vi, .func (.func g) #[] #[cap]] H v H' ∧ PutR H H' v (if okb then chk (UInt8.ofNat k :: body) else []) := by
  refine walk2 f77_ok f77_n ?_
  intro Q hq1 hq2
  simp (disch := first | assumption | omega | (simp only [LN] <;> omega) | (simp (disch := first | assumption | omega | (simp only [LN] <;> omega)) only [row_alloc, row_set]; assumption)) only [f77, W_block, P3, ↓reduceIte, reduceAdd, reduceEqDiff, reduceCtorEq, initFr, reduceLT, clsA, reduceLeDiff, reduceMul, reduceSub, reduceIte]
  refine callK hmay ?_
  rintro _ H1 ⟨rfl, k1⟩
  cases okb with
  | false =>
    simp (disch := first | assumption | omega | (simp only [LN] <;> omega) | (simp (disch := first | assumption | omega | (simp only [LN] <;> omega)) only [row_alloc, row_set]; assumption)) only [W_block, P3, ↓reduceIte, reduceAdd, reduceEqDiff, reduceCtorEq, initFr, reduceLT, clsA, reduceLeDiff, reduceMul, reduceSub, reduceIte]
    exact hq2 _ _ ⟨_, rfl, .inl ⟨rfl, rfl, rfl⟩, k1, by intro b hb; cases hb⟩
  | true =>
    have hn1 := k1.n
    simp (disch := first | assumption | omega | (simp only [LN] <;> omega) | (simp (disch := first | assumption | omega | (simp only [LN] <;> omega)) only [row_alloc, row_set]; assumption)) only [W_block, P3, ↓reduceIte, reduceAdd, reduceEqDiff, reduceCtorEq, initFr, reduceLT, clsA, reduceLeDiff, reduceMul, reduceSub, reduceIte]
    have w0 := new_ws H1
    have k2 := (Keeps.refl H1).alloc (.cells true false 1 [.slice none 0 0] 166)
    obtain ⟨Ha, hHa⟩ : ∃ X, X = H1.alloc (.cells true false 1 [.slice none 0 0] 166) := ⟨_, rfl⟩
    rw [← hHa] at w0 k2 ⊢
    have n2 := k2.n
    refine callK (t79 w0 k hk (by simp)) ?_
    rintro _ H3 ⟨b3, w3, hb3, d3⟩
    rw [List.nil_append] at w3
    have n3 := d3.n
    have k3 : Keeps H H3 := (k1.trans k2).chg_trans d3 (by simp; omega)
    simp (disch := first | assumption | omega | (simp only [LN] <;> omega) | (simp (disch := first | assumption | omega | (simp only [LN] <;> omega)) only [row_alloc, row_set]; assumption)) only [W_block, P3, ↓reduceIte, reduceAdd, reduceEqDiff, reduceCtorEq, initFr, reduceLT, clsA, reduceLeDiff, reduceMul, reduceSub, reduceIte]
    refine callK (hfill rfl H3 H1.n b3 k3 (by omega) (by omega) w3) ?_
    rintro _ H4 ⟨b4, w4, hb4, d4⟩
    have n4 := d4.n
    have k4 : Keeps H H4 := k3.chg_trans d4 (by simp; omega)
    have hlen : (be 1 k ++ body).length ≤ 1000000 := by simp [be_length]; omega
    simp (disch := first | assumption | omega | (simp only [LN] <;> omega) | (simp (disch := first | assumption | omega | (simp only [LN] <;> omega)) only [row_alloc, row_set]; assumption)) only [W_block, P3, ↓reduceIte, reduceAdd, reduceEqDiff, reduceCtorEq, initFr, reduceLT, clsA, reduceLeDiff, reduceMul, reduceSub, reduceIte]
    refine callK (t104 w4 (by omega)) ?_
    rintro v5 H5 ⟨a5, k5, f5⟩
    simp (disch := first | assumption | omega | (simp only [LN] <;> omega) | (simp (disch := first | assumption | omega | (simp only [LN] <;> omega)) only [row_alloc, row_set]; assumption)) only [W_block, P3, ↓reduceIte, reduceAdd, reduceEqDiff, reduceCtorEq, initFr, reduceLT, clsA, reduceLeDiff, reduceMul, reduceSub, reduceIte]
    refine callK (t97 a5.bs (by omega)) ?_
    rintro _ _ ⟨rfl, rfl⟩
    simp (disch := first | assumption | omega | (simp only [LN] <;> omega) | (simp (disch := first | assumption | omega | (simp only [LN] <;> omega)) only [row_alloc, row_set]; assumption)) only [W_block, P3, ↓reduceIte, reduceAdd, reduceEqDiff, reduceCtorEq, initFr, reduceLT, clsA, reduceLeDiff, reduceMul, reduceSub, reduceIte]
    refine callK (t85 (w4.chg (k5.chg []) (by simp) (by simp)) (crc (be 1 k ++ body)) (crc_lt _) (by omega)) ?_
    rintro _ H6 ⟨b6, w6, hb6, d6⟩
    have n6 := d6.n
    have n5 := k5.n
    simp (disch := first | assumption | omega | (simp only [LN] <;> omega) | (simp (disch := first | assumption | omega | (simp only [LN] <;> omega)) only [row_alloc, row_set]; assumption)) only [W_block, P3, ↓reduceIte, reduceAdd, reduceEqDiff, reduceCtorEq, initFr, reduceLT, clsA, reduceLeDiff, reduceMul, reduceSub, reduceIte]
    refine callK (t104 w6 (by rw [List.length_append, be_length]; omega)) ?_
    rintro v7 H7 ⟨a7, k7, f7⟩
    simp (disch := first | assumption | omega | (simp only [LN] <;> omega) | (simp (disch := first | assumption | omega | (simp only [LN] <;> omega)) only [row_alloc, row_set]; assumption)) only [W_block, P3, ↓reduceIte, reduceAdd, reduceEqDiff, reduceCtorEq, initFr, reduceLT, clsA, reduceLeDiff, reduceMul, reduceSub, reduceIte]
    have k6 : Keeps H H6 := (k4.trans k5).chg_trans d6 (by simp; omega)
    refine hq2 _ _ ⟨_, rfl, ?_, k6.trans k7, fun b hb => by have := f7 b hb; have := k6.n; omega⟩
    rw [be1] at a7
    exact a7
def fLi (x : Li) : List UInt8 := if okLi x then chk (5 :: enLi x) else []
theorem CLO.keeps {H H' : AHeap} {g : Nat} {cap : Value} {pre body : List UInt8} (h : CLO H g cap pre body) (k : Keeps H H') : CLO H' g cap pre body :=
  fun H1 b bv k1 hb hbv w => h H1 b bv (k.trans k1) (Nat.le_trans k.n hb) (Nat.le_trans k.n hbv) w
theorem PutR.from_ {A B C : AHeap} {v : Value} {l : List UInt8} (k : Keeps A B) (h : PutR B C v l) : PutR A C v l := ⟨h.1, k.trans h.2.1, fun b hb => Nat.le_trans k.n (h.2.2 b hb)⟩
theorem t36 {H : AHeap} (x : Li) {vb : Value} (hx : rgLi x) (hB : BS H vb x.B) (hl : x.B.length ≤ 50000) : ∃ v H', ARun Go.Proofs.Try.prog 0 36 [.agg (cLi vb x).toArray] H v H' ∧ PutR H H' v (fLi x) := by
  refine walk2 f36_ok f36_n ?_
  intro Q hq1 hq2
  have hone := hB.sl.one
  have k0 := (Keeps.refl H).alloc (.cells true false 5 (cLi vb x) 65)
  have g := AHeap.get_alloc_new H (.cells true false 5 (cLi vb x) 65)
  have hcl : vb.cells.toList = [vb] := by obtain ⟨a, k, rfl⟩ := hB.sh; rfl
  have lx : (cLi vb x).length = 5 := rfl
  have ox : (cLi vb x).all Value.oneCell' = true := by simp only [cLi, List.all_cons, List.all_nil, hone]; rfl
  simp (disch := first | assumption | omega | (simp only [LN] <;> omega) | (simp (disch := first | assumption | omega | (simp only [LN] <;> omega)) only [row_alloc, row_set]; assumption)) only [f36, W_block, P3, ↓reduceIte, reduceAdd, reduceEqDiff, reduceCtorEq, initFr, reduceLT, clsA, reduceLeDiff, reduceMul, reduceSub, reduceIte, ox]
  have hB1 := hB.keeps k0
  refine callK (t77 5 (by omega) _ (okLi x) 78 _ (enLi x) (by rw [enLi_len]; omega) (mayLi x hB1) (fun hok => t78 g hB1 hx hok _ (by rw [be_length]; omega))) ?_
  rintro v H' p
  simp (disch := first | assumption | omega | (simp only [LN] <;> omega) | (simp (disch := first | assumption | omega | (simp only [LN] <;> omega)) only [row_alloc, row_set]; assumption)) only [W_block, P3, ↓reduceIte, reduceAdd, reduceEqDiff, reduceCtorEq, initFr, reduceLT, clsA, reduceLeDiff, reduceMul, reduceSub, reduceIte]
  exact hq2 _ _ ⟨_, rfl, PutR.from_ k0 p⟩
end Go.AM.Fd

set_option linter.unusedSimpArgs false
set_option linter.unusedVariables false
namespace Go.AM.Fd
open Nat (reduceAdd reduceEqDiff reduceLT reduceLeDiff reduceMul reduceSub)
open Go.Proofs Go.AM.F
def GotV (c : List Value) (e : Int) : Value := .tuple #[.agg c.toArray, .int .i64 e]
-- got{
theorem t76 {H : AHeap} {lo hi r s : Nat} {l : List UInt8} (h : RR H lo hi r l s) (ok : Bool) (x : Li) {vb : Value} (hB : BS H vb x.B) : ∃ v H', ARun Go.Proofs.Try.prog 0 76 [ptr r 0, .bool ok, .agg (cLi vb x).toArray] H v H' ∧ Keeps H H' ∧
    v = if ok = true ∧ l.length = s ∧ okLi x = true then GotV (cLi vb x) 0 else GotV (cLi (.slice none 0 0) Li0) 130 := by
  refine walk2 f76_ok f76_n ?_
  intro Q hq1 hq2
  have hr : ∀ fr H', resO f76.res fr H' = (celln 5 (fr.getD 4 undef) H').map fun c => .tuple #[c, fr.getD 5 undef] := fun fr H' => resCT 5 4 5 fr
  have hone := hB.sl.one
  have lx : (cLi vb x).length = 5 := rfl
  have ox : (cLi vb x).all Value.oneCell' = true := by simp only [cLi, List.all_cons, List.all_nil, hone]; rfl
  cases ok with
  | false =>
    simp (disch := first | assumption | omega | (simp only [LN] <;> omega) | (simp (disch := first | assumption | omega | (simp only [LN] <;> omega)) only [row_alloc, row_set]; assumption)) only [f76, W_block, P3, ↓reduceIte, reduceAdd, reduceEqDiff, reduceCtorEq, initFr, reduceLT, clsA, reduceLeDiff, reduceMul, reduceSub, reduceIte, ox]
    refine hq2 _ _ ⟨_, by rw [hr]; simp (disch := first | assumption | omega | (simp only [LN] <;> omega) | (simp (disch := first | assumption | omega | (simp only [LN] <;> omega)) only [row_alloc, row_set]; assumption)) only [W_block, P3, ↓reduceIte, reduceAdd, reduceEqDiff, reduceCtorEq, initFr, reduceLT, clsA, reduceLeDiff, reduceMul, reduceSub, reduceIte]; rfl, by ((repeat (first | exact Keeps.refl _ | assumption | refine Keeps.alloc ?_ _ | (refine Keeps.set ?_ (by first | omega | (simp only [alloc_n, set_n] <;> omega)) (by first | omega | (simp only [alloc_n, set_n] <;> omega)) _) | (refine Keeps.trans' (by assumption) ?_)))), by rw [if_neg (by simp)]; rfl⟩
  | true =>
    simp (disch := first | assumption | omega | (simp only [LN] <;> omega) | (simp (disch := first | assumption | omega | (simp only [LN] <;> omega)) only [row_alloc, row_set]; assumption)) only [f76, W_block, P3, ↓reduceIte, reduceAdd, reduceEqDiff, reduceCtorEq, initFr, reduceLT, clsA, reduceLeDiff, reduceMul, reduceSub, reduceIte, ox]
    refine callK (q99 (h.keeps (by ((repeat (first | exact Keeps.refl _ | assumption | refine Keeps.alloc ?_ _ | (refine Keeps.set ?_ (by first | omega | (simp only [alloc_n, set_n] <;> omega)) (by first | omega | (simp only [alloc_n, set_n] <;> omega)) _) | (refine Keeps.trans' (by assumption) ?_))))))) ?_
    rintro _ _ ⟨rfl, rfl⟩
    by_cases h1 : l.length < s
    · have e1 : decide (l.length < s) = true := by simp [h1]
      simp (disch := first | assumption | omega | (simp only [LN] <;> omega) | (simp (disch := first | assumption | omega | (simp only [LN] <;> omega)) only [row_alloc, row_set]; assumption)) only [W_block, P3, ↓reduceIte, reduceAdd, reduceEqDiff, reduceCtorEq, initFr, reduceLT, clsA, reduceLeDiff, reduceMul, reduceSub, reduceIte, ox, e1]
      refine hq2 _ _ ⟨_, by rw [hr]; simp (disch := first | assumption | omega | (simp only [LN] <;> omega) | (simp (disch := first | assumption | omega | (simp only [LN] <;> omega)) only [row_alloc, row_set]; assumption)) only [W_block, P3, ↓reduceIte, reduceAdd, reduceEqDiff, reduceCtorEq, initFr, reduceLT, clsA, reduceLeDiff, reduceMul, reduceSub, reduceIte]; rfl, by ((repeat (first | exact Keeps.refl _ | assumption | refine Keeps.alloc ?_ _ | (refine Keeps.set ?_ (by first | omega | (simp only [alloc_n, set_n] <;> omega)) (by first | omega | (simp only [alloc_n, set_n] <;> omega)) _) | (refine Keeps.trans' (by assumption) ?_)))), by rw [if_neg (by omega)]; rfl⟩
    · have e1 : decide (l.length < s) = false := by simp [h1]
      simp (disch := first | assumption | omega | (simp only [LN] <;> omega) | (simp (disch := first | assumption | omega | (simp only [LN] <;> omega)) only [row_alloc, row_set]; assumption)) only [W_block, P3, ↓reduceIte, reduceAdd, reduceEqDiff, reduceCtorEq, initFr, reduceLT, clsA, reduceLeDiff, reduceMul, reduceSub, reduceIte, ox, e1]
      refine callK (q100 (h.keeps (by ((repeat (first | exact Keeps.refl _ | assumption | refine Keeps.alloc ?_ _ | (refine Keeps.set ?_ (by first | omega | (simp only [alloc_n, set_n] <;> omega)) (by first | omega | (simp only [alloc_n, set_n] <;> omega)) _) | (refine Keeps.trans' (by assumption) ?_))))))) ?_
      rintro _ _ ⟨rfl, rfl⟩
      by_cases h2 : l.length = s
      · have e2 : ¬ (0 : Int) < ((l.length - s : Nat) : Int) := by omega
        simp (disch := first | assumption | omega | (simp only [LN] <;> omega) | (simp (disch := first | assumption | omega | (simp only [LN] <;> omega)) only [row_alloc, row_set]; assumption)) only [W_block, P3, ↓reduceIte, reduceAdd, reduceEqDiff, reduceCtorEq, initFr, reduceLT, clsA, reduceLeDiff, reduceMul, reduceSub, reduceIte, ox, e2]
        refine callK (mayLi x (hB.keeps (by ((repeat (first | exact Keeps.refl _ | assumption | refine Keeps.alloc ?_ _ | (refine Keeps.set ?_ (by first | omega | (simp only [alloc_n, set_n] <;> omega)) (by first | omega | (simp only [alloc_n, set_n] <;> omega)) _) | (refine Keeps.trans' (by assumption) ?_))))))) ?_
        rintro _ K ⟨rfl, k⟩
        have nk := k.n
        simp only [alloc_n, set_n] at nk
        cases h3 : okLi x with
        | false =>
          simp (disch := first | assumption | omega | (simp only [LN] <;> omega) | (simp (disch := first | assumption | omega | (simp only [LN] <;> omega)) only [row_alloc, row_set, Keeps.row k]; assumption)) only [Keeps.get k, Keeps.row k, W_block, P3, ↓reduceIte, reduceAdd, reduceEqDiff, reduceCtorEq, initFr, reduceLT, clsA, reduceLeDiff, reduceMul, reduceSub, reduceIte, ox, h3]
          refine hq2 _ _ ⟨_, by rw [hr]; simp (disch := first | assumption | omega | (simp only [LN] <;> omega) | (simp (disch := first | assumption | omega | (simp only [LN] <;> omega)) only [row_alloc, row_set, Keeps.row k]; assumption)) only [Keeps.get k, Keeps.row k, W_block, P3, ↓reduceIte, reduceAdd, reduceEqDiff, reduceCtorEq, initFr, reduceLT, clsA, reduceLeDiff, reduceMul, reduceSub, reduceIte]; rfl, by ((repeat (first | exact Keeps.refl _ | assumption | refine Keeps.alloc ?_ _ | (refine Keeps.set ?_ (by first | omega | (simp only [alloc_n, set_n] <;> omega)) (by first | omega | (simp only [alloc_n, set_n] <;> omega)) _) | (refine Keeps.trans' (by assumption) ?_)))), by rw [if_neg (by simp [h3])]; rfl⟩
        | true =>
          simp (disch := first | assumption | omega | (simp only [LN] <;> omega) | (simp (disch := first | assumption | omega | (simp only [LN] <;> omega)) only [row_alloc, row_set, Keeps.row k]; assumption)) only [Keeps.get k, Keeps.row k, W_block, P3, ↓reduceIte, reduceAdd, reduceEqDiff, reduceCtorEq, initFr, reduceLT, clsA, reduceLeDiff, reduceMul, reduceSub, reduceIte, ox, h3]
          refine hq2 _ _ ⟨_, by rw [hr]; simp (disch := first | assumption | omega | (simp only [LN] <;> omega) | (simp (disch := first | assumption | omega | (simp only [LN] <;> omega)) only [row_alloc, row_set, Keeps.row k]; assumption)) only [Keeps.get k, Keeps.row k, W_block, P3, ↓reduceIte, reduceAdd, reduceEqDiff, reduceCtorEq, initFr, reduceLT, clsA, reduceLeDiff, reduceMul, reduceSub, reduceIte]; rfl, by ((repeat (first | exact Keeps.refl _ | assumption | refine Keeps.alloc ?_ _ | (refine Keeps.set ?_ (by first | omega | (simp only [alloc_n, set_n] <;> omega)) (by first | omega | (simp only [alloc_n, set_n] <;> omega)) _) | (refine Keeps.trans' (by assumption) ?_)))), by rw [if_pos ⟨rfl, h2, h3⟩]; rfl⟩
      · have e2 : (0 : Int) < ((l.length - s : Nat) : Int) := by omega
        simp (disch := first | assumption | omega | (simp only [LN] <;> omega) | (simp (disch := first | assumption | omega | (simp only [LN] <;> omega)) only [row_alloc, row_set]; assumption)) only [W_block, P3, ↓reduceIte, reduceAdd, reduceEqDiff, reduceCtorEq, initFr, reduceLT, clsA, reduceLeDiff, reduceMul, reduceSub, reduceIte, ox, e2]
        refine hq2 _ _ ⟨_, by rw [hr]; simp (disch := first | assumption | omega | (simp only [LN] <;> omega) | (simp (disch := first | assumption | omega | (simp only [LN] <;> omega)) only [row_alloc, row_set]; assumption)) only [W_block, P3, ↓reduceIte, reduceAdd, reduceEqDiff, reduceCtorEq, initFr, reduceLT, clsA, reduceLeDiff, reduceMul, reduceSub, reduceIte]; rfl, by ((repeat (first | exact Keeps.refl _ | assumption | refine Keeps.alloc ?_ _ | (refine Keeps.set ?_ (by first | omega | (simp only [alloc_n, set_n] <;> omega)) (by first | omega | (simp only [alloc_n, set_n] <;> omega)) _) | (refine Keeps.trans' (by assumption) ?_)))), by rw [if_neg (by omega)]; rfl⟩
theorem n76 {H : AHeap} (x : Li) {vb : Value} (hB : BS H vb x.B) : ∃ v H', ARun Go.Proofs.Try.prog 0 76 [.pointer none, .bool false, .agg (cLi vb x).toArray] H v H' ∧ Keeps H H' ∧ v = GotV (cLi (.slice none 0 0) Li0) 130 := by
  refine walk2 f76_ok f76_n ?_
  intro Q hq1 hq2
  have hr : ∀ fr H', resO f76.res fr H' = (celln 5 (fr.getD 4 undef) H').map fun c => .tuple #[c, fr.getD 5 undef] := fun fr H' => resCT 5 4 5 fr
  have hone := hB.sl.one
  have lx : (cLi vb x).length = 5 := rfl
  have ox : (cLi vb x).all Value.oneCell' = true := by simp only [cLi, List.all_cons, List.all_nil, hone]; rfl
  simp (disch := first | assumption | omega | (simp only [LN] <;> omega) | (simp (disch := first | assumption | omega | (simp only [LN] <;> omega)) only [row_alloc, row_set]; assumption)) only [f76, W_block, P3, ↓reduceIte, reduceAdd, reduceEqDiff, reduceCtorEq, initFr, reduceLT, clsA, reduceLeDiff, reduceMul, reduceSub, reduceIte, ox]
  refine hq2 _ _ ⟨_, by rw [hr]; simp (disch := first | assumption | omega | (simp only [LN] <;> omega) | (simp (disch := first | assumption | omega | (simp only [LN] <;> omega)) only [row_alloc, row_set]; assumption)) only [W_block, P3, ↓reduceIte, reduceAdd, reduceEqDiff, reduceCtorEq, initFr, reduceLT, clsA, reduceLeDiff, reduceMul, reduceSub, reduceIte]; rfl, by ((repeat (first | exact Keeps.refl _ | assumption | refine Keeps.alloc ?_ _ | (refine Keeps.set ?_ (by first | omega | (simp only [alloc_n, set_n] <;> omega)) (by first | omega | (simp only [alloc_n, set_n] <;> omega)) _) | (refine Keeps.trans' (by assumption) ?_)))), rfl⟩
-- }got
end Go.AM.Fd

set_option linter.unusedSimpArgs false
set_option linter.unusedVariables false
namespace Go.AM.Fd
open Nat (reduceAdd reduceEqDiff reduceLT reduceLeDiff reduceMul reduceSub)
open Go.Proofs Go.AM.F
def geLi (b : List UInt8) : Option Li := if frm 5 b = true then pdLi (bd b) else none
theorem bd_le {b : List UInt8} (h : b.length ≤ 1000000000) : (bd b).length ≤ 1000000000 := by rw [bd_len]; omega
end Go.AM.Fd

set_option linter.unusedSimpArgs false
set_option linter.unusedVariables false
namespace Go.AM.Fd
open Nat (reduceAdd reduceEqDiff reduceLT reduceLeDiff reduceMul reduceSub)
open Go.Proofs Go.AM.F
theorem fillLi (f t : Nat) (q k : Int) : fillA [.int .u8 0, .int .u8 0, .int .i64 0, .int .i64 0, .slice none 0 0] [(0, 1, .int .u8 (f : Nat)), (1, 1, .int .u8 (t : Nat)), (2, 1, .int .i64 q), (3, 1, .int .i64 k)] = some (cLi (.slice none 0 0) ⟨f, t, q, k, []⟩) := rfl
def LiR (H H' : AHeap) (w : Value) (o : Option Li) : Prop := ∃ vb, Fresh H.n vb ∧ match o with
  | some x => w = GotV (cLi vb x) 0 ∧ AP H' 5 1 vb x.B.length (cellsOf x.B)
  | none => w = GotV (cLi (.slice none 0 0) Li0) 130
theorem t24 {H : AHeap} {v : Value} {b : List UInt8} (hb : BQ H v b) (hl : b.length ≤ 1000000000) : ∃ w H', ARun Go.Proofs.Try.prog 0 24 [v] H w H' ∧ Keeps H H' ∧ LiR H H' w (geLi b) := by
  refine walk2 f24_ok f24_n ?_
  intro Q hq1 hq2
  have hr : ∀ fr H', resO f24.res fr H' = (celln 5 (fr.getD 1 undef) H').map fun c => .tuple #[c, fr.getD 2 undef] := fun fr H' => resCT 5 1 2 fr
  have k0 := (Keeps.refl H).alloc (.cells true false 5 (cLi (.slice none 0 0) Li0) 65)
  have g0 := AHeap.get_alloc_new H (.cells true false 5 (cLi (.slice none 0 0) Li0) 65)
  have lz : (cLi (.slice none 0 0) Li0).length = 5 := rfl
  have ozz : (cLi (.slice none 0 0) Li0).all Value.oneCell' = true := rfl
  simp (disch := first | assumption | omega | (simp only [LN] <;> omega) | (simp (disch := first | assumption | omega | (simp only [LN] <;> omega)) only [row_alloc, row_set]; assumption)) only [f24, W_block, P3, ↓reduceIte, reduceAdd, reduceEqDiff, reduceCtorEq, initFr, reduceLT, clsA, reduceLeDiff, reduceMul, reduceSub, reduceIte, ozz]
  refine callK (t62 (hb.keeps (by ((repeat (first | exact Keeps.refl _ | assumption | refine Keeps.alloc ?_ _ | (refine Keeps.set ?_ (by first | omega | (simp only [alloc_n, set_n] <;> omega)) (by first | omega | (simp only [alloc_n, set_n] <;> omega)) _) | (refine Keeps.trans' (by assumption) ?_)))))) 5 (by omega) hl) ?_
  rintro _ K0 ⟨k, ⟨rfl, rfl, hf⟩ | ⟨r, rfl, r0⟩⟩
  · simp (disch := first | assumption | omega | (simp only [LN] <;> omega) | (simp (disch := first | assumption | omega | (simp only [LN] <;> omega)) only [row_alloc, row_set]; assumption)) only [W_block, P3, ↓reduceIte, reduceAdd, reduceEqDiff, reduceCtorEq, initFr, reduceLT, clsA, reduceLeDiff, reduceMul, reduceSub, reduceIte]
    refine callK (n63 _) ?_
    rintro _ _ ⟨rfl, rfl⟩
    simp (disch := first | assumption | omega | (simp only [LN] <;> omega) | (simp (disch := first | assumption | omega | (simp only [LN] <;> omega)) only [row_alloc, row_set]; assumption)) only [W_block, P3, ↓reduceIte, reduceAdd, reduceEqDiff, reduceCtorEq, initFr, reduceLT, clsA, reduceLeDiff, reduceMul, reduceSub, reduceIte]
    refine callK (n63 _) ?_
    rintro _ _ ⟨rfl, rfl⟩
    simp (disch := first | assumption | omega | (simp only [LN] <;> omega) | (simp (disch := first | assumption | omega | (simp only [LN] <;> omega)) only [row_alloc, row_set]; assumption)) only [W_block, P3, ↓reduceIte, reduceAdd, reduceEqDiff, reduceCtorEq, initFr, reduceLT, clsA, reduceLeDiff, reduceMul, reduceSub, reduceIte]
    refine callK (n64 _) ?_
    rintro _ _ ⟨rfl, rfl⟩
    simp (disch := first | assumption | omega | (simp only [LN] <;> omega) | (simp (disch := first | assumption | omega | (simp only [LN] <;> omega)) only [row_alloc, row_set]; assumption)) only [W_block, P3, ↓reduceIte, reduceAdd, reduceEqDiff, reduceCtorEq, initFr, reduceLT, clsA, reduceLeDiff, reduceMul, reduceSub, reduceIte]
    refine callK (n64 _) ?_
    rintro _ _ ⟨rfl, rfl⟩
    have f2 := fillLi 0 0 (IntKind.i64.wrap 0) (IntKind.i64.wrap 0)
    simp only [Int.natCast_zero] at f2
    simp (disch := first | assumption | omega | (simp only [LN] <;> omega) | (simp (disch := first | assumption | omega | (simp only [LN] <;> omega)) only [row_alloc, row_set]; assumption)) only [W_block, P3, ↓reduceIte, reduceAdd, reduceEqDiff, reduceCtorEq, initFr, reduceLT, clsA, reduceLeDiff, reduceMul, reduceSub, reduceIte, f2, cLi]
    refine callK (n75 _) ?_
    rintro _ _ ⟨rfl, rfl⟩
    simp (disch := first | assumption | omega | (simp only [LN] <;> omega) | (simp (disch := first | assumption | omega | (simp only [LN] <;> omega)) only [row_alloc, row_set]; assumption)) only [W_block, P3, ↓reduceIte, reduceAdd, reduceEqDiff, reduceCtorEq, initFr, reduceLT, clsA, reduceLeDiff, reduceMul, reduceSub, reduceIte]
    refine callK (n74 _ _) ?_
    rintro _ _ ⟨rfl, rfl⟩
    simp (disch := first | assumption | omega | (simp only [LN] <;> omega) | (simp (disch := first | assumption | omega | (simp only [LN] <;> omega)) only [row_alloc, row_set]; assumption)) only [W_block, P3, ↓reduceIte, reduceAdd, reduceEqDiff, reduceCtorEq, initFr, reduceLT, clsA, reduceLeDiff, reduceMul, reduceSub, reduceIte]
    refine callK (t73 (BS.nil _) (by simp)) ?_
    rintro v2 K2 ⟨a2, k2, fr2⟩
    have n2 := k2.n
    simp only [alloc_n] at n2
    have ho2 : v2.oneCell' = true := by obtain ⟨a, rfl⟩ := a2.shape; rfl
    have fb2 := Fresh.tb fr2
    simp only [alloc_n] at fb2
    simp (disch := first | assumption | omega | (simp only [LN] <;> omega) | (simp (disch := first | assumption | omega | (simp only [LN] <;> omega)) only [row_alloc, row_set, Keeps.row k2]; assumption)) only [Keeps.get k2, Keeps.row k2, W_block, P3, ↓reduceIte, reduceAdd, reduceEqDiff, reduceCtorEq, initFr, reduceLT, clsA, reduceLeDiff, reduceMul, reduceSub, reduceIte, cLi, ho2]
    refine callK (n76 ⟨0, 0, IntKind.i64.wrap 0, IntKind.i64.wrap 0, []⟩ (a2.bs.chgT (Chg.set K2 (show H.n + 1 < K2.n by omega) _) (fun y hy => by have := fb2 y hy; simp; omega))) ?_
    rintro _ K3 ⟨k3, rfl⟩
    have n3 := k3.n
    simp only [set_n] at n3
    have p3 : H.n + 1 < K2.n := by omega
    have kq : ∀ o, Keeps H (K3.set H.n o) := fun o => ⟨by rw [set_n]; omega, fun y hy => by
      rw [AHeap.get_set_other _ (by omega) (by omega), k3.get _ (by rw [set_n]; omega), AHeap.get_set_other _ (by omega) p3, k2.get _ (by simp only [alloc_n]; omega), AHeap.get_alloc_old _ _ (by rw [alloc_n]; omega), AHeap.get_alloc_old _ _ hy]⟩
    simp (disch := first | assumption | omega | (simp only [LN] <;> omega) | (simp (disch := first | assumption | omega | (simp only [LN] <;> omega)) only [row_alloc, row_set, Keeps.row k3, Keeps.row k2]; assumption)) only [Keeps.get k3, Keeps.get k2, Keeps.row k3, Keeps.row k2, W_block, P3, ↓reduceIte, reduceAdd, reduceEqDiff, reduceCtorEq, initFr, reduceLT, clsA, reduceLeDiff, reduceMul, reduceSub, reduceIte, GotV, cLi]
    refine hq2 _ _ ⟨_, by rw [hr]; simp (disch := first | assumption | omega | (simp only [LN] <;> omega) | (simp (disch := first | assumption | omega | (simp only [LN] <;> omega)) only [row_alloc, row_set, Keeps.row k3, Keeps.row k2]; assumption)) only [Keeps.get k3, Keeps.get k2, Keeps.row k3, Keeps.row k2, W_block, P3, ↓reduceIte, reduceAdd, reduceEqDiff, reduceCtorEq, initFr, reduceLT, clsA, reduceLeDiff, reduceMul, reduceSub, reduceIte, cLi]; rfl, kq _, ?_⟩
    refine ⟨.slice none 0 0, fun b hb => (by cases hb), ?_⟩
    have ge : geLi b = none := by unfold geLi; rw [hf]; rfl
    rw [ge]
    rfl
  · have hn0 := k.n
    simp only [alloc_n] at hn0
    have hlb := bd_le hl
    have hrl : H.n + 1 ≤ r := r0.1
    have hrk : r < K0.n := r0.2.1
    have c0 := Chg.refl [r] K0
    simp (disch := first | assumption | omega | (simp only [LN] <;> omega) | (simp (disch := first | assumption | omega | (simp only [LN] <;> omega)) only [row_alloc, row_set]; assumption)) only [W_block, P3, ↓reduceIte, reduceAdd, reduceEqDiff, reduceCtorEq, initFr, reduceLT, clsA, reduceLeDiff, reduceMul, reduceSub, reduceIte]
    refine callK (q63 r0 hlb) ?_
    rintro _ K1 ⟨rfl, r1, e1⟩
    have c1 := Chg1.tr c0 e1
    simp (disch := first | assumption | omega | (simp only [LN] <;> omega) | (simp (disch := first | assumption | omega | (simp only [LN] <;> omega)) only [row_alloc, row_set]; assumption)) only [W_block, P3, ↓reduceIte, reduceAdd, reduceEqDiff, reduceCtorEq, initFr, reduceLT, clsA, reduceLeDiff, reduceMul, reduceSub, reduceIte]
    refine callK (q63 r1 hlb) ?_
    rintro _ K2 ⟨rfl, r2, e2⟩
    have c2 := Chg1.tr c1 e2
    simp (disch := first | assumption | omega | (simp only [LN] <;> omega) | (simp (disch := first | assumption | omega | (simp only [LN] <;> omega)) only [row_alloc, row_set]; assumption)) only [W_block, P3, ↓reduceIte, reduceAdd, reduceEqDiff, reduceCtorEq, initFr, reduceLT, clsA, reduceLeDiff, reduceMul, reduceSub, reduceIte]
    refine callK (q64 r2 hlb) ?_
    rintro _ K3 ⟨rfl, r3, e3⟩
    have c3 := Chg1.tr c2 e3
    simp (disch := first | assumption | omega | (simp only [LN] <;> omega) | (simp (disch := first | assumption | omega | (simp only [LN] <;> omega)) only [row_alloc, row_set]; assumption)) only [W_block, P3, ↓reduceIte, reduceAdd, reduceEqDiff, reduceCtorEq, initFr, reduceLT, clsA, reduceLeDiff, reduceMul, reduceSub, reduceIte]
    refine callK (q64 r3 hlb) ?_
    rintro _ K4 ⟨rfl, r4, e4⟩
    have c4 := Chg1.tr c3 e4
    have n4 := c4.n
    simp (disch := first | assumption | omega | (simp only [LN] <;> omega) | (simp (disch := first | assumption | omega | (simp only [LN] <;> omega)) only [row_alloc, row_set]; assumption)) only [W_block, P3, ↓reduceIte, reduceAdd, reduceEqDiff, reduceCtorEq, initFr, reduceLT, clsA, reduceLeDiff, reduceMul, reduceSub, reduceIte, fillLi]
    have o4 : (cLi (.slice none 0 0) ⟨na (bd b) 0 1, na (bd b) (0 + 1) 1, IntKind.i64.wrap (na (bd b) (0 + 1 + 1) 8), IntKind.i64.wrap (na (bd b) (0 + 1 + 1 + 8) 8), []⟩).all Value.oneCell' = true := rfl
    have l4 : (cLi (.slice none 0 0) ⟨na (bd b) 0 1, na (bd b) (0 + 1) 1, IntKind.i64.wrap (na (bd b) (0 + 1 + 1) 8), IntKind.i64.wrap (na (bd b) (0 + 1 + 1 + 8) 8), []⟩).length = 5 := rfl
    simp (disch := first | assumption | omega | (simp only [LN] <;> omega) | (simp (disch := first | assumption | omega | (simp only [LN] <;> omega)) only [row_alloc, row_set]; assumption)) only [W_block, P3, ↓reduceIte, reduceAdd, reduceEqDiff, reduceCtorEq, initFr, reduceLT, clsA, reduceLeDiff, reduceMul, reduceSub, reduceIte, o4]
    obtain ⟨Kb, hKb⟩ : ∃ X, X = K4.alloc (.cells true false 5 (cLi (.slice none 0 0) ⟨na (bd b) 0 1, na (bd b) (0 + 1) 1, IntKind.i64.wrap (na (bd b) (0 + 1 + 1) 8), IntKind.i64.wrap (na (bd b) (0 + 1 + 1 + 8) 8), []⟩) 65) := ⟨_, rfl⟩
    have kb := (Keeps.refl K4).alloc (.cells true false 5 (cLi (.slice none 0 0) ⟨na (bd b) 0 1, na (bd b) (0 + 1) 1, IntKind.i64.wrap (na (bd b) (0 + 1 + 1) 8), IntKind.i64.wrap (na (bd b) (0 + 1 + 1 + 8) 8), []⟩) 65)
    have gb := AHeap.get_alloc_new K4 (.cells true false 5 (cLi (.slice none 0 0) ⟨na (bd b) 0 1, na (bd b) (0 + 1) 1, IntKind.i64.wrap (na (bd b) (0 + 1 + 1) 8), IntKind.i64.wrap (na (bd b) (0 + 1 + 1 + 8) 8), []⟩) 65)
    rw [← hKb] at kb gb ⊢
    have nb := kb.n
    have lb := AHeap.get_lt gb
    refine callK (q75 (r4.keeps kb) hlb) ?_
    rintro _ K5 ⟨rfl, r5, c5⟩
    have n5 := c5.n
    have hs2 := na2 (bd b) (0 + 1 + 1 + 8 + 8)
    have hw : IntKind.i64.wrap (na (bd b) (0 + 1 + 1 + 8 + 8) 2 : Nat) = (na (bd b) (0 + 1 + 1 + 8 + 8) 2 : Nat) := wrap_i64 (by omega) (by omega)
    simp (disch := first | assumption | omega | (simp only [LN] <;> omega) | (simp (disch := first | assumption | omega | (simp only [LN] <;> omega)) only [row_alloc, row_set]; assumption)) only [W_block, P3, ↓reduceIte, reduceAdd, reduceEqDiff, reduceCtorEq, initFr, reduceLT, clsA, reduceLeDiff, reduceMul, reduceSub, reduceIte, hw]
    refine callK (q74 r5 (na (bd b) (0 + 1 + 1 + 8 + 8) 2) hlb) ?_
    rintro v6 K6 ⟨B6, r6, c6, h6⟩
    have n6 := c6.n
    have hsl : (seg (bd b) (0 + 1 + 1 + 8 + 8 + 2) (na (bd b) (0 + 1 + 1 + 8 + 8) 2)).length ≤ 65536 := by
      unfold seg
      split
      · simp
      · rw [List.length_take]; omega
    simp (disch := first | assumption | omega | (simp only [LN] <;> omega) | (simp (disch := first | assumption | omega | (simp only [LN] <;> omega)) only [row_alloc, row_set]; assumption)) only [W_block, P3, ↓reduceIte, reduceAdd, reduceEqDiff, reduceCtorEq, initFr, reduceLT, clsA, reduceLeDiff, reduceMul, reduceSub, reduceIte]
    refine callK (t73 B6 (by omega)) ?_
    rintro v7 K7 ⟨a7, k7, f7⟩
    have n7 := k7.n
    have fb7 := Fresh.tb f7
    have ho7 : v7.oneCell' = true := by obtain ⟨a, rfl⟩ := a7.shape; rfl
    have g7 : K7.get K4.n = some (.cells true false 5 (cLi (.slice none 0 0) ⟨na (bd b) 0 1, na (bd b) (0 + 1) 1, IntKind.i64.wrap (na (bd b) (0 + 1 + 1) 8), IntKind.i64.wrap (na (bd b) (0 + 1 + 1 + 8) 8), []⟩) 65) := by
      rw [k7.get _ (by omega), Chg1.get c6 (by omega) (by omega), Chg1.get c5 (by omega) (by omega)]; exact gb
    have p7 := AHeap.get_lt g7
    simp (disch := first | assumption | omega | (simp only [LN] <;> omega) | (simp (disch := first | assumption | omega | (simp only [LN] <;> omega)) only [row_alloc, row_set]; assumption)) only [W_block, P3, ↓reduceIte, reduceAdd, reduceEqDiff, reduceCtorEq, initFr, reduceLT, clsA, reduceLeDiff, reduceMul, reduceSub, reduceIte, g7, cLi, ho7]
    have q7 : ∀ o, Chg [K4.n] K7 (K7.set K4.n o) := fun o => Chg.set K7 p7 o
    have R8 := fun o => (r6.keeps k7).chg (q7 o) (.inr (by omega))
    have B8 := fun o => a7.bs.chgT (q7 o) (fun y hy => by have := fb7 y hy; simp; omega)
    refine callK (t76 (R8 _) (frm 5 b) (deLi (bd b)) (B8 _)) ?_
    rintro _ K ⟨k8, rfl⟩
    have n8 := k8.n
    simp only [set_n] at n8
    have hget : ∀ y, y < K0.n → y ≠ r → K.get y = K0.get y := fun y hy hr' => by
      rw [k8.get _ (by rw [set_n]; omega), AHeap.get_set_other _ (by omega) p7, k7.get _ (by omega), Chg1.get c6 (by omega) hr', Chg1.get c5 (by omega) hr', kb.get _ (by omega), Chg1.get c4 hy hr']
    have g8 : K.get H.n = some (.cells true false 5 (cLi (.slice none 0 0) Li0) 65) := by
      rw [hget _ (by omega) (by omega), k.get _ (by rw [alloc_n]; omega)]; exact g0
    have p8 := AHeap.get_lt g8
    have a8 : AP K 5 1 v7 (deLi (bd b)).B.length (cellsOf (deLi (bd b)).B) := a7.chg ((q7 _).trans (k8.chg [K4.n]) (fun x hx => .inl hx)) (fun y hy => by have := f7 y (mem_blkL.1 hy); simp; omega)
    have kk : ∀ o, Keeps H (K.set H.n o) := fun o => ⟨by rw [set_n]; omega, fun y hy => by
      rw [AHeap.get_set_other _ (by omega) p8, hget _ (by omega) (by omega), k.get _ (by rw [alloc_n]; omega)]; exact k0.get _ hy⟩
    have f8 : Fresh H.n v7 := fun y hy => by have := f7 y hy; omega
    by_cases hc : frm 5 b = true ∧ (bd b).length = 0 + 1 + 1 + 8 + 8 + 2 + na (bd b) (0 + 1 + 1 + 8 + 8) 2 ∧ okLi (deLi (bd b)) = true
    · rw [if_pos hc]
      have ge : geLi b = some (deLi (bd b)) := by
        unfold geLi pdLi
        rw [if_pos hc.1, if_pos ⟨by have := hc.2.1; simp only [Nat.zero_add] at this; exact this, hc.2.2⟩]
      have lx : (cLi v7 (deLi (bd b))).length = 5 := rfl
      have ox : (cLi v7 (deLi (bd b))).all Value.oneCell' = true := by simp only [cLi, List.all_cons, List.all_nil, ho7]; rfl
      simp (disch := first | assumption | omega | (simp only [LN] <;> omega) | (simp (disch := first | assumption | omega | (simp only [LN] <;> omega)) only [row_alloc, row_set]; assumption)) only [W_block, P3, ↓reduceIte, reduceAdd, reduceEqDiff, reduceCtorEq, initFr, reduceLT, clsA, reduceLeDiff, reduceMul, reduceSub, reduceIte, GotV, g8, ox, lx]
      refine hq2 _ _ ⟨_, by rw [hr]; simp (disch := first | assumption | omega | (simp only [LN] <;> omega) | (simp (disch := first | assumption | omega | (simp only [LN] <;> omega)) only [row_alloc, row_set]; assumption)) only [W_block, P3, ↓reduceIte, reduceAdd, reduceEqDiff, reduceCtorEq, initFr, reduceLT, clsA, reduceLeDiff, reduceMul, reduceSub, reduceIte, g8, ox, lx]; rfl, kk _, v7, f8, ?_⟩
      rw [ge]
      exact ⟨rfl, a8.chg (Chg.set K p8 _) (fun y hy => by have := f7 y (mem_blkL.1 hy); simp; omega)⟩
    · rw [if_neg hc]
      have ge : geLi b = none := by
        unfold geLi pdLi
        split
        · rename_i hf
          rw [if_neg (fun h => hc ⟨hf, by have := h.1; simp only [Nat.zero_add]; exact this, h.2⟩)]
        · rfl
      simp (disch := first | assumption | omega | (simp only [LN] <;> omega) | (simp (disch := first | assumption | omega | (simp only [LN] <;> omega)) only [row_alloc, row_set]; assumption)) only [W_block, P3, ↓reduceIte, reduceAdd, reduceEqDiff, reduceCtorEq, initFr, reduceLT, clsA, reduceLeDiff, reduceMul, reduceSub, reduceIte, GotV, g8, ozz, lz]
      refine hq2 _ _ ⟨_, by rw [hr]; simp (disch := first | assumption | omega | (simp only [LN] <;> omega) | (simp (disch := first | assumption | omega | (simp only [LN] <;> omega)) only [row_alloc, row_set]; assumption)) only [W_block, P3, ↓reduceIte, reduceAdd, reduceEqDiff, reduceCtorEq, initFr, reduceLT, clsA, reduceLeDiff, reduceMul, reduceSub, reduceIte, g8, ozz, lz]; rfl, kk _, .slice none 0 0, fun b hb => (by cases hb), ?_⟩
      rw [ge]
      rfl
end Go.AM.Fd

set_option linter.unusedSimpArgs false
set_option linter.unusedVariables false
namespace Go.AM
def via (ρ : Nat → Option Nat) (σ : Sg) : Sg := fun b => (ρ b).bind σ
theorem via_of {ρ : Nat → Option Nat} {σ : Sg} {b c : Nat} {i : BI} (h : ρ b = some c) (k : σ c = some i) : via ρ σ b = some i := by
  unfold via; rw [h]; exact k
theorem via_inv {ρ : Nat → Option Nat} {σ : Sg} {b : Nat} {i : BI} (h : via ρ σ b = some i) : ∃ c, ρ b = some c ∧ σ c = some i := by
  unfold via at h
  cases hb : ρ b with
  | none => rw [hb] at h; cases h
  | some c => rw [hb] at h; exact ⟨c, rfl, h⟩
inductive NV (ρ : Nat → Option Nat) : Value → Value → Prop
  | bool (b : Bool) : NV ρ (.bool b) (.bool b)
  | int (k : IntKind) (n : Int) : NV ρ (.int k n) (.int k n)
  | string (s : ByteArray) : NV ρ (.string s) (.string s)
  | nilPtr : NV ρ (.pointer none) (.pointer none)
  | ptr {b c o : Nat} (h : ρ b = some c) : NV ρ (.pointer (some ⟨b, o, none⟩)) (.pointer (some ⟨c, o, none⟩))
  | nilSl : NV ρ (.slice none 0 0) (.slice none 0 0)
  | sl {b c o n k : Nat} (h : ρ b = some c) : NV ρ (.slice (some ⟨b, o, none⟩) n k) (.slice (some ⟨c, o, none⟩) n k)
  | slz {x : Addr} (hx : x.spot.isSome = true) : NV ρ (.slice (some x) 0 0) (.slice (some x) 0 0)
  | nilMap : NV ρ (.map none) (.map none)
  | map {b c : Nat} (h : ρ b = some c) : NV ρ (.map (some b)) (.map (some c))
  | func (fn : Fn) (xs xs' ys ys' : Array Value) (h1 : xs.size = xs'.size) (h2 : ∀ i (a : i < xs.size) (b : i < xs'.size), NV ρ xs[i] xs'[i])
      (h3 : ys.size = ys'.size) (h4 : ∀ i (a : i < ys.size) (b : i < ys'.size), NV ρ ys[i] ys'[i]) : NV ρ (.func fn xs ys) (.func fn xs' ys')
  | nilFunc : NV ρ .nilFunc .nilFunc
  | iface (t : TypeId) {v v' : Value} (h : NV ρ v v') : NV ρ (.iface t v) (.iface t v')
  | nilIface : NV ρ .nilIface .nilIface
  | agg (xs xs' : Array Value) (h1 : xs.size = xs'.size) (h2 : ∀ i (a : i < xs.size) (b : i < xs'.size), NV ρ xs[i] xs'[i]) : NV ρ (.agg xs) (.agg xs')
  | tuple (xs xs' : Array Value) (h1 : xs.size = xs'.size) (h2 : ∀ i (a : i < xs.size) (b : i < xs'.size), NV ρ xs[i] xs'[i]) : NV ρ (.tuple xs) (.tuple xs')
inductive NL (ρ : Nat → Option Nat) : List Value → List Value → Prop
  | nil : NL ρ [] []
  | cons {v v' : Value} {l l' : List Value} (h : NV ρ v v') (t : NL ρ l l') : NL ρ (v :: l) (v' :: l')
theorem NV.via {ρ : Nat → Option Nat} {σ : Sg} {a b : Value} (h : NV ρ a b) : ∀ {c : Value}, VR σ b c → VR (AM.via ρ σ) a c := by
  induction h with
  | bool b => intro c k; cases k; exact .bool _
  | int k n => intro c k; cases k; exact .int _ _
  | string s => intro c k; cases k; exact .string _
  | nilPtr => intro c k; cases k; exact .nilPtr
  | ptr e => intro c k; cases k with | ptr e2 => exact .ptr (via_of e e2)
  | nilSl => intro c k; cases k; exact .nilSl
  | sl e =>
    intro c k
    cases k with
    | sl e2 hn2 hk2 => exact .sl (via_of e e2) hn2 hk2
    | sl0 e2 => exact .sl0 (via_of e e2)
    | slz hx => simp at hx
  | slz hx =>
    intro c k
    cases k with
    | sl e2 hn2 hk2 => simp at hx
    | sl0 e2 => exact .slz hx
    | slz _ => exact .slz hx
  | nilMap => intro c k; cases k; exact .nilMap
  | map e => intro c k; cases k with | map e2 => exact .map (via_of e e2)
  | func fn xs xs' ys ys' h1 _ h3 _ i2 i4 =>
    intro c k
    cases k with
    | func _ _ zs _ us g1 g2 g3 g4 => exact .func fn xs zs ys us (by omega) (fun i a b => i2 i a (by omega) (g2 i (by omega) b)) (by omega) (fun i a b => i4 i a (by omega) (g4 i (by omega) b))
  | nilFunc => intro c k; cases k; exact .nilFunc
  | iface t _ ih => intro c k; cases k with | iface _ k => exact .iface t (ih k)
  | nilIface => intro c k; cases k; exact .nilIface
  | agg xs xs' h1 _ ih =>
    intro c k
    cases k with
    | agg _ zs g1 g2 => exact .agg xs zs (by omega) (fun i a b => ih i a (by omega) (g2 i (by omega) b))
  | tuple xs xs' h1 _ ih =>
    intro c k
    cases k with
    | tuple _ zs g1 g2 => exact .tuple xs zs (by omega) (fun i a b => ih i a (by omega) (g2 i (by omega) b))
theorem NL.via {ρ : Nat → Option Nat} {σ : Sg} {a b : List Value} (h : NL ρ a b) : ∀ {c : List Value}, VL σ b c → VL (AM.via ρ σ) a c := by
  induction h with
  | nil => intro c k; cases k; exact .nil
  | cons h _ ih => intro c k; cases k with | cons k1 k2 => exact .cons (h.via k1) (ih k2)
theorem NL.length {ρ : Nat → Option Nat} {a b : List Value} (h : NL ρ a b) : a.length = b.length := by
  induction h with
  | nil => rfl
  | cons _ _ ih => simp [ih]
theorem NL.one {ρ : Nat → Option Nat} {a b : List Value} (h : NL ρ a b) (hb : ∀ v ∈ b, v.oneCell' = true) : ∀ v ∈ a, v.oneCell' = true := by
  induction h with
  | nil => simp
  | cons h _ ih =>
    intro v hv
    rcases List.mem_cons.1 hv with rfl | hv
    · have := hb _ (List.mem_cons_self ..)
      cases h <;> first | exact this | rfl
    · exact ih (fun v hv => hb v (List.mem_cons_of_mem _ hv)) v hv
def AOr (ρ : Nat → Option Nat) (a b : AO) : Prop := match a with
  | .dead => True
  | .cells own room esz c e => ∃ own' c', b = .cells own' room esz c' e ∧ (own = true → own' = true) ∧ NL ρ c c'
  | .obj own o => ∃ own', b = .obj own' o ∧ (own = true → own' = true)
theorem AOr.own {ρ : Nat → Option Nat} {a b : AO} (h : AOr ρ a b) (ha : a.own = true) : b.own = true := by
  cases a with
  | dead => cases ha
  | cells own room esz c e => obtain ⟨own', c', rfl, h1, _⟩ := h; exact h1 ha
  | obj own o => obtain ⟨own', rfl, h1⟩ := h; exact h1 ha
theorem AOr.live {ρ : Nat → Option Nat} {a b : AO} (h : AOr ρ a b) (ha : a.live = true) : b.live = true := by
  cases a with
  | dead => cases ha
  | cells own room esz c e => obtain ⟨own', c', rfl, h1, _⟩ := h; rfl
  | obj own o => obtain ⟨own', rfl, h1⟩ := h; rfl
theorem AOr.or {ρ : Nat → Option Nat} {a b : AO} (h : AOr ρ a b) {σ : Sg} {w : World} {i : BI} (k : OR σ w i b) : OR (AM.via ρ σ) w i a := by
  cases a with
  | dead => trivial
  | cells own room esz c e =>
    obtain ⟨own', c', rfl, h1, h2⟩ := h
    obtain ⟨a1, a2, a3, a4, a9, d, fr, a5, a6, a7, a8⟩ := k
    have hl := h2.length
    exact ⟨by rw [hl]; exact a1, a2, a3, by rw [hl]; exact a4, h2.one a9, d, fr, a5, a6, by rw [hl]; exact h2.via a7, fun ho => a8 (h1 ho)⟩
  | obj own o => obtain ⟨own', rfl, h1⟩ := h; exact k
variable {P : Program} {ng : Nat} {f : FuncId} {args : List Value} {H H' H'' : AHeap} {v v'' : Value}
def Stood (ng : Nat) (args : List Value) (H : AHeap) (v : Value) : Prop := ∀ (σ : Sg) (w : World) (args' : List Value), HR ng σ H.get w → VL σ args args' → ∃ x, VR σ v x
theorem ARun.gc (h : ARun P ng f args H v H') (ρ : Nat → Option Nat) (hn : H.n ≤ H''.n)
    (r0 : ∀ b, b < H.n → ρ b = some b) (r1 : ∀ b c, ρ b = some c → b < H''.n ∧ (H.n ≤ b → H.n ≤ c)) (ri : ∀ b1 b2 c, ρ b1 = some c → ρ b2 = some c → b1 = b2)
    (ro : ∀ b c o', ρ b = some c → H'.get c = some o' → (b = c ∧ b < H.n ∧ H.get b = some o' ∧ H''.get b = some o') ∨ ∃ o'', H''.get b = some o'' ∧ AOr ρ o'' o')
    (rv : (v'' = v ∧ Stood ng args H v) ∨ NV ρ v'' v) : ARun P ng f args H v'' H'' := by
  obtain ⟨h0, h1, h2⟩ := h
  refine ⟨h0, hn, fun σ w args' hr ha => ?_⟩
  refine (h2 σ w args' hr ha).mono ?_
  rintro e w' ⟨v', σ', rfl, k1, k2, k3⟩
  have old : ∀ b i, σ b = some i → b < H.n := fun b i hb => by
    obtain ⟨o, g, _⟩ := hr.obj b i hb
    exact AHeap.get_lt g
  have sub : σ.le (AM.via ρ σ') := fun b i hb => via_of (r0 b (old b i hb)) (k2.sub b i hb)
  have back : ∀ b i, b < H.n → σ' b = some i → σ b = some i := fun b i hb hs => by
    cases hsb : σ b with
    | none => have := (k2.new b i hsb hs).1.1; omega
    | some j => have := k2.sub b j hsb; rw [hs] at this; exact this.symm
  have meet_le : (meet σ' σ).le (AM.via ρ σ') := fun b i hb => by
    unfold meet at hb
    split at hb
    · rename_i hs
      obtain ⟨j, hj⟩ := Option.isSome_iff_exists.1 hs
      exact via_of (r0 b (old b j hj)) hb
    · cases hb
  have obj : ∀ b i, AM.via ρ σ' b = some i → ∃ c o'' o', ρ b = some c ∧ σ' c = some i ∧ H''.get b = some o'' ∧ H'.get c = some o' ∧ OR (AM.via ρ σ') w' i o'' ∧ (o''.own = true → o'.own = true) ∧ (o''.live = true → o'.live = true) := by
    intro b i hb
    obtain ⟨c, hc, hs⟩ := via_inv hb
    obtain ⟨o', g1, g2⟩ := k1.obj c i hs
    rcases ro b c o' hc g1 with ⟨rfl, hlt, e1, e2⟩ | ⟨o'', e1, e2⟩
    · refine ⟨b, o', o', hc, hs, e2, g1, ?_, fun x => x, fun x => x⟩
      have hsb := back b i hlt hs
      obtain ⟨o2, f1, f2⟩ := hr.obj b i hsb
      rw [e1] at f1; cases f1
      exact (g2.meet f2).mono meet_le
    · exact ⟨c, o'', o', hc, hs, e1, g1, e2.or g2, e2.own, e2.live⟩
  refine ⟨v', AM.via ρ σ', rfl, ⟨?_, ?_, ?_, ?_⟩, ⟨sub, ?_, ?_, ?_, k2.keep, k2.size, hn, k2.os, k2.tape, k2.output⟩, ?_⟩
  · intro b i hb
    obtain ⟨c, o'', o', _, _, e1, _, e2, _⟩ := obj b i hb
    exact ⟨o'', e1, e2⟩
  · intro b1 b2 i1 i2 o1 o2 hne hb1 hb2 ho1 ho2 hw hl
    obtain ⟨c1, p1, q1, a1, a2, a3, a4, _, a5, _⟩ := obj b1 i1 hb1
    obtain ⟨c2, p2, q2, d1, d2, d3, d4, _, _, d6⟩ := obj b2 i2 hb2
    rw [ho1] at a3; cases a3
    rw [ho2] at d3; cases d3
    exact k1.inj c1 c2 i1 i2 q1 q2 (fun hc => by subst hc; exact hne (ri b1 b2 c1 a1 d1)) a2 d2 a4 d4 (a5 hw) (d6 hl)
  · intro b i hb
    obtain ⟨c, _, hs⟩ := via_inv hb
    exact k1.lt c i hs
  · intro g hg
    obtain ⟨i, g1, g2, g3⟩ := hr.glob g hg
    exact ⟨i, sub g i g1, g2, g3⟩
  · intro b i hb hs
    obtain ⟨c, hc, hs'⟩ := via_inv hs
    by_cases hlt : b < H.n
    · have := r0 b hlt
      rw [hc] at this; cases this
      rw [back b i hlt hs'] at hb; cases hb
    · have hcn := (r1 b c hc).2 (by omega)
      have hsc : σ c = none := by
        cases hsc : σ c with
        | none => rfl
        | some j => have := old c j hsc; omega
      exact ⟨⟨by omega, (r1 b c hc).1⟩, (k2.new c i hsc hs').2⟩
  · intro b i o'' hb ho hw
    obtain ⟨c, p1, q1, a1, a2, a3, a4, _, a5, _⟩ := obj b i (sub b i hb)
    rw [r0 b (old b i hb)] at a1; cases a1
    rw [ho] at a3; cases a3
    exact k2.own b i q1 hb a4 (a5 hw)
  · intro b i o'' hb ho hw
    obtain ⟨c, p1, q1, a1, a2, a3, a4, _, _, a6⟩ := obj b i (sub b i hb)
    rw [r0 b (old b i hb)] at a1; cases a1
    rw [ho] at a3; cases a3
    exact k2.live b i q1 hb a4 (a6 hw)
  · rcases rv with ⟨rfl, hst⟩ | hrv
    · obtain ⟨x, hx⟩ := hst σ w args' hr ha
      exact (k3.meet hx).mono meet_le
    · exact hrv.via k3
theorem NV.plain {ρ : Nat → Option Nat} {v : Value} (h : plain1 v = true) : NV ρ v v := by
  unfold plain1 at h
  split at h <;> first | constructor | cases h
theorem NL.plain {ρ : Nat → Option Nat} : ∀ {l : List Value}, l.all plain1 = true → NL ρ l l
  | [], _ => .nil
  | v :: l, h => by
    simp only [List.all_cons, Bool.and_eq_true] at h
    exact .cons (NV.plain h.1) (NL.plain h.2)
theorem NL.get {ρ : Nat → Option Nat} {l l' : List Value} (h : NL ρ l l') : ∀ (i : Nat) (a : i < l.length) (b : i < l'.length), NV ρ l[i] l'[i] := by
  induction h with
  | nil => intro i a; simp at a
  | cons h _ ih =>
    intro i a b
    cases i with
    | zero => exact h
    | succ i => exact ih i (by simpa using a) (by simpa using b)
theorem NV.agg_of {ρ : Nat → Option Nat} {l l' : List Value} (h : NL ρ l l') : NV ρ (.agg l.toArray) (.agg l'.toArray) :=
  .agg _ _ (by simpa using h.length) (fun i a b => by simpa using h.get i (by simpa using a) (by simpa using b))
theorem NV.tuple_of {ρ : Nat → Option Nat} {l l' : List Value} (h : NL ρ l l') : NV ρ (.tuple l.toArray) (.tuple l'.toArray) :=
  .tuple _ _ (by simpa using h.length) (fun i a b => by simpa using h.get i (by simpa using a) (by simpa using b))
def rho (n : Nat) (bs : List Nat) : Nat → Option Nat := fun b => if b < n then some b else bs[b - n]?
theorem rho_old {n : Nat} {bs : List Nat} {b : Nat} (h : b < n) : rho n bs b = some b := by unfold rho; rw [if_pos h]
theorem ARun.gc0 (h : ARun P ng f args H v H') (k : Keeps H H') (hv : Stood ng args H v ∨ NV (rho H.n []) v v) : ARun P ng f args H v H := by
  refine h.gc (rho H.n []) (Nat.le_refl _) (fun b hb => rho_old hb) ?_ ?_ ?_ ?_
  · intro b c hb
    unfold rho at hb
    split at hb
    · cases hb; exact ⟨by assumption, by omega⟩
    · simp at hb
  · intro b1 b2 c h1 h2
    unfold rho at h1 h2
    split at h1 <;> split at h2 <;> simp_all
  · intro b c o' hb ho
    unfold rho at hb
    split at hb
    · rename_i hlt
      cases hb
      have := k.get b hlt
      rw [ho] at this
      exact .inl ⟨rfl, hlt, this.symm, this.symm⟩
    · simp at hb
  · rcases hv with hv | hv
    · exact .inl ⟨rfl, hv⟩
    · exact .inr hv
theorem ARun.gcs (h : ARun P ng f args H v H') (bs : List Nat) (hn : H''.n = H.n + bs.length) (hge : ∀ b ∈ bs, H.n ≤ b) (hnd : bs.Nodup)
    (hold : ∀ b o', b < H.n → H'.get b = some o' → (H.get b = some o' ∧ H''.get b = some o') ∨ ∃ o'', H''.get b = some o'' ∧ AOr (rho H.n bs) o'' o')
    (hnew : ∀ i b o', bs[i]? = some b → H'.get b = some o' → ∃ o'', H''.get (H.n + i) = some o'' ∧ AOr (rho H.n bs) o'' o')
    (hv : (v'' = v ∧ Stood ng args H v) ∨ NV (rho H.n bs) v'' v) : ARun P ng f args H v'' H'' := by
  refine h.gc (rho H.n bs) (by omega) (fun b hb => rho_old hb) ?_ ?_ ?_ hv
  · intro b c hb
    unfold rho at hb
    split at hb
    · cases hb; exact ⟨by omega, by omega⟩
    · obtain ⟨h1, h2⟩ := List.getElem?_eq_some_iff.1 hb
      exact ⟨by omega, fun _ => hge c (List.mem_of_getElem? hb)⟩
  · intro b1 b2 c h1 h2
    unfold rho at h1 h2
    split at h1 <;> split at h2
    · cases h1; cases h2; rfl
    · cases h1; have := hge _ (List.mem_of_getElem? h2); omega
    · cases h2; have := hge _ (List.mem_of_getElem? h1); omega
    · obtain ⟨a1, a2⟩ := List.getElem?_eq_some_iff.1 h1
      obtain ⟨d1, d2⟩ := List.getElem?_eq_some_iff.1 h2
      have := (List.getElem_inj hnd).1 (a2.trans d2.symm)
      omega
  · intro b c o' hb ho
    unfold rho at hb
    split at hb
    · rename_i hlt
      cases hb
      rcases hold b o' hlt ho with h | h
      · exact .inl ⟨rfl, hlt, h⟩
      · exact .inr h
    · obtain ⟨o'', e1, e2⟩ := hnew _ c o' hb ho
      exact .inr ⟨o'', by rw [show H.n + (b - H.n) = b by omega] at e1; exact e1, e2⟩
structure OB (e : Nat) (H K : AHeap) (v : Value) (l : List UInt8) : Prop where
  ap : AP K e 1 v l.length (cellsOf l)
  k : Keeps H K
  f : Fresh H.n v
theorem OB.bs {e : Nat} {H K : AHeap} {v : Value} {l : List UInt8} (h : OB e H K v l) : BS K v l := h.ap.bs
theorem OB.bq {e : Nat} {H K : AHeap} {v : Value} {l : List UInt8} (h : OB e H K v l) : BQ K v l := h.ap.bq
theorem OB.keeps {e : Nat} {H K K' : AHeap} {v : Value} {l : List UInt8} (h : OB e H K v l) (k : Keeps K K') : OB e H K' v l := ⟨h.ap.keeps k, h.k.trans k, h.f⟩
theorem OB.base {e : Nat} {H0 H K : AHeap} {v : Value} {l : List UInt8} (h : OB e H K v l) (k : Keeps H0 H) : OB e H0 K v l := ⟨h.ap, k.trans h.k, fun b hb => Nat.le_trans k.n (h.f b hb)⟩
theorem OB.nil (e : Nat) (H : AHeap) : OB e H H (.slice none 0 0) [] := ⟨.inl ⟨rfl, rfl, rfl⟩, Keeps.refl _, fun b hb => by cases hb⟩
theorem OB.one {e : Nat} {H K : AHeap} {v : Value} {l : List UInt8} (h : OB e H K v l) : v.oneCell' = true := by obtain ⟨a, rfl⟩ := h.ap.shape; rfl
theorem OB.is {e : Nat} {H K : AHeap} {v : Value} {l : List UInt8} (h : OB e H K v l) : isS v = true := by obtain ⟨a, rfl⟩ := h.ap.shape; rfl
theorem OB.len {e : Nat} {H K : AHeap} {v : Value} {l : List UInt8} (h : OB e H K v l) : lenS v = l.length := by obtain ⟨a, rfl⟩ := h.ap.shape; rfl
theorem OB.grow {e : Nat} {H K K' : AHeap} {v v' : Value} {l m : List UInt8} (h : OB e H K v l) (a : AP K' e 1 v' (l.length + m.length) (cellsOf l ++ cellsOf m)) (c : Chg (blkL v) K K') (hb : blk v' = blk v ∨ blk v' = some K.n) : OB e H K' v' (l ++ m) := by
  refine ⟨by rw [List.length_append, cellsOf_append]; exact a, h.k.chg_trans c (fun x hx => h.f x (mem_blkL.1 hx)), fun b hb' => ?_⟩
  rcases hb with e1 | e1
  · exact h.f b (by rw [← e1]; exact hb')
  · rw [e1] at hb'; cases hb'; exact h.k.n
section
variable {KF : List Value → AHeap → Prop} {fr tm : List Value} {tr : List TE} {K : AHeap}
theorem OB.appR {d : D} {r : List AOper} {e : Nat} {s x : Value} {l m : List UInt8} (h : OB e H K s l) (hx : BS K x m) (hs : l.length + m.length ≤ 1000000000)
    (hk : ∀ v' K', OB e H K' v' (l ++ m) → RW P ng r (d.frame v' fr) (d.temps v' tm) K' KF) : goR P ng (asem (.app e 1 1 s x) K) d r fr tm KF :=
  appG h.ap hx.sh hx.el (by rw [cellsOf_length, Nat.mul_one]) (by omega) (fun v' K' a c hb => hk v' K' (h.grow a c hb))
theorem OB.appD {d : D} {r : List (AOper × List Nat)} {e : Nat} {s x : Value} {l m : List UInt8} (h : OB e H K s l) (hx : BS K x m) (hs : l.length + m.length ≤ 1000000000)
    (hk : ∀ v' K', OB e H K' v' (l ++ m) → RD P ng r (d.frame v' fr) (d.temps v' tm) K' (tr ++ [⟨3, [], K, K'⟩]) KF) : goD P ng (.app e 1 1 s x) (asem (.app e 1 1 s x) K) d [] r fr tm K tr KF :=
  appGD h.ap hx.sh hx.el (by rw [cellsOf_length, Nat.mul_one]) (by omega) (fun v' K' a c hb => hk v' K' (h.grow a c hb))
end
theorem callP {xs : List Value} {K : Value → AHeap → Prop} (h : ∃ w H', ARun P ng f xs H w H' ∧ w = v ∧ H' = H) (k : K v H) : ∃ v H', ARun P ng f xs H v H' ∧ K v H' := by
  obtain ⟨w, H', h1, rfl, rfl⟩ := h
  exact ⟨_, _, h1, k⟩
end Go.AM

set_option linter.unusedSimpArgs false
set_option linter.unusedVariables false
namespace Go.AM.Fd
open Nat (reduceAdd reduceEqDiff reduceLT reduceLeDiff reduceMul reduceSub)
open Go.Proofs Go.AM.F
theorem RR.gc {P : Program} {ng : Nat} {f : FuncId} {args : List Value} {H H' : AHeap} {lo hi r s s' : Nat} {l : List UInt8} {k : IntKind} {n : Int} (h : RR H lo hi r l s) (a : ARun P ng f args H (.int k n) H') (h' : RR H' lo hi r l s') (c : Chg [r] H H') :
    ∃ o, ARun P ng f args H (.int k n) (H.set r o) ∧ RR (H.set r o) lo hi r l s' := by
  obtain ⟨h1, h2, h3, bv, h4, h5, v0, g0, _⟩ := h
  obtain ⟨_, _, h3', bv', h4', h5', v', g', hv'⟩ := h'
  have gs : (H.set r (.cells true false 2 [v', .bool (decide (l.length < s'))] 171)).get r = some (.cells true false 2 [v', .bool (decide (l.length < s'))] 171) := AHeap.get_set_same g0 _
  have hrn := AHeap.get_lt g0
  have old : ∀ b, b ≠ r → (H.set r (.cells true false 2 [v', .bool (decide (l.length < s'))] 171)).get b = H.get b := fun b hb => AHeap.get_set_other _ hb hrn _
  refine ⟨.cells true false 2 [v', .bool (decide (l.length < s'))] 171, ?_, h1, h2, h3, bv', h4', h5', v', gs, ?_⟩
  · refine a.gcs [] rfl (by simp) (by simp) ?_ (by simp) (.inr (.int _ _))
    intro b o' hb ho
    by_cases hbr : b = r
    · subst hbr
      rw [g'] at ho; cases ho
      refine .inr ⟨_, gs, true, _, rfl, fun x => x, .cons ?_ (.cons (.bool _) .nil)⟩
      rcases hv' with ⟨rfl, _⟩ | ⟨o, c2, rm, rfl, _⟩
      · exact .nilSl
      · exact .sl (rho_old (by omega))
    · rw [Chg1.get c hb hbr] at ho
      exact .inl ⟨ho, by rw [old b hbr]; exact ho⟩
  · rcases hv' with ⟨rfl, e1, e2⟩ | ⟨o, c2, rm, rfl, e1, e2, e3, e4⟩
    · exact .inl ⟨rfl, e1, e2⟩
    · exact .inr ⟨o, c2, rm, rfl, by rw [old _ e2, ← Chg1.get c (by omega) e2]; exact e1, e2, e3, e4⟩
section
variable {H : AHeap} {lo hi r s : Nat} {l : List UInt8}
theorem e63 (h : RR H lo hi r l s) (hl : l.length ≤ 1000000000) : ∃ v H', ARun Go.Proofs.Try.prog 0 63 [ptr r 0] H v H' ∧ v = .int .u8 (na l s 1 : Nat) ∧ ∃ o, H' = H.set r o ∧ RR (H.set r o) lo hi r l (s + 1) := by
  obtain ⟨_, H', a, rfl, b, c⟩ := q63 h hl
  obtain ⟨o, p, q⟩ := h.gc a b c
  exact ⟨_, _, p, rfl, o, rfl, q⟩
theorem e75 (h : RR H lo hi r l s) (hl : l.length ≤ 1000000000) : ∃ v H', ARun Go.Proofs.Try.prog 0 75 [ptr r 0] H v H' ∧ v = .int .u16 (na l s 2 : Nat) ∧ ∃ o, H' = H.set r o ∧ RR (H.set r o) lo hi r l (s + 2) := by
  obtain ⟨_, H', a, rfl, b, c⟩ := q75 h hl
  obtain ⟨o, p, q⟩ := h.gc a b c
  exact ⟨_, _, p, rfl, o, rfl, q⟩
theorem e65 (h : RR H lo hi r l s) (hl : l.length ≤ 1000000000) : ∃ v H', ARun Go.Proofs.Try.prog 0 65 [ptr r 0] H v H' ∧ v = .int .u32 (na l s 4 : Nat) ∧ ∃ o, H' = H.set r o ∧ RR (H.set r o) lo hi r l (s + 4) := by
  obtain ⟨_, H', a, rfl, b, c⟩ := q65 h hl
  obtain ⟨o, p, q⟩ := h.gc a b c
  exact ⟨_, _, p, rfl, o, rfl, q⟩
theorem e64 (h : RR H lo hi r l s) (hl : l.length ≤ 1000000000) : ∃ v H', ARun Go.Proofs.Try.prog 0 64 [ptr r 0] H v H' ∧ v = .int .u64 (na l s 8 : Nat) ∧ ∃ o, H' = H.set r o ∧ RR (H.set r o) lo hi r l (s + 8) := by
  obtain ⟨_, H', a, rfl, b, c⟩ := q64 h hl
  obtain ⟨o, p, q⟩ := h.gc a b c
  exact ⟨_, _, p, rfl, o, rfl, q⟩
theorem RR.alloc (h : RR H lo hi r l s) (o : AO) : RR (H.alloc o) lo hi r l s := h.keeps ((Keeps.refl H).alloc o)
theorem RR.lt (h : RR H lo hi r l s) : r < H.n := Nat.lt_of_lt_of_le h.2.1 h.2.2.1
theorem RR.set (h : RR H lo hi r l s) {b : Nat} (hb : hi ≤ b) (hn : b < H.n) (o : AO) : RR (H.set b o) lo hi r l s := h.chg (Chg.set H hn o) (.inr hb)
end
end Go.AM.Fd

set_option linter.unusedSimpArgs false
set_option linter.unusedVariables false
namespace Go.AM.Fd
open Nat (reduceAdd reduceEqDiff reduceLT reduceLeDiff reduceMul reduceSub)
open Go.Proofs Go.AM.F
def strB (l : List UInt8) : Value := .string ⟨l.toArray⟩
theorem cLiG (v : Value) (x : Li) : (cLi v x)[0]? = some (.int .u8 (x.f : Nat)) ∧ (cLi v x)[1]? = some (.int .u8 (x.t : Nat)) ∧ (cLi v x)[2]? = some (.int .i64 x.q) ∧ (cLi v x)[3]? = some (.int .i64 x.k) ∧ (cLi v x)[4]? = some v := ⟨rfl, rfl, rfl, rfl, rfl⟩
end Go.AM.Fd

set_option linter.unusedSimpArgs false
set_option linter.unusedVariables false
namespace Go.AM.Fd
open Nat (reduceAdd reduceEqDiff reduceLT reduceLeDiff reduceMul reduceSub)
open Go.Proofs Go.AM.F
theorem chk_ne (l : List UInt8) : chk l ≠ [] := by
  intro h
  have := congrArg List.length h
  rw [chk_len] at this; simp at this
theorem geLi_some {b : List UInt8} {y : Li} (h : geLi b = some y) : fLi y = b ∧ rgLi y ∧ y = deLi (bd b) ∧ b.length = 25 + y.B.length := by
  unfold geLi at h
  split at h
  · rename_i hf
    have hd : y = deLi (bd b) := by unfold pdLi at h; split at h; exact (Option.some.inj h).symm; cases h
    obtain ⟨h1, h2, h3⟩ := pdLi_e h
    have h5 := frm_len hf
    have hl := enLi_len y
    rw [h1, bd_len] at hl
    refine ⟨?_, h3, hd, by omega⟩
    unfold fLi
    rw [if_pos h2, h1]
    exact (frm_eq hf).symm
  · cases h
theorem geLi_of {x : Li} (hr : rgLi x) {b : List UInt8} (hb : b ≠ []) (h : fLi x = b) : geLi b = some x := by
  unfold fLi at h
  split at h
  · rename_i hok
    subst h
    unfold geLi
    have e : frm 5 (chk (5 :: enLi x)) = true := frm_chk (k := 5) _
    rw [if_pos e, bd_chk, pdLi_d hok hr]
  · exact absurd h.symm hb
theorem touch_b2s (v : Value) (X : AHeap) : touchA (.b2s v) X = tb v := by
  unfold touchA
  have : clsA (.b2s v) = 1 := rfl
  rw [if_pos this]
  cases v <;> try rfl
  rename_i a n k
  cases a with
  | none => rfl
  | some a =>
    obtain ⟨b, o, z⟩ := a
    cases z <;> rfl
theorem tbk {H K : AHeap} {v : Value} {b : List UInt8} (h : BS H v b) (k : Keeps H K) : olderB (tb v) H ∧ keepsB (tb v) H K := ⟨tb_older h.tbl, tb_keeps (fun y hy => ⟨h.tbl y hy, by simp⟩) (k.chg [])⟩
end Go.AM.Fd
