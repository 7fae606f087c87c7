/- Part of the proof: FdE. -/
import Derived.Test.YtfkboffbaikhoaaFdD
set_option linter.unusedSimpArgs false
set_option linter.unusedVariables false
namespace Go.AM.Fd
open Go.Proofs

/-- slices.Clone. -/
theorem t31 {H : AHeap} {x : Value} {l : List UInt8} (hx : BS H x l) (hl : l.length ≤ 1000000000) : ∃ v H', ARun Try.prog 0 31 [x] H v H' ∧
    AP H' 5 1 v l.length (cellsOf l) ∧ Keeps H H' ∧ Fresh H.n v := by
  refine walk f31_ok f31_n ?_
  obtain ⟨a, k, rfl⟩ := hx.sh
  cases a with
  | none =>
    have hl0 : l = [] := by
      have := hx.el
      simp only [elemsA, Option.some.injEq] at this
      have := congrArg List.length this
      rw [cellsOf_length] at this
      exact List.length_eq_zero_iff.1 this.symm
    subst hl0
    simp only [f31, initFr, ↓reduceIte, RD_nil, RD_cons, RD_consg, W_dreg, obl_nil, Nat.reduceAdd, Nat.add_zero, Nat.zero_add, Nat.mul_one, Int.toNat_natCast, W_skip, W_reg, W_seq, W_cond, W_block, W_exit, W_ret, getD_nil', RW_nil, RW_cons, RW_consg, AOp.map, AX_fr, AX_tm, AX_c, AX_fn, AX_g, D_no, D_no', D_tm, D_tm', D_fr, D_fr', List.getD_cons_zero, List.getD_cons_succ, List.set_cons_zero, List.set_cons_succ, List.map_cons, List.map_nil, Option.map_some, Option.map_none, wantA, beq_self_eq_true, if_true, Bool.false_eq_true, if_false, Bool.not_true, Bool.not_false, s_mov, s_pick, s_new, s_box, s_build, s_bslice, s_load1, s_loadn, s_nilck, s_bin, s_eqv, s_not, s_neg, s_i2i, s_s2s, s_s2b, s_iface, s_mkfn, s_faddr, s_fld1, s_iaddr, s_idxs, s_assert, s_extract, s_len, s_lens, s_lenc, s_callf, resO0, resO1, resO2, resO3, List.getElem?_cons_zero, List.getElem?_cons_succ, Nat.reduceEqDiff, true_and, and_true, false_and, e_sn, e_ss, e_pn, e_ps, e_bb, fill0, fill1, b_add, b_sub, b_mul, b_eql, b_neq, b_lss, b_leq, b_gtr, b_geq, b_and, b_or, b_xor, b_seql, b_sneq, b_slss, AQ.andThen, AQ.inBlock, Option.some.injEq, exists_eq_left', exists_eq_left, reduceCtorEq, Exit.exit.injEq]
    exact ⟨.inl ⟨rfl, rfl, rfl⟩, Keeps.refl H, fun b hb => by cases hb⟩
  | some a =>
    simp only [f31, initFr, ↓reduceIte, RD_nil, RD_cons, RD_consg, W_dreg, obl_nil, Nat.reduceAdd, Nat.add_zero, Nat.zero_add, Nat.mul_one, Int.toNat_natCast, W_skip, W_reg, W_seq, W_cond, W_block, W_exit, W_ret, getD_nil', RW_nil, RW_cons, RW_consg, AOp.map, AX_fr, AX_tm, AX_c, AX_fn, AX_g, D_no, D_no', D_tm, D_tm', D_fr, D_fr', List.getD_cons_zero, List.getD_cons_succ, List.set_cons_zero, List.set_cons_succ, List.map_cons, List.map_nil, Option.map_some, Option.map_none, wantA, beq_self_eq_true, if_true, Bool.false_eq_true, if_false, Bool.not_true, Bool.not_false, s_mov, s_pick, s_new, s_box, s_build, s_bslice, s_load1, s_loadn, s_nilck, s_bin, s_eqv, s_not, s_neg, s_i2i, s_s2s, s_s2b, s_iface, s_mkfn, s_faddr, s_fld1, s_iaddr, s_idxs, s_assert, s_extract, s_len, s_lens, s_lenc, s_callf, resO0, resO1, resO2, resO3, List.getElem?_cons_zero, List.getElem?_cons_succ, Nat.reduceEqDiff, true_and, and_true, false_and, e_sn, e_ss, e_pn, e_ps, e_bb, fill0, fill1, b_add, b_sub, b_mul, b_eql, b_neq, b_lss, b_leq, b_gtr, b_geq, b_and, b_or, b_xor, b_seql, b_sneq, b_slss, AQ.andThen, AQ.inBlock, Option.some.injEq, exists_eq_left', exists_eq_left, reduceCtorEq, Exit.exit.injEq]
    refine ⟨⟨rfl, rfl⟩, s_appAP (.inr ⟨_, _, rfl, rfl, AHeap.get_alloc_new H _⟩) ⟨_, _, rfl⟩ (hx.keeps ((Keeps.refl H).alloc _)).el (by rw [cellsOf_length]; omega) (by omega) ?_⟩
    intro v' H' k1 k2 k3
    rw [Nat.zero_add, List.nil_append] at k1
    have hf : Fresh H.n (slc H.n 0 0 0) := fun b hb => by cases hb; exact Nat.le_refl _
    exact ⟨k1, ((Keeps.refl H).alloc _).chg_trans k2 hf.L, Fresh.app hf (by rw [alloc_n]; omega) k3⟩

/-- The bytes' number in the type that a number has. -/
def wd (t : Nat) : Nat := if t = 5 then 1 else if t = 54 then 2 else if t = 56 then 4 else 8
def kd (t : Nat) : IntKind := if t = 5 then .u8 else if t = 54 then .u16 else if t = 56 then .u32 else .u64

theorem t35 (t n : Nat) (ht : t = 5 ∨ t = 54 ∨ t = 56 ∨ t = 28) (hn : n < 256 ^ wd t) (H : AHeap) : ARun Try.prog 0 35 [.iface t (.int (kd t) n)] H (.tuple #[.int .u64 n, .int .i64 (wd t)]) H := by
  suffices h : ∃ v H', ARun Try.prog 0 35 [.iface t (.int (kd t) n)] H v H' ∧ v = .tuple #[.int .u64 n, .int .i64 (wd t)] ∧ H' = H by
    obtain ⟨v, H', h1, h2, h3⟩ := h
    rw [h2, h3] at h1; exact h1
  refine walk f35_ok f35_n ?_
  rcases ht with rfl | rfl | rfl | rfl <;> simp only [f35, initFr, kd, wd, ↓reduceIte, RD_nil, RD_cons, RD_consg, W_dreg, obl_nil, Nat.reduceAdd, Nat.add_zero, Nat.zero_add, Nat.mul_one, Int.toNat_natCast, W_skip, W_reg, W_seq, W_cond, W_block, W_exit, W_ret, getD_nil', RW_nil, RW_cons, RW_consg, AOp.map, AX_fr, AX_tm, AX_c, AX_fn, AX_g, D_no, D_no', D_tm, D_tm', D_fr, D_fr', List.getD_cons_zero, List.getD_cons_succ, List.set_cons_zero, List.set_cons_succ, List.map_cons, List.map_nil, Option.map_some, Option.map_none, wantA, beq_self_eq_true, if_true, Bool.false_eq_true, if_false, Bool.not_true, Bool.not_false, s_mov, s_pick, s_new, s_box, s_build, s_bslice, s_load1, s_loadn, s_nilck, s_bin, s_eqv, s_not, s_neg, s_i2i, s_s2s, s_s2b, s_iface, s_mkfn, s_faddr, s_fld1, s_iaddr, s_idxs, s_assert, s_extract, s_len, s_lens, s_lenc, s_callf, resO0, resO1, resO2, resO3, List.getElem?_cons_zero, List.getElem?_cons_succ, Nat.reduceEqDiff, true_and, and_true, false_and, e_sn, e_ss, e_pn, e_ps, e_bb, fill0, fill1, b_add, b_sub, b_mul, b_eql, b_neq, b_lss, b_leq, b_gtr, b_geq, b_and, b_or, b_xor, b_seql, b_sneq, b_slss, AQ.andThen, AQ.inBlock, Option.some.injEq, exists_eq_left', exists_eq_left, reduceCtorEq, Exit.exit.injEq, Nat.reduceEqDiff] at hn ⊢ <;> (try rw [wrap_u64]) <;> (try rw [Int.emod_eq_of_lt (by omega) (by omega)]) <;> trivial

/-! ### Writers -/

/-- A writer at block b, its bytes in block bv (b: none yet). -/
def WS (H : AHeap) (b bv : Nat) (l : List UInt8) : Prop :=
  ∃ v, H.get b = some (.cells true false 1 [v] 27) ∧ AP H 5 1 v l.length (cellsOf l) ∧ (blk v = none ∧ bv = b ∨ blk v = some bv ∧ bv ≠ b)

theorem WS.lt {H : AHeap} {b bv : Nat} {l : List UInt8} (h : WS H b bv l) : b < H.n ∧ bv < H.n := by
  obtain ⟨v, h1, h2, h3⟩ := h
  have := AHeap.get_lt h1
  refine ⟨this, ?_⟩
  rcases h3 with ⟨_, rfl⟩ | ⟨h3, _⟩
  · exact this
  · exact h2.lt h3
theorem WS.chg {H H' : AHeap} {b bv : Nat} {l : List UInt8} {S : List Nat} (h : WS H b bv l) (k : Chg S H H') (h1 : b ∉ S) (h2 : bv ∉ S) : WS H' b bv l := by
  obtain ⟨v, a1, a2, a3⟩ := h
  refine ⟨v, k.at_ a1 h1, a2.chg k ?_, a3⟩
  intro x hx
  rw [mem_blkL] at hx
  rcases a3 with ⟨e, _⟩ | ⟨e, _⟩
  · rw [e] at hx; cases hx
  · rw [e] at hx; cases hx; exact h2

/-- Bytes are put. -/
theorem WS.app {H : AHeap} {b bv : Nat} {l m : List UInt8} {x : Value} (h : WS H b bv l) (hx : BS H x m) (hl : l.length + m.length ≤ 1000000000) :
    ∃ v v' H1, H.get b = some (.cells true false 1 [v] 27) ∧ (∀ K : Value → AHeap → Prop, K v' H1 → stepA Try.prog 0 (.app 5 1 1 v x) H K) ∧ H1.get b = some (.cells true false 1 [v] 27) ∧ v'.oneCell' = true ∧
      ∃ bv', WS (H1.set b (.cells true false 1 [v'] 27)) b bv' (l ++ m) ∧ (bv' = bv ∨ H.n ≤ bv') ∧ Chg [b, bv] H (H1.set b (.cells true false 1 [v'] 27)) := by
  obtain ⟨v, h1, h2, h3⟩ := h
  obtain ⟨a, k, rfl⟩ := hx.sh
  obtain ⟨v', H', k1, k2, k3, k4⟩ := h2.app (bytes := 1) (news := cellsOf m) (m := m.length) (by rw [cellsOf_length]; omega) (by omega)
  have hb : b ∉ blkL v := by
    rw [mem_blkL]
    rcases h3 with ⟨e, _⟩ | ⟨e, hne⟩
    · rw [e]; simp
    · rw [e]; simpa using hne
  have hbn := AHeap.get_lt h1
  have hb1 := k3.at_ h1 hb
  have hS : ∀ x ∈ blkL v, x ∈ [b, bv] ∨ H.n ≤ x := by
    intro x hx
    rw [mem_blkL] at hx
    rcases h3 with ⟨e, _⟩ | ⟨e, hne⟩
    · rw [e] at hx; cases hx
    · rw [e] at hx; cases hx; simp
  have hv'b : blk v' ≠ some b := by
    rcases k4 with k4 | k4
    · exact fun e => hb (mem_blkL.2 (k4 ▸ e))
    · rw [k4]; simp; omega
  refine ⟨v, v', H', h1, fun K hK => by rw [s_app rfl hx.el k1]; exact hK, hb1, ?_, ?_⟩
  · obtain ⟨a', ha⟩ := k2.shape
    rw [ha]; rfl
  have hset := Chg.set H' (AHeap.get_lt hb1) (.cells true false 1 [v'] 27)
  have hW : AP (H'.set b (.cells true false 1 [v'] 27)) 5 1 v' (l ++ m).length (cellsOf (l ++ m)) := by
    rw [List.length_append, cellsOf_append]
    refine k2.chg hset ?_
    intro x hx
    rw [mem_blkL] at hx
    intro e
    simp only [List.mem_singleton] at e
    subst e
    exact hv'b hx
  have hC : Chg [b, bv] H (H'.set b (.cells true false 1 [v'] 27)) := by
    refine Chg.trans (S := [b, bv]) (Chg.mono k3 (fun x hx => ?_)) hset (by simp)
    rcases hS x hx with h | h
    · exact h
    · rw [mem_blkL] at hx
      have := h2.lt hx
      omega
  cases hbv : blk v' with
  | none =>
    have hbl : blk v = none := by
      rcases k4 with k4 | k4
      · rw [← k4]; exact hbv
      · rw [hbv] at k4; cases k4
    refine ⟨bv, ⟨v', AHeap.get_set_same hb1 _, hW, .inl ⟨hbv, ?_⟩⟩, .inl rfl, hC⟩
    rcases h3 with ⟨_, e⟩ | ⟨e, _⟩
    · exact e
    · rw [hbl] at e; cases e
  | some x =>
    refine ⟨x, ⟨v', AHeap.get_set_same hb1 _, hW, .inr ⟨hbv, fun e => hv'b (by rw [hbv, e])⟩⟩, ?_, hC⟩
    rcases k4 with k4 | k4
    · rw [hbv] at k4
      rcases h3 with ⟨e, _⟩ | ⟨e, _⟩
      · rw [e] at k4; cases k4
      · rw [e] at k4; cases k4; exact .inl rfl
    · rw [hbv] at k4; cases k4; exact .inr (Nat.le_refl _)

/-- (*Writer).put. -/
theorem t33 {H : AHeap} {b bv : Nat} {l : List UInt8} (h : WS H b bv l) (t n : Nat) (ht : t = 5 ∨ t = 54 ∨ t = 56 ∨ t = 28) (hn : n < 256 ^ wd t) (hl : l.length ≤ 100000000) :
    ∃ v H', ARun Try.prog 0 33 [ptr b 0, .iface t (.int (kd t) n)] H v H' ∧ ∃ bv', WS H' b bv' (l ++ be (wd t) n) ∧ (bv' = bv ∨ H.n ≤ bv') ∧ Chg [b, bv] H H' := by
  refine walk f33_ok f33_n ?_
  have r35 := t35 t n ht hn H
  have hw : 1 ≤ wd t ∧ wd t ≤ 8 := by rcases ht with rfl | rfl | rfl | rfl <;> simp [wd]
  simp only [f33, initFr, ↓reduceIte, RD_nil, RD_cons, RD_consg, W_dreg, obl_nil, Nat.reduceAdd, Nat.add_zero, Nat.zero_add, Nat.mul_one, Int.toNat_natCast, W_skip, W_reg, W_seq, W_cond, W_block, W_exit, W_ret, getD_nil', RW_nil, RW_cons, RW_consg, AOp.map, AX_fr, AX_tm, AX_c, AX_fn, AX_g, D_no, D_no', D_tm, D_tm', D_fr, D_fr', List.getD_cons_zero, List.getD_cons_succ, List.set_cons_zero, List.set_cons_succ, List.map_cons, List.map_nil, Option.map_some, Option.map_none, wantA, beq_self_eq_true, if_true, Bool.false_eq_true, if_false, Bool.not_true, Bool.not_false, s_mov, s_pick, s_new, s_box, s_build, s_bslice, s_load1, s_loadn, s_nilck, s_bin, s_eqv, s_not, s_neg, s_i2i, s_s2s, s_s2b, s_iface, s_mkfn, s_faddr, s_fld1, s_iaddr, s_idxs, s_assert, s_extract, s_len, s_lens, s_lenc, s_callf, resO0, resO1, resO2, resO3, List.getElem?_cons_zero, List.getElem?_cons_succ, Nat.reduceEqDiff, true_and, and_true, false_and, e_sn, e_ss, e_pn, e_ps, e_bb, fill0, fill1, b_add, b_sub, b_mul, b_eql, b_neq, b_lss, b_leq, b_gtr, b_geq, b_and, b_or, b_xor, b_seql, b_sneq, b_slss, AQ.andThen, AQ.inBlock, Option.some.injEq, exists_eq_left', exists_eq_left, reduceCtorEq, Exit.exit.injEq]
  refine ⟨_, _, r35, ?_⟩
  simp only [↓reduceIte, RD_nil, RD_cons, RD_consg, W_dreg, obl_nil, Nat.reduceAdd, Nat.add_zero, Nat.zero_add, Nat.mul_one, Int.toNat_natCast, W_skip, W_reg, W_seq, W_cond, W_block, W_exit, W_ret, getD_nil', RW_nil, RW_cons, RW_consg, AOp.map, AX_fr, AX_tm, AX_c, AX_fn, AX_g, D_no, D_no', D_tm, D_tm', D_fr, D_fr', List.getD_cons_zero, List.getD_cons_succ, List.set_cons_zero, List.set_cons_succ, List.map_cons, List.map_nil, Option.map_some, Option.map_none, wantA, beq_self_eq_true, if_true, Bool.false_eq_true, if_false, Bool.not_true, Bool.not_false, s_mov, s_pick, s_new, s_box, s_build, s_bslice, s_load1, s_loadn, s_nilck, s_bin, s_eqv, s_not, s_neg, s_i2i, s_s2s, s_s2b, s_iface, s_mkfn, s_faddr, s_fld1, s_iaddr, s_idxs, s_assert, s_extract, s_len, s_lens, s_lenc, s_callf, resO0, resO1, resO2, resO3, List.getElem?_cons_zero, List.getElem?_cons_succ, Nat.reduceEqDiff, true_and, and_true, false_and, e_sn, e_ss, e_pn, e_ps, e_bb, fill0, fill1, b_add, b_sub, b_mul, b_eql, b_neq, b_lss, b_leq, b_gtr, b_geq, b_and, b_or, b_xor, b_seql, b_sneq, b_slss, AQ.andThen, AQ.inBlock, Option.some.injEq, exists_eq_left', exists_eq_left, reduceCtorEq, Exit.exit.injEq]
  rw [wrap_i64 (n := (wd t : Int) - 1) (by omega) (by omega), wrap_i64 (by omega) (by omega)]
  refine W_loop (fun k fr H1 => ∃ (j : Int) (x : Value) (m : List UInt8) (bv1 : Nat), fr = [ptr b 0, .iface t (.int (kd t) n), .int .u64 n, .int .i64 (wd t), .int .i64 (8 * j), .bool false, x] ∧ -1 ≤ j ∧ j < wd t ∧ k = (j + 1).toNat ∧
    m ++ be (j + 1).toNat n = be (wd t) n ∧ WS H1 b bv1 (l ++ m) ∧ (bv1 = bv ∨ H.n ≤ bv1) ∧ Chg [b, bv] H H1) (wd t) ?_ ?_
  · refine ⟨(wd t : Int) - 1, undef, [], bv, rfl, by omega, by omega, by omega, ?_, by rw [List.append_nil]; exact h, .inl rfl, Chg.refl _ _⟩
    rw [show ((wd t : Int) - 1 + 1).toNat = wd t by omega, List.nil_append]
  · rintro k fr H1 ⟨j, x, m, bv1, rfl, h1, h2, rfl, h3, h4, h5, h6⟩
    simp only [↓reduceIte, RD_nil, RD_cons, RD_consg, W_dreg, obl_nil, Nat.reduceAdd, Nat.add_zero, Nat.zero_add, Nat.mul_one, Int.toNat_natCast, W_skip, W_reg, W_seq, W_cond, W_block, W_exit, W_ret, getD_nil', RW_nil, RW_cons, RW_consg, AOp.map, AX_fr, AX_tm, AX_c, AX_fn, AX_g, D_no, D_no', D_tm, D_tm', D_fr, D_fr', List.getD_cons_zero, List.getD_cons_succ, List.set_cons_zero, List.set_cons_succ, List.map_cons, List.map_nil, Option.map_some, Option.map_none, wantA, beq_self_eq_true, if_true, Bool.false_eq_true, if_false, Bool.not_true, Bool.not_false, s_mov, s_pick, s_new, s_box, s_build, s_bslice, s_load1, s_loadn, s_nilck, s_bin, s_eqv, s_not, s_neg, s_i2i, s_s2s, s_s2b, s_iface, s_mkfn, s_faddr, s_fld1, s_iaddr, s_idxs, s_assert, s_extract, s_len, s_lens, s_lenc, s_callf, resO0, resO1, resO2, resO3, List.getElem?_cons_zero, List.getElem?_cons_succ, Nat.reduceEqDiff, true_and, and_true, false_and, e_sn, e_ss, e_pn, e_ps, e_bb, fill0, fill1, b_add, b_sub, b_mul, b_eql, b_neq, b_lss, b_leq, b_gtr, b_geq, b_and, b_or, b_xor, b_seql, b_sneq, b_slss, AQ.andThen, AQ.inBlock, Option.some.injEq, exists_eq_left', exists_eq_left, reduceCtorEq, Exit.exit.injEq]
    by_cases hj : 0 ≤ j
    · obtain ⟨i, rfl⟩ : ∃ i : Nat, j = i := ⟨j.toNat, by omega⟩
      simp only [show (0 : Int) ≤ 8 * (i : Int) by omega, decide_true, ↓reduceIte, RD_nil, RD_cons, RD_consg, W_dreg, obl_nil, Nat.reduceAdd, Nat.add_zero, Nat.zero_add, Nat.mul_one, Int.toNat_natCast, W_skip, W_reg, W_seq, W_cond, W_block, W_exit, W_ret, getD_nil', RW_nil, RW_cons, RW_consg, AOp.map, AX_fr, AX_tm, AX_c, AX_fn, AX_g, D_no, D_no', D_tm, D_tm', D_fr, D_fr', List.getD_cons_zero, List.getD_cons_succ, List.set_cons_zero, List.set_cons_succ, List.map_cons, List.map_nil, Option.map_some, Option.map_none, wantA, beq_self_eq_true, if_true, Bool.false_eq_true, if_false, Bool.not_true, Bool.not_false, s_mov, s_pick, s_new, s_box, s_build, s_bslice, s_load1, s_loadn, s_nilck, s_bin, s_eqv, s_not, s_neg, s_i2i, s_s2s, s_s2b, s_iface, s_mkfn, s_faddr, s_fld1, s_iaddr, s_idxs, s_assert, s_extract, s_len, s_lens, s_lenc, s_callf, resO0, resO1, resO2, resO3, List.getElem?_cons_zero, List.getElem?_cons_succ, Nat.reduceEqDiff, true_and, and_true, false_and, e_sn, e_ss, e_pn, e_ps, e_bb, fill0, fill1, b_add, b_sub, b_mul, b_eql, b_neq, b_lss, b_leq, b_gtr, b_geq, b_and, b_or, b_xor, b_seql, b_sneq, b_slss, AQ.andThen, AQ.inBlock, Option.some.injEq, exists_eq_left', exists_eq_left, reduceCtorEq, Exit.exit.injEq]
      have hji : ((i : Int) + 1).toNat = i + 1 := by omega
      rw [hji] at h3
      have hlen : m.length + (i + 1) = wd t := by
        have := congrArg List.length h3
        simpa [be_length] using this
      have h4' := h4.chg (S := []) (((Keeps.refl H1).alloc (.cells true false 1 [.int .u8 (UInt8.ofNat (n / 256 ^ i)).toNat] 5)).chg []) (by simp) (by simp)
      obtain ⟨v, v', H2, e1, e2, e3, e4, bv', e5, e6, e7⟩ := h4'.app (m := [UInt8.ofNat (n / 256 ^ i)]) (x := slc H1.n 0 1 1) ⟨⟨_, _, rfl⟩, elems_own (AHeap.get_alloc_new H1 _) rfl⟩ (by simp; omega)
      have e0 : H1.get b = some (.cells true false 1 [v] 27) := by
        rw [AHeap.get_alloc_old H1 _ h4.lt.1] at e1; exact e1
      simp only [cellA_of e0, b_shr _ _ _ _ (show (0 : Int) ≤ 8 * (i : Int) by omega), ↓reduceIte, RD_nil, RD_cons, RD_consg, W_dreg, obl_nil, Nat.reduceAdd, Nat.add_zero, Nat.zero_add, Nat.mul_one, Int.toNat_natCast, W_skip, W_reg, W_seq, W_cond, W_block, W_exit, W_ret, getD_nil', RW_nil, RW_cons, RW_consg, AOp.map, AX_fr, AX_tm, AX_c, AX_fn, AX_g, D_no, D_no', D_tm, D_tm', D_fr, D_fr', List.getD_cons_zero, List.getD_cons_succ, List.set_cons_zero, List.set_cons_succ, List.map_cons, List.map_nil, Option.map_some, Option.map_none, wantA, beq_self_eq_true, if_true, Bool.false_eq_true, if_false, Bool.not_true, Bool.not_false, s_mov, s_pick, s_new, s_box, s_build, s_bslice, s_load1, s_loadn, s_nilck, s_bin, s_eqv, s_not, s_neg, s_i2i, s_s2s, s_s2b, s_iface, s_mkfn, s_faddr, s_fld1, s_iaddr, s_idxs, s_assert, s_extract, s_len, s_lens, s_lenc, s_callf, resO0, resO1, resO2, resO3, List.getElem?_cons_zero, List.getElem?_cons_succ, Nat.reduceEqDiff, true_and, and_true, false_and, e_sn, e_ss, e_pn, e_ps, e_bb, fill0, fill1, b_add, b_sub, b_mul, b_eql, b_neq, b_lss, b_leq, b_gtr, b_geq, b_and, b_or, b_xor, b_seql, b_sneq, b_slss, AQ.andThen, AQ.inBlock, Option.some.injEq, exists_eq_left', exists_eq_left, reduceCtorEq, Exit.exit.injEq]
      have hmin : min (8 * (i : Int)).toNat IntKind.u64.bits = 8 * i := by simp only [IntKind.bits]; omega
      rw [hmin, wrap_u8, byte_cell]
      refine ⟨⟨rfl, rfl⟩, e2 _ ?_⟩
      simp only [↓reduceIte, RD_nil, RD_cons, RD_consg, W_dreg, obl_nil, Nat.reduceAdd, Nat.add_zero, Nat.zero_add, Nat.mul_one, Int.toNat_natCast, W_skip, W_reg, W_seq, W_cond, W_block, W_exit, W_ret, getD_nil', RW_nil, RW_cons, RW_consg, AOp.map, AX_fr, AX_tm, AX_c, AX_fn, AX_g, D_no, D_no', D_tm, D_tm', D_fr, D_fr', List.getD_cons_zero, List.getD_cons_succ, List.set_cons_zero, List.set_cons_succ, List.map_cons, List.map_nil, Option.map_some, Option.map_none, wantA, beq_self_eq_true, if_true, Bool.false_eq_true, if_false, Bool.not_true, Bool.not_false, s_mov, s_pick, s_new, s_box, s_build, s_bslice, s_load1, s_loadn, s_nilck, s_bin, s_eqv, s_not, s_neg, s_i2i, s_s2s, s_s2b, s_iface, s_mkfn, s_faddr, s_fld1, s_iaddr, s_idxs, s_assert, s_extract, s_len, s_lens, s_lenc, s_callf, resO0, resO1, resO2, resO3, List.getElem?_cons_zero, List.getElem?_cons_succ, Nat.reduceEqDiff, true_and, and_true, false_and, e_sn, e_ss, e_pn, e_ps, e_bb, fill0, fill1, b_add, b_sub, b_mul, b_eql, b_neq, b_lss, b_leq, b_gtr, b_geq, b_and, b_or, b_xor, b_seql, b_sneq, b_slss, AQ.andThen, AQ.inBlock, Option.some.injEq, exists_eq_left', exists_eq_left, reduceCtorEq, Exit.exit.injEq, s_store1 e3]
      refine ⟨⟨by simp, e4⟩, i, by omega, (i : Int) - 1, .bool true, m ++ [UInt8.ofNat (n / 256 ^ i)], bv', ?_, by omega, by omega, by omega, ?_, ?_, ?_, ?_⟩
      · rw [wrap_i64 (by omega) (by omega), show 8 * (i : Int) - 8 = 8 * ((i : Int) - 1) by omega]
      · rw [show ((i : Int) - 1 + 1).toNat = i by omega, ← h3]
        simp [be]
      · rw [← List.append_assoc]; exact e5
      · have := h6.n
        rw [alloc_n] at e6
        omega
      · have := h6.n
        refine (h6.alloc _).trans e7 ?_
        intro x hx
        simp only [List.mem_cons, List.not_mem_nil, or_false] at hx ⊢
        omega
    · simp only [show ¬ (0 : Int) ≤ 8 * j by omega, decide_false, ↓reduceIte, RD_nil, RD_cons, RD_consg, W_dreg, obl_nil, Nat.reduceAdd, Nat.add_zero, Nat.zero_add, Nat.mul_one, Int.toNat_natCast, W_skip, W_reg, W_seq, W_cond, W_block, W_exit, W_ret, getD_nil', RW_nil, RW_cons, RW_consg, AOp.map, AX_fr, AX_tm, AX_c, AX_fn, AX_g, D_no, D_no', D_tm, D_tm', D_fr, D_fr', List.getD_cons_zero, List.getD_cons_succ, List.set_cons_zero, List.set_cons_succ, List.map_cons, List.map_nil, Option.map_some, Option.map_none, wantA, beq_self_eq_true, if_true, Bool.false_eq_true, if_false, Bool.not_true, Bool.not_false, s_mov, s_pick, s_new, s_box, s_build, s_bslice, s_load1, s_loadn, s_nilck, s_bin, s_eqv, s_not, s_neg, s_i2i, s_s2s, s_s2b, s_iface, s_mkfn, s_faddr, s_fld1, s_iaddr, s_idxs, s_assert, s_extract, s_len, s_lens, s_lenc, s_callf, resO0, resO1, resO2, resO3, List.getElem?_cons_zero, List.getElem?_cons_succ, Nat.reduceEqDiff, true_and, and_true, false_and, e_sn, e_ss, e_pn, e_ps, e_bb, fill0, fill1, b_add, b_sub, b_mul, b_eql, b_neq, b_lss, b_leq, b_gtr, b_geq, b_and, b_or, b_xor, b_seql, b_sneq, b_slss, AQ.andThen, AQ.inBlock, Option.some.injEq, exists_eq_left', exists_eq_left, reduceCtorEq, Exit.exit.injEq]
      have : (j + 1).toNat = 0 := by omega
      rw [this] at h3
      simp only [be, List.append_nil] at h3
      subst h3
      exact ⟨bv1, h4, h5, h6⟩

end Go.AM.Fd
