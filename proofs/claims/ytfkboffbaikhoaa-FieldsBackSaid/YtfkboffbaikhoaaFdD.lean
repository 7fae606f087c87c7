/- Part of the proof: FdD. -/
import Derived.Test.YtfkboffbaikhoaaAmX
import Derived.Test.YtfkboffbaikhoaaFdC
set_option linter.unusedSimpArgs false
set_option linter.unusedVariables false
namespace Go.AM.Fd
open Go.Proofs

/-- The big-endian bytes of a number. -/
def be : Nat → Nat → List UInt8
  | 0, _ => []
  | w + 1, n => UInt8.ofNat (n / 256 ^ w) :: be w n

theorem be_length : ∀ w n, (be w n).length = w
  | 0, _ => rfl
  | w + 1, n => by simp [be, be_length w n]

theorem pow8 (i : Nat) : (2 : Nat) ^ (8 * i) = 256 ^ i := by rw [Nat.pow_mul]

theorem byte_cell (n i : Nat) : (((n : Int).fdiv (2 ^ (8 * i))) % 256 : Int) = ((UInt8.ofNat (n / 256 ^ i)).toNat : Int) := by
  have h1 : ((2 : Int) ^ (8 * i)) = ((256 ^ i : Nat) : Int) := by rw [← pow8]; push_cast; rfl
  rw [h1, Int.fdiv_eq_ediv_of_nonneg _ (Int.natCast_nonneg _)]
  simp only [UInt8.toNat_ofNat']
  omega

/-- Bytes. -/
theorem t30 (n w : Nat) (hw : w ≤ 8) (H : AHeap) : ∃ v H', ARun Try.prog 0 30 [.int .u64 n, .int .i64 w] H v H' ∧
    AP H' 5 1 v w (cellsOf (be w n)) ∧ Keeps H H' ∧ Fresh H.n v := by
  refine walk f30_ok f30_n ?_
  simp only [f30, initFr, ↓reduceIte, RD_nil, RD_cons, RD_consg, W_dreg, obl_nil, Nat.reduceAdd, Nat.add_zero, Nat.zero_add, Nat.mul_one, Int.toNat_natCast, W_skip, W_reg, W_seq, W_cond, W_block, W_exit, W_ret, getD_nil', RW_nil, RW_cons, RW_consg, AOp.map, AX_fr, AX_tm, AX_c, AX_fn, AX_g, D_no, D_no', D_tm, D_tm', D_fr, D_fr', List.getD_cons_zero, List.getD_cons_succ, List.set_cons_zero, List.set_cons_succ, List.map_cons, List.map_nil, Option.map_some, Option.map_none, wantA, beq_self_eq_true, if_true, Bool.false_eq_true, if_false, Bool.not_true, Bool.not_false, s_mov, s_pick, s_new, s_box, s_build, s_bslice, s_load1, s_loadn, s_nilck, s_bin, s_eqv, s_not, s_neg, s_i2i, s_s2s, s_s2b, s_iface, s_mkfn, s_faddr, s_fld1, s_iaddr, s_idxs, s_assert, s_extract, s_len, s_lens, s_lenc, s_callf, resO0, resO1, resO2, resO3, List.getElem?_cons_zero, List.getElem?_cons_succ, Nat.reduceEqDiff, true_and, and_true, false_and, e_sn, e_ss, e_pn, e_ps, e_bb, fill0, fill1, b_add, b_sub, b_mul, b_eql, b_neq, b_lss, b_leq, b_gtr, b_geq, b_and, b_or, b_xor, b_seql, b_sneq, b_slss, AQ.andThen, AQ.inBlock, Option.some.injEq, exists_eq_left', exists_eq_left, reduceCtorEq, Exit.exit.injEq]
  rw [wrap_i64 (by omega) (by omega)]
  refine W_loop (fun k fr H1 => ∃ (i : Int) (x v : Value) (l : List UInt8), fr = [.int .u64 n, .int .i64 w, .slice none 0 0, v, .int .i64 i, x] ∧ -1 ≤ i ∧ i < w ∧ k = (i + 1).toNat ∧
    l ++ be (i + 1).toNat n = be w n ∧ AP H1 5 1 v l.length (cellsOf l) ∧ Keeps H H1 ∧ Fresh H.n v) (w) ?_ ?_
  · refine ⟨_, undef, _, [], rfl, by omega, by omega, by omega, ?_, .inl ⟨rfl, rfl, rfl⟩, Keeps.refl H, fun b hb => by cases hb⟩
    simp [show ((w : Int) - 1 + 1).toNat = w by omega]
  · rintro k fr H1 ⟨i, x, v, l, rfl, h1, h2, rfl, h3, h4, h5, h6⟩
    simp only [↓reduceIte, RD_nil, RD_cons, RD_consg, W_dreg, obl_nil, Nat.reduceAdd, Nat.add_zero, Nat.zero_add, Nat.mul_one, Int.toNat_natCast, W_skip, W_reg, W_seq, W_cond, W_block, W_exit, W_ret, getD_nil', RW_nil, RW_cons, RW_consg, AOp.map, AX_fr, AX_tm, AX_c, AX_fn, AX_g, D_no, D_no', D_tm, D_tm', D_fr, D_fr', List.getD_cons_zero, List.getD_cons_succ, List.set_cons_zero, List.set_cons_succ, List.map_cons, List.map_nil, Option.map_some, Option.map_none, wantA, beq_self_eq_true, if_true, Bool.false_eq_true, if_false, Bool.not_true, Bool.not_false, s_mov, s_pick, s_new, s_box, s_build, s_bslice, s_load1, s_loadn, s_nilck, s_bin, s_eqv, s_not, s_neg, s_i2i, s_s2s, s_s2b, s_iface, s_mkfn, s_faddr, s_fld1, s_iaddr, s_idxs, s_assert, s_extract, s_len, s_lens, s_lenc, s_callf, resO0, resO1, resO2, resO3, List.getElem?_cons_zero, List.getElem?_cons_succ, Nat.reduceEqDiff, true_and, and_true, false_and, e_sn, e_ss, e_pn, e_ps, e_bb, fill0, fill1, b_add, b_sub, b_mul, b_eql, b_neq, b_lss, b_leq, b_gtr, b_geq, b_and, b_or, b_xor, b_seql, b_sneq, b_slss, AQ.andThen, AQ.inBlock, Option.some.injEq, exists_eq_left', exists_eq_left, reduceCtorEq, Exit.exit.injEq]
    by_cases hi : 0 ≤ i
    · simp only [hi, decide_true, ↓reduceIte, RD_nil, RD_cons, RD_consg, W_dreg, obl_nil, Nat.reduceAdd, Nat.add_zero, Nat.zero_add, Nat.mul_one, Int.toNat_natCast, W_skip, W_reg, W_seq, W_cond, W_block, W_exit, W_ret, getD_nil', RW_nil, RW_cons, RW_consg, AOp.map, AX_fr, AX_tm, AX_c, AX_fn, AX_g, D_no, D_no', D_tm, D_tm', D_fr, D_fr', List.getD_cons_zero, List.getD_cons_succ, List.set_cons_zero, List.set_cons_succ, List.map_cons, List.map_nil, Option.map_some, Option.map_none, wantA, beq_self_eq_true, if_true, Bool.false_eq_true, if_false, Bool.not_true, Bool.not_false, s_mov, s_pick, s_new, s_box, s_build, s_bslice, s_load1, s_loadn, s_nilck, s_bin, s_eqv, s_not, s_neg, s_i2i, s_s2s, s_s2b, s_iface, s_mkfn, s_faddr, s_fld1, s_iaddr, s_idxs, s_assert, s_extract, s_len, s_lens, s_lenc, s_callf, resO0, resO1, resO2, resO3, List.getElem?_cons_zero, List.getElem?_cons_succ, Nat.reduceEqDiff, true_and, and_true, false_and, e_sn, e_ss, e_pn, e_ps, e_bb, fill0, fill1, b_add, b_sub, b_mul, b_eql, b_neq, b_lss, b_leq, b_gtr, b_geq, b_and, b_or, b_xor, b_seql, b_sneq, b_slss, AQ.andThen, AQ.inBlock, Option.some.injEq, exists_eq_left', exists_eq_left, reduceCtorEq, Exit.exit.injEq]
      rw [wrap_i64 (by omega) (by omega)]
      obtain ⟨j, rfl⟩ : ∃ j : Nat, i = j := ⟨i.toNat, by omega⟩
      simp only [b_shr _ _ _ _ (show (0 : Int) ≤ 8 * (j : Int) by omega), fill1, ↓reduceIte, RD_nil, RD_cons, RD_consg, W_dreg, obl_nil, Nat.reduceAdd, Nat.add_zero, Nat.zero_add, Nat.mul_one, Int.toNat_natCast, W_skip, W_reg, W_seq, W_cond, W_block, W_exit, W_ret, getD_nil', RW_nil, RW_cons, RW_consg, AOp.map, AX_fr, AX_tm, AX_c, AX_fn, AX_g, D_no, D_no', D_tm, D_tm', D_fr, D_fr', List.getD_cons_zero, List.getD_cons_succ, List.set_cons_zero, List.set_cons_succ, List.map_cons, List.map_nil, Option.map_some, Option.map_none, wantA, beq_self_eq_true, if_true, Bool.false_eq_true, if_false, Bool.not_true, Bool.not_false, s_mov, s_pick, s_new, s_box, s_build, s_bslice, s_load1, s_loadn, s_nilck, s_bin, s_eqv, s_not, s_neg, s_i2i, s_s2s, s_s2b, s_iface, s_mkfn, s_faddr, s_fld1, s_iaddr, s_idxs, s_assert, s_extract, s_len, s_lens, s_lenc, s_callf, resO0, resO1, resO2, resO3, List.getElem?_cons_zero, List.getElem?_cons_succ, Nat.reduceEqDiff, true_and, and_true, false_and, e_sn, e_ss, e_pn, e_ps, e_bb, fill0, fill1, b_add, b_sub, b_mul, b_eql, b_neq, b_lss, b_leq, b_gtr, b_geq, b_and, b_or, b_xor, b_seql, b_sneq, b_slss, AQ.andThen, AQ.inBlock, Option.some.injEq, exists_eq_left', exists_eq_left, reduceCtorEq, Exit.exit.injEq]
      have hmin : min (8 * (j : Int)).toNat IntKind.u64.bits = 8 * j := by simp only [IntKind.bits]; omega
      rw [hmin, wrap_u8, byte_cell]
      have hj : ((j : Int) + 1).toNat = j + 1 := by omega
      rw [hj] at h3
      have hlen : l.length + (j + 1) = w := by
        have := congrArg List.length h3
        simpa [be_length] using this
      refine ⟨⟨rfl, rfl⟩, s_appAP (h4.keeps ((Keeps.refl H1).alloc _)) ⟨_, _, rfl⟩ (elems_own (AHeap.get_alloc_new H1 _) rfl) rfl (by omega) ?_⟩
      intro v' H' k1 k2 k3
      have hk := (h5.alloc _).chg_trans k2 (Fresh.L h6)
      refine ⟨j, by omega, j - 1, .bool true, v', l ++ [UInt8.ofNat (n / 256 ^ j)], ?_, by omega, by omega, by omega, ?_, ?_, hk, h6.app (by rw [alloc_n]; have := h5.n; omega) k3⟩
      · rw [wrap_i64 (by omega) (by omega)]
      · rw [show ((j : Int) - 1 + 1).toNat = j by omega, ← h3]
        simp [be]
      · rw [cellsOf_append, List.length_append]
        exact k1
    · simp only [hi, decide_false, ↓reduceIte, RD_nil, RD_cons, RD_consg, W_dreg, obl_nil, Nat.reduceAdd, Nat.add_zero, Nat.zero_add, Nat.mul_one, Int.toNat_natCast, W_skip, W_reg, W_seq, W_cond, W_block, W_exit, W_ret, getD_nil', RW_nil, RW_cons, RW_consg, AOp.map, AX_fr, AX_tm, AX_c, AX_fn, AX_g, D_no, D_no', D_tm, D_tm', D_fr, D_fr', List.getD_cons_zero, List.getD_cons_succ, List.set_cons_zero, List.set_cons_succ, List.map_cons, List.map_nil, Option.map_some, Option.map_none, wantA, beq_self_eq_true, if_true, Bool.false_eq_true, if_false, Bool.not_true, Bool.not_false, s_mov, s_pick, s_new, s_box, s_build, s_bslice, s_load1, s_loadn, s_nilck, s_bin, s_eqv, s_not, s_neg, s_i2i, s_s2s, s_s2b, s_iface, s_mkfn, s_faddr, s_fld1, s_iaddr, s_idxs, s_assert, s_extract, s_len, s_lens, s_lenc, s_callf, resO0, resO1, resO2, resO3, List.getElem?_cons_zero, List.getElem?_cons_succ, Nat.reduceEqDiff, true_and, and_true, false_and, e_sn, e_ss, e_pn, e_ps, e_bb, fill0, fill1, b_add, b_sub, b_mul, b_eql, b_neq, b_lss, b_leq, b_gtr, b_geq, b_and, b_or, b_xor, b_seql, b_sneq, b_slss, AQ.andThen, AQ.inBlock, Option.some.injEq, exists_eq_left', exists_eq_left, reduceCtorEq, Exit.exit.injEq]
      have : (i + 1).toNat = 0 := by omega
      rw [this] at h3
      simp only [be, List.append_nil] at h3
      subst h3
      rw [be_length] at h4
      exact ⟨h4, h5, h6⟩

end Go.AM.Fd
