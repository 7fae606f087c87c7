/- Part of the proof: FdG. -/
import Derived.Test.YtfkboffbaikhoaaFdF
set_option linter.unusedSimpArgs false
set_option linter.unusedVariables false
namespace Go.AM.Fd
open Go.Proofs

/-- width. -/
theorem t14 (H : AHeap) (kind : Nat) (hk : kind % 5 ≠ 4) : ∃ v H', ARun Try.prog 0 14 [.int .u8 kind] H v H' ∧ v = .int .i64 ((2 ^ (kind % 5) : Nat) : Int) ∧ Keeps H H' := by
  refine walk f14_ok f14_n ?_
  simp only [f14, initFr, ↓reduceIte, RD_nil, RD_cons, RD_consg, W_dreg, obl_nil, Nat.reduceAdd, Nat.add_zero, Nat.zero_add, Nat.mul_one, Int.toNat_natCast, W_skip, W_reg, W_seq, W_cond, W_block, W_exit, W_ret, getD_nil', RW_nil, RW_cons, RW_consg, AOp.map, AX_fr, AX_tm, AX_c, AX_fn, AX_g, D_no, D_no', D_tm, D_tm', D_fr, D_fr', List.getD_cons_zero, List.getD_cons_succ, List.set_cons_zero, List.set_cons_succ, List.map_cons, List.map_nil, Option.map_some, Option.map_none, wantA, beq_self_eq_true, if_true, Bool.false_eq_true, if_false, Bool.not_true, Bool.not_false, s_mov, s_pick, s_new, s_box, s_build, s_bslice, s_load1, s_loadn, s_nilck, s_bin, s_eqv, s_not, s_neg, s_i2i, s_s2s, s_s2b, s_iface, s_mkfn, s_faddr, s_fld1, s_iaddr, s_idxs, s_assert, s_extract, s_len, s_lens, s_lenc, s_callf, resO0, resO1, resO2, resO3, List.getElem?_cons_zero, List.getElem?_cons_succ, Nat.reduceEqDiff, true_and, and_true, false_and, e_sn, e_ss, e_pn, e_ps, e_bb, fill0, fill1, b_add, b_sub, b_mul, b_eql, b_neq, b_lss, b_leq, b_gtr, b_geq, b_and, b_or, b_xor, b_seql, b_sneq, b_slss, AQ.andThen, AQ.inBlock, Option.some.injEq, exists_eq_left', exists_eq_left, reduceCtorEq, Exit.exit.injEq]
  refine ⟨_, rfl, ⟨rfl, rfl⟩, ?_⟩
  simp only [↓reduceIte, RD_nil, RD_cons, RD_consg, W_dreg, obl_nil, Nat.reduceAdd, Nat.add_zero, Nat.zero_add, Nat.mul_one, Int.toNat_natCast, W_skip, W_reg, W_seq, W_cond, W_block, W_exit, W_ret, getD_nil', RW_nil, RW_cons, RW_consg, AOp.map, AX_fr, AX_tm, AX_c, AX_fn, AX_g, D_no, D_no', D_tm, D_tm', D_fr, D_fr', List.getD_cons_zero, List.getD_cons_succ, List.set_cons_zero, List.set_cons_succ, List.map_cons, List.map_nil, Option.map_some, Option.map_none, wantA, beq_self_eq_true, if_true, Bool.false_eq_true, if_false, Bool.not_true, Bool.not_false, s_mov, s_pick, s_new, s_box, s_build, s_bslice, s_load1, s_loadn, s_nilck, s_bin, s_eqv, s_not, s_neg, s_i2i, s_s2s, s_s2b, s_iface, s_mkfn, s_faddr, s_fld1, s_iaddr, s_idxs, s_assert, s_extract, s_len, s_lens, s_lenc, s_callf, resO0, resO1, resO2, resO3, List.getElem?_cons_zero, List.getElem?_cons_succ, Nat.reduceEqDiff, true_and, and_true, false_and, e_sn, e_ss, e_pn, e_ps, e_bb, fill0, fill1, b_add, b_sub, b_mul, b_eql, b_neq, b_lss, b_leq, b_gtr, b_geq, b_and, b_or, b_xor, b_seql, b_sneq, b_slss, AQ.andThen, AQ.inBlock, Option.some.injEq, exists_eq_left', exists_eq_left, reduceCtorEq, Exit.exit.injEq, b_rem _ _ _ (show (5 : Int) ≠ 0 by omega), tmod5, cellA_of (AHeap.get_alloc_new H _)]
  have hr : kind % 5 < 5 := Nat.mod_lt _ (by omega)
  generalize kind % 5 = r at hr hk
  have c0 : r = 0 ∨ r = 1 ∨ r = 2 ∨ r = 3 := by omega
  refine ⟨by omega, ?_⟩
  rcases c0 with rfl | rfl | rfl | rfl <;> exact ⟨_, rfl, rfl, (Keeps.refl H).alloc _⟩

/-- The number of bytes. -/
def num (l : List UInt8) : Nat := l.foldl (fun n b => (n * 256 + b.toNat) % 18446744073709551616) 0
theorem num_append (l : List UInt8) (b : UInt8) : num (l ++ [b]) = (num l * 256 + b.toNat) % 18446744073709551616 := by simp [num]

theorem or_byte (n : Nat) (b : UInt8) : (IntKind.u64.wrap ((BitVec.ofInt IntKind.u64.bits (IntKind.u64.wrap ((n : Int) * 2 ^ (min 8 IntKind.u64.bits))) ||| BitVec.ofInt IntKind.u64.bits (b.toNat : Int)).toNat : Int)) =
    (((n * 256 + b.toNat) % 18446744073709551616 : Nat) : Int) := by
  have hb := b.toNat_lt
  change IntKind.u64.wrap (((BitVec.ofInt 64 (IntKind.u64.wrap ((n : Int) * 2 ^ (min 8 64))) ||| BitVec.ofInt 64 (b.toNat : Int)).toNat : Nat) : Int) = _
  have e1 : (IntKind.u64.wrap ((n : Int) * 2 ^ (min 8 64))) = ((n * 256 % 18446744073709551616 : Nat) : Int) := by
    rw [wrap_u64]
    have : (2 : Int) ^ (min 8 64) = 256 := by decide
    rw [this]
    omega
  rw [e1]
  simp only [BitVec.ofInt_natCast, BitVec.toNat_or, BitVec.toNat_ofNat]
  have h1 : n * 256 % 18446744073709551616 % 2 ^ 64 = (n % 72057594037927936) <<< 8 := by
    rw [Nat.shiftLeft_eq]; omega
  have h2 : b.toNat % 2 ^ 64 = b.toNat := by omega
  rw [h1, h2, ← Nat.shiftLeft_add_eq_or_of_lt (by omega), wrap_u64, Nat.shiftLeft_eq]
  omega

/-- Number. -/
theorem t13 {H : AHeap} {x : Value} {l : List UInt8} (hx : BS H x l) (hl : l.length ≤ 1000000000) : ARun Try.prog 0 13 [x] H (.int .u64 (num l)) H := by
  suffices h : ∃ v H', ARun Try.prog 0 13 [x] H v H' ∧ v = .int .u64 (num l) ∧ H' = H by
    obtain ⟨v, H', h1, h2, h3⟩ := h
    rw [h2, h3] at h1; exact h1
  refine walk f13_ok f13_n ?_
  simp only [f13, initFr, ↓reduceIte, RD_nil, RD_cons, RD_consg, W_dreg, obl_nil, Nat.reduceAdd, Nat.add_zero, Nat.zero_add, Nat.mul_one, Int.toNat_natCast, W_skip, W_reg, W_seq, W_cond, W_block, W_exit, W_ret, getD_nil', RW_nil, RW_cons, RW_consg, AOp.map, AX_fr, AX_tm, AX_c, AX_fn, AX_g, D_no, D_no', D_tm, D_tm', D_fr, D_fr', List.getD_cons_zero, List.getD_cons_succ, List.set_cons_zero, List.set_cons_succ, List.map_cons, List.map_nil, Option.map_some, Option.map_none, wantA, beq_self_eq_true, if_true, Bool.false_eq_true, if_false, Bool.not_true, Bool.not_false, s_mov, s_pick, s_new, s_box, s_build, s_bslice, s_load1, s_loadn, s_nilck, s_bin, s_eqv, s_not, s_neg, s_i2i, s_s2s, s_s2b, s_iface, s_mkfn, s_faddr, s_fld1, s_iaddr, s_idxs, s_assert, s_extract, s_len, s_lens, s_lenc, s_callf, resO0, resO1, resO2, resO3, List.getElem?_cons_zero, List.getElem?_cons_succ, Nat.reduceEqDiff, true_and, and_true, false_and, e_sn, e_ss, e_pn, e_ps, e_bb, fill0, fill1, b_add, b_sub, b_mul, b_eql, b_neq, b_lss, b_leq, b_gtr, b_geq, b_and, b_or, b_xor, b_seql, b_sneq, b_slss, AQ.andThen, AQ.inBlock, Option.some.injEq, exists_eq_left', exists_eq_left, reduceCtorEq, Exit.exit.injEq]
  refine W_loop (fun k fr H1 => ∃ (i : Nat) (c : Value), fr = [x, .int .u64 0, .int .u64 (num (l.take i)), .int .i64 i, c] ∧ i ≤ l.length ∧ k = l.length - i ∧ H1 = H) l.length ?_ ?_
  · exact ⟨0, undef, by simp [num], by omega, rfl, rfl⟩
  · rintro k fr H1 ⟨i, c, rfl, h1, rfl, rfl⟩
    obtain ⟨a, kk, hsh⟩ := hx.sh
    by_cases hi : i < l.length
    · obtain ⟨b, o, kc, rfl, hc⟩ := hx.split (fun e => by subst e; simp at hi)
      simp only [↓reduceIte, RD_nil, RD_cons, RD_consg, W_dreg, obl_nil, Nat.reduceAdd, Nat.add_zero, Nat.zero_add, Nat.mul_one, Int.toNat_natCast, W_skip, W_reg, W_seq, W_cond, W_block, W_exit, W_ret, getD_nil', RW_nil, RW_cons, RW_consg, AOp.map, AX_fr, AX_tm, AX_c, AX_fn, AX_g, D_no, D_no', D_tm, D_tm', D_fr, D_fr', List.getD_cons_zero, List.getD_cons_succ, List.set_cons_zero, List.set_cons_succ, List.map_cons, List.map_nil, Option.map_some, Option.map_none, wantA, beq_self_eq_true, if_true, Bool.false_eq_true, if_false, Bool.not_true, Bool.not_false, s_mov, s_pick, s_new, s_box, s_build, s_bslice, s_load1, s_loadn, s_nilck, s_bin, s_eqv, s_not, s_neg, s_i2i, s_s2s, s_s2b, s_iface, s_mkfn, s_faddr, s_fld1, s_iaddr, s_idxs, s_assert, s_extract, s_len, s_lens, s_lenc, s_callf, resO0, resO1, resO2, resO3, List.getElem?_cons_zero, List.getElem?_cons_succ, Nat.reduceEqDiff, true_and, and_true, false_and, e_sn, e_ss, e_pn, e_ps, e_bb, fill0, fill1, b_add, b_sub, b_mul, b_eql, b_neq, b_lss, b_leq, b_gtr, b_geq, b_and, b_or, b_xor, b_seql, b_sneq, b_slss, AQ.andThen, AQ.inBlock, Option.some.injEq, exists_eq_left', exists_eq_left, reduceCtorEq, Exit.exit.injEq, show (i : Int) < (l.length : Int) by omega, decide_true, hc i hi, b_shl _ _ _ _ (show (0 : Int) ≤ 8 by omega), wrap_u64 ((l[i].toNat : Int))]
      have e1 : ((l[i].toNat : Int) % 18446744073709551616) = (l[i].toNat : Int) := by have := l[i].toNat_lt; omega
      rw [show Int.toNat 8 = 8 from rfl, e1, or_byte, ← num_append, wrap_i64 (by omega) (by omega)]
      refine ⟨by omega, l.length - (i + 1), by omega, i + 1, .bool true, ?_, by omega, rfl⟩
      rw [List.take_succ_eq_append_getElem hi]
      rfl
    · subst hsh
      simp only [↓reduceIte, RD_nil, RD_cons, RD_consg, W_dreg, obl_nil, Nat.reduceAdd, Nat.add_zero, Nat.zero_add, Nat.mul_one, Int.toNat_natCast, W_skip, W_reg, W_seq, W_cond, W_block, W_exit, W_ret, getD_nil', RW_nil, RW_cons, RW_consg, AOp.map, AX_fr, AX_tm, AX_c, AX_fn, AX_g, D_no, D_no', D_tm, D_tm', D_fr, D_fr', List.getD_cons_zero, List.getD_cons_succ, List.set_cons_zero, List.set_cons_succ, List.map_cons, List.map_nil, Option.map_some, Option.map_none, wantA, beq_self_eq_true, if_true, Bool.false_eq_true, if_false, Bool.not_true, Bool.not_false, s_mov, s_pick, s_new, s_box, s_build, s_bslice, s_load1, s_loadn, s_nilck, s_bin, s_eqv, s_not, s_neg, s_i2i, s_s2s, s_s2b, s_iface, s_mkfn, s_faddr, s_fld1, s_iaddr, s_idxs, s_assert, s_extract, s_len, s_lens, s_lenc, s_callf, resO0, resO1, resO2, resO3, List.getElem?_cons_zero, List.getElem?_cons_succ, Nat.reduceEqDiff, true_and, and_true, false_and, e_sn, e_ss, e_pn, e_ps, e_bb, fill0, fill1, b_add, b_sub, b_mul, b_eql, b_neq, b_lss, b_leq, b_gtr, b_geq, b_and, b_or, b_xor, b_seql, b_sneq, b_slss, AQ.andThen, AQ.inBlock, Option.some.injEq, exists_eq_left', exists_eq_left, reduceCtorEq, Exit.exit.injEq, show ¬ (i : Int) < (l.length : Int) by omega, decide_false]
      rw [List.take_of_length_le (by omega)]

/-- bytes. -/
theorem t11 {H : AHeap} {m : List UInt8} {bv : Value} (kind n : Nat) (hx : BS H bv m) :
    ∃ v H', ARun Try.prog 0 11 [itv kind n bv] H v H' ∧ BS H' v (itB kind n m) ∧ Keeps H H' ∧ (v = bv ∨ Fresh H.n v) := by
  refine walk f11_ok f11_n ?_
  obtain ⟨a, k, hsh⟩ := hx.sh
  have g := AHeap.get_alloc_new H (.cells true false 3 [.int .u8 kind, .int .u64 n, bv] 30)
  have hK := (Keeps.refl H).alloc (.cells true false 3 [.int .u8 kind, .int .u64 n, bv] 30)
  simp only [f11, initFr, itv, Value.cells, ↓reduceIte, RD_nil, RD_cons, RD_consg, W_dreg, obl_nil, Nat.reduceAdd, Nat.add_zero, Nat.zero_add, Nat.mul_one, Int.toNat_natCast, W_skip, W_reg, W_seq, W_cond, W_block, W_exit, W_ret, getD_nil', RW_nil, RW_cons, RW_consg, AOp.map, AX_fr, AX_tm, AX_c, AX_fn, AX_g, D_no, D_no', D_tm, D_tm', D_fr, D_fr', List.getD_cons_zero, List.getD_cons_succ, List.set_cons_zero, List.set_cons_succ, List.map_cons, List.map_nil, Option.map_some, Option.map_none, wantA, beq_self_eq_true, if_true, Bool.false_eq_true, if_false, Bool.not_true, Bool.not_false, s_mov, s_pick, s_new, s_box, s_build, s_bslice, s_load1, s_loadn, s_nilck, s_bin, s_eqv, s_not, s_neg, s_i2i, s_s2s, s_s2b, s_iface, s_mkfn, s_faddr, s_fld1, s_iaddr, s_idxs, s_assert, s_extract, s_len, s_lens, s_lenc, s_callf, resO0, resO1, resO2, resO3, List.getElem?_cons_zero, List.getElem?_cons_succ, Nat.reduceEqDiff, true_and, and_true, false_and, e_sn, e_ss, e_pn, e_ps, e_bb, fill0, fill1, b_add, b_sub, b_mul, b_eql, b_neq, b_lss, b_leq, b_gtr, b_geq, b_and, b_or, b_xor, b_seql, b_sneq, b_slss, AQ.andThen, AQ.inBlock, Option.some.injEq, exists_eq_left', exists_eq_left, reduceCtorEq, Exit.exit.injEq, cellA_of g, b_rem _ _ _ (show (5 : Int) ≠ 0 by omega), tmod5]
  refine ⟨by rw [hsh]; rfl, ?_⟩
  by_cases h4 : kind % 5 = 4
  · simp only [h4, ↓reduceIte, RD_nil, RD_cons, RD_consg, W_dreg, obl_nil, Nat.reduceAdd, Nat.add_zero, Nat.zero_add, Nat.mul_one, Int.toNat_natCast, W_skip, W_reg, W_seq, W_cond, W_block, W_exit, W_ret, getD_nil', RW_nil, RW_cons, RW_consg, AOp.map, AX_fr, AX_tm, AX_c, AX_fn, AX_g, D_no, D_no', D_tm, D_tm', D_fr, D_fr', List.getD_cons_zero, List.getD_cons_succ, List.set_cons_zero, List.set_cons_succ, List.map_cons, List.map_nil, Option.map_some, Option.map_none, wantA, beq_self_eq_true, if_true, Bool.false_eq_true, if_false, Bool.not_true, Bool.not_false, s_mov, s_pick, s_new, s_box, s_build, s_bslice, s_load1, s_loadn, s_nilck, s_bin, s_eqv, s_not, s_neg, s_i2i, s_s2s, s_s2b, s_iface, s_mkfn, s_faddr, s_fld1, s_iaddr, s_idxs, s_assert, s_extract, s_len, s_lens, s_lenc, s_callf, resO0, resO1, resO2, resO3, List.getElem?_cons_zero, List.getElem?_cons_succ, Nat.reduceEqDiff, true_and, and_true, false_and, e_sn, e_ss, e_pn, e_ps, e_bb, fill0, fill1, b_add, b_sub, b_mul, b_eql, b_neq, b_lss, b_leq, b_gtr, b_geq, b_and, b_or, b_xor, b_seql, b_sneq, b_slss, AQ.andThen, AQ.inBlock, Option.some.injEq, exists_eq_left', exists_eq_left, reduceCtorEq, Exit.exit.injEq, itB]
    exact ⟨hx.keeps hK, hK, .inl trivial⟩
  · obtain ⟨v14, H14, r14, rfl, k14⟩ := t14 (H.alloc (.cells true false 3 [.int .u8 kind, .int .u64 n, bv] 30)) kind h4
    have hr : kind % 5 < 5 := Nat.mod_lt _ (by omega)
    have hp : 2 ^ (kind % 5) ≤ 8 := by
      have c0 : kind % 5 = 0 ∨ kind % 5 = 1 ∨ kind % 5 = 2 ∨ kind % 5 = 3 := by omega
      rcases c0 with h | h | h | h <;> rw [h] <;> decide
    obtain ⟨v30, H30, r30, p1, p2, p3⟩ := t30 n (2 ^ (kind % 5)) hp H14
    have e : ((((kind % 5 : Nat) : Int)) == 4) = false := by simp; omega
    simp only [e, ↓reduceIte, RD_nil, RD_cons, RD_consg, W_dreg, obl_nil, Nat.reduceAdd, Nat.add_zero, Nat.zero_add, Nat.mul_one, Int.toNat_natCast, W_skip, W_reg, W_seq, W_cond, W_block, W_exit, W_ret, getD_nil', RW_nil, RW_cons, RW_consg, AOp.map, AX_fr, AX_tm, AX_c, AX_fn, AX_g, D_no, D_no', D_tm, D_tm', D_fr, D_fr', List.getD_cons_zero, List.getD_cons_succ, List.set_cons_zero, List.set_cons_succ, List.map_cons, List.map_nil, Option.map_some, Option.map_none, wantA, beq_self_eq_true, if_true, Bool.false_eq_true, if_false, Bool.not_true, Bool.not_false, s_mov, s_pick, s_new, s_box, s_build, s_bslice, s_load1, s_loadn, s_nilck, s_bin, s_eqv, s_not, s_neg, s_i2i, s_s2s, s_s2b, s_iface, s_mkfn, s_faddr, s_fld1, s_iaddr, s_idxs, s_assert, s_extract, s_len, s_lens, s_lenc, s_callf, resO0, resO1, resO2, resO3, List.getElem?_cons_zero, List.getElem?_cons_succ, Nat.reduceEqDiff, true_and, and_true, false_and, e_sn, e_ss, e_pn, e_ps, e_bb, fill0, fill1, b_add, b_sub, b_mul, b_eql, b_neq, b_lss, b_leq, b_gtr, b_geq, b_and, b_or, b_xor, b_seql, b_sneq, b_slss, AQ.andThen, AQ.inBlock, Option.some.injEq, exists_eq_left', exists_eq_left, reduceCtorEq, Exit.exit.injEq]
    refine ⟨_, _, r14, ?_, ?_⟩
    · simp [oblA, clsA, touchA, readsA, ptr, keepsB, AOp.map]
      exact k14.get _ (by rw [alloc_n]; omega)
    · refine ⟨_, _, r30, ?_⟩
      simp only [↓reduceIte, RD_nil, RD_cons, RD_consg, W_dreg, obl_nil, Nat.reduceAdd, Nat.add_zero, Nat.zero_add, Nat.mul_one, Int.toNat_natCast, W_skip, W_reg, W_seq, W_cond, W_block, W_exit, W_ret, getD_nil', RW_nil, RW_cons, RW_consg, AOp.map, AX_fr, AX_tm, AX_c, AX_fn, AX_g, D_no, D_no', D_tm, D_tm', D_fr, D_fr', List.getD_cons_zero, List.getD_cons_succ, List.set_cons_zero, List.set_cons_succ, List.map_cons, List.map_nil, Option.map_some, Option.map_none, wantA, beq_self_eq_true, if_true, Bool.false_eq_true, if_false, Bool.not_true, Bool.not_false, s_mov, s_pick, s_new, s_box, s_build, s_bslice, s_load1, s_loadn, s_nilck, s_bin, s_eqv, s_not, s_neg, s_i2i, s_s2s, s_s2b, s_iface, s_mkfn, s_faddr, s_fld1, s_iaddr, s_idxs, s_assert, s_extract, s_len, s_lens, s_lenc, s_callf, resO0, resO1, resO2, resO3, List.getElem?_cons_zero, List.getElem?_cons_succ, Nat.reduceEqDiff, true_and, and_true, false_and, e_sn, e_ss, e_pn, e_ps, e_bb, fill0, fill1, b_add, b_sub, b_mul, b_eql, b_neq, b_lss, b_leq, b_gtr, b_geq, b_and, b_or, b_xor, b_seql, b_sneq, b_slss, AQ.andThen, AQ.inBlock, Option.some.injEq, exists_eq_left', exists_eq_left, reduceCtorEq, Exit.exit.injEq, itB, h4]
      refine ⟨p1.bs, (hK.trans k14).trans p2, .inr ?_⟩
      intro b hb
      have := p3 b hb
      have h1 := k14.n
      have h2 := hK.n
      omega

end Go.AM.Fd
