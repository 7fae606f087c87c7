/- Part of the proof: FdF. -/
import Derived.Test.YtfkboffbaikhoaaFdE
set_option linter.unusedSimpArgs false
set_option linter.unusedVariables false
namespace Go.AM.Fd
open Go.Proofs

/-- The writer's bytes are l now. -/
def Put (H H' : AHeap) (b bv : Nat) (l : List UInt8) : Prop := ∃ bv', WS H' b bv' l ∧ (bv' = bv ∨ H.n ≤ bv') ∧ Chg [b, bv] H H'

theorem t22 {H : AHeap} {b bv : Nat} {l : List UInt8} (h : WS H b bv l) (n : Nat) (hn : n < 256) (hl : l.length ≤ 100000000) : ∃ v H', ARun Try.prog 0 22 [ptr b 0, .int .u8 n] H v H' ∧ Put H H' b bv (l ++ be 1 n) := by
  refine walk f22_ok f22_n ?_
  obtain ⟨v, H', r, p⟩ := t33 h 5 n (by omega) (by simpa [wd] using hn) hl
  simp only [f22, initFr, ↓reduceIte, RD_nil, RD_cons, RD_consg, W_dreg, obl_nil, Nat.reduceAdd, Nat.add_zero, Nat.zero_add, Nat.mul_one, Int.toNat_natCast, W_skip, W_reg, W_seq, W_cond, W_block, W_exit, W_ret, getD_nil', RW_nil, RW_cons, RW_consg, AOp.map, AX_fr, AX_tm, AX_c, AX_fn, AX_g, D_no, D_no', D_tm, D_tm', D_fr, D_fr', List.getD_cons_zero, List.getD_cons_succ, List.set_cons_zero, List.set_cons_succ, List.map_cons, List.map_nil, Option.map_some, Option.map_none, wantA, beq_self_eq_true, if_true, Bool.false_eq_true, if_false, Bool.not_true, Bool.not_false, s_mov, s_pick, s_new, s_box, s_build, s_bslice, s_load1, s_loadn, s_nilck, s_bin, s_eqv, s_not, s_neg, s_i2i, s_s2s, s_s2b, s_iface, s_mkfn, s_faddr, s_fld1, s_iaddr, s_idxs, s_assert, s_extract, s_len, s_lens, s_lenc, s_callf, resO0, resO1, resO2, resO3, List.getElem?_cons_zero, List.getElem?_cons_succ, Nat.reduceEqDiff, true_and, and_true, false_and, e_sn, e_ss, e_pn, e_ps, e_bb, fill0, fill1, b_add, b_sub, b_mul, b_eql, b_neq, b_lss, b_leq, b_gtr, b_geq, b_and, b_or, b_xor, b_seql, b_sneq, b_slss, AQ.andThen, AQ.inBlock, Option.some.injEq, exists_eq_left', exists_eq_left, reduceCtorEq, Exit.exit.injEq]
  exact ⟨v, H', r, p⟩
theorem t23 {H : AHeap} {b bv : Nat} {l : List UInt8} (h : WS H b bv l) (n : Nat) (hn : n < 65536) (hl : l.length ≤ 100000000) : ∃ v H', ARun Try.prog 0 23 [ptr b 0, .int .u16 n] H v H' ∧ Put H H' b bv (l ++ be 2 n) := by
  refine walk f23_ok f23_n ?_
  obtain ⟨v, H', r, p⟩ := t33 h 54 n (by omega) (by simpa [wd] using hn) hl
  simp only [f23, initFr, ↓reduceIte, RD_nil, RD_cons, RD_consg, W_dreg, obl_nil, Nat.reduceAdd, Nat.add_zero, Nat.zero_add, Nat.mul_one, Int.toNat_natCast, W_skip, W_reg, W_seq, W_cond, W_block, W_exit, W_ret, getD_nil', RW_nil, RW_cons, RW_consg, AOp.map, AX_fr, AX_tm, AX_c, AX_fn, AX_g, D_no, D_no', D_tm, D_tm', D_fr, D_fr', List.getD_cons_zero, List.getD_cons_succ, List.set_cons_zero, List.set_cons_succ, List.map_cons, List.map_nil, Option.map_some, Option.map_none, wantA, beq_self_eq_true, if_true, Bool.false_eq_true, if_false, Bool.not_true, Bool.not_false, s_mov, s_pick, s_new, s_box, s_build, s_bslice, s_load1, s_loadn, s_nilck, s_bin, s_eqv, s_not, s_neg, s_i2i, s_s2s, s_s2b, s_iface, s_mkfn, s_faddr, s_fld1, s_iaddr, s_idxs, s_assert, s_extract, s_len, s_lens, s_lenc, s_callf, resO0, resO1, resO2, resO3, List.getElem?_cons_zero, List.getElem?_cons_succ, Nat.reduceEqDiff, true_and, and_true, false_and, e_sn, e_ss, e_pn, e_ps, e_bb, fill0, fill1, b_add, b_sub, b_mul, b_eql, b_neq, b_lss, b_leq, b_gtr, b_geq, b_and, b_or, b_xor, b_seql, b_sneq, b_slss, AQ.andThen, AQ.inBlock, Option.some.injEq, exists_eq_left', exists_eq_left, reduceCtorEq, Exit.exit.injEq]
  exact ⟨v, H', r, p⟩
theorem t24 {H : AHeap} {b bv : Nat} {l : List UInt8} (h : WS H b bv l) (n : Nat) (hn : n < 4294967296) (hl : l.length ≤ 100000000) : ∃ v H', ARun Try.prog 0 24 [ptr b 0, .int .u32 n] H v H' ∧ Put H H' b bv (l ++ be 4 n) := by
  refine walk f24_ok f24_n ?_
  obtain ⟨v, H', r, p⟩ := t33 h 56 n (by omega) (by simpa [wd] using hn) hl
  simp only [f24, initFr, ↓reduceIte, RD_nil, RD_cons, RD_consg, W_dreg, obl_nil, Nat.reduceAdd, Nat.add_zero, Nat.zero_add, Nat.mul_one, Int.toNat_natCast, W_skip, W_reg, W_seq, W_cond, W_block, W_exit, W_ret, getD_nil', RW_nil, RW_cons, RW_consg, AOp.map, AX_fr, AX_tm, AX_c, AX_fn, AX_g, D_no, D_no', D_tm, D_tm', D_fr, D_fr', List.getD_cons_zero, List.getD_cons_succ, List.set_cons_zero, List.set_cons_succ, List.map_cons, List.map_nil, Option.map_some, Option.map_none, wantA, beq_self_eq_true, if_true, Bool.false_eq_true, if_false, Bool.not_true, Bool.not_false, s_mov, s_pick, s_new, s_box, s_build, s_bslice, s_load1, s_loadn, s_nilck, s_bin, s_eqv, s_not, s_neg, s_i2i, s_s2s, s_s2b, s_iface, s_mkfn, s_faddr, s_fld1, s_iaddr, s_idxs, s_assert, s_extract, s_len, s_lens, s_lenc, s_callf, resO0, resO1, resO2, resO3, List.getElem?_cons_zero, List.getElem?_cons_succ, Nat.reduceEqDiff, true_and, and_true, false_and, e_sn, e_ss, e_pn, e_ps, e_bb, fill0, fill1, b_add, b_sub, b_mul, b_eql, b_neq, b_lss, b_leq, b_gtr, b_geq, b_and, b_or, b_xor, b_seql, b_sneq, b_slss, AQ.andThen, AQ.inBlock, Option.some.injEq, exists_eq_left', exists_eq_left, reduceCtorEq, Exit.exit.injEq]
  exact ⟨v, H', r, p⟩
theorem t25 {H : AHeap} {b bv : Nat} {l : List UInt8} (h : WS H b bv l) (n : Nat) (hn : n < 18446744073709551616) (hl : l.length ≤ 100000000) : ∃ v H', ARun Try.prog 0 25 [ptr b 0, .int .u64 n] H v H' ∧ Put H H' b bv (l ++ be 8 n) := by
  refine walk f25_ok f25_n ?_
  obtain ⟨v, H', r, p⟩ := t33 h 28 n (by omega) (by simpa [wd] using hn) hl
  simp only [f25, initFr, ↓reduceIte, RD_nil, RD_cons, RD_consg, W_dreg, obl_nil, Nat.reduceAdd, Nat.add_zero, Nat.zero_add, Nat.mul_one, Int.toNat_natCast, W_skip, W_reg, W_seq, W_cond, W_block, W_exit, W_ret, getD_nil', RW_nil, RW_cons, RW_consg, AOp.map, AX_fr, AX_tm, AX_c, AX_fn, AX_g, D_no, D_no', D_tm, D_tm', D_fr, D_fr', List.getD_cons_zero, List.getD_cons_succ, List.set_cons_zero, List.set_cons_succ, List.map_cons, List.map_nil, Option.map_some, Option.map_none, wantA, beq_self_eq_true, if_true, Bool.false_eq_true, if_false, Bool.not_true, Bool.not_false, s_mov, s_pick, s_new, s_box, s_build, s_bslice, s_load1, s_loadn, s_nilck, s_bin, s_eqv, s_not, s_neg, s_i2i, s_s2s, s_s2b, s_iface, s_mkfn, s_faddr, s_fld1, s_iaddr, s_idxs, s_assert, s_extract, s_len, s_lens, s_lenc, s_callf, resO0, resO1, resO2, resO3, List.getElem?_cons_zero, List.getElem?_cons_succ, Nat.reduceEqDiff, true_and, and_true, false_and, e_sn, e_ss, e_pn, e_ps, e_bb, fill0, fill1, b_add, b_sub, b_mul, b_eql, b_neq, b_lss, b_leq, b_gtr, b_geq, b_and, b_or, b_xor, b_seql, b_sneq, b_slss, AQ.andThen, AQ.inBlock, Option.some.injEq, exists_eq_left', exists_eq_left, reduceCtorEq, Exit.exit.injEq]
  exact ⟨v, H', r, p⟩

/-- Raw. -/
theorem t20 {H : AHeap} {b bv : Nat} {l m : List UInt8} {x : Value} (h : WS H b bv l) (hx : BS H x m) (hl : l.length + m.length ≤ 1000000000) : ∃ v H', ARun Try.prog 0 20 [ptr b 0, x] H v H' ∧ Put H H' b bv (l ++ m) := by
  refine walk f20_ok f20_n ?_
  obtain ⟨v, v', H1, e1, e2, e3, e4, e5⟩ := h.app hx hl
  simp only [f20, initFr, cellA_of e1, ↓reduceIte, RD_nil, RD_cons, RD_consg, W_dreg, obl_nil, Nat.reduceAdd, Nat.add_zero, Nat.zero_add, Nat.mul_one, Int.toNat_natCast, W_skip, W_reg, W_seq, W_cond, W_block, W_exit, W_ret, getD_nil', RW_nil, RW_cons, RW_consg, AOp.map, AX_fr, AX_tm, AX_c, AX_fn, AX_g, D_no, D_no', D_tm, D_tm', D_fr, D_fr', List.getD_cons_zero, List.getD_cons_succ, List.set_cons_zero, List.set_cons_succ, List.map_cons, List.map_nil, Option.map_some, Option.map_none, wantA, beq_self_eq_true, if_true, Bool.false_eq_true, if_false, Bool.not_true, Bool.not_false, s_mov, s_pick, s_new, s_box, s_build, s_bslice, s_load1, s_loadn, s_nilck, s_bin, s_eqv, s_not, s_neg, s_i2i, s_s2s, s_s2b, s_iface, s_mkfn, s_faddr, s_fld1, s_iaddr, s_idxs, s_assert, s_extract, s_len, s_lens, s_lenc, s_callf, resO0, resO1, resO2, resO3, List.getElem?_cons_zero, List.getElem?_cons_succ, Nat.reduceEqDiff, true_and, and_true, false_and, e_sn, e_ss, e_pn, e_ps, e_bb, fill0, fill1, b_add, b_sub, b_mul, b_eql, b_neq, b_lss, b_leq, b_gtr, b_geq, b_and, b_or, b_xor, b_seql, b_sneq, b_slss, AQ.andThen, AQ.inBlock, Option.some.injEq, exists_eq_left', exists_eq_left, reduceCtorEq, Exit.exit.injEq]
  refine e2 _ ?_
  simp only [s_store1 e3, ↓reduceIte, RD_nil, RD_cons, RD_consg, W_dreg, obl_nil, Nat.reduceAdd, Nat.add_zero, Nat.zero_add, Nat.mul_one, Int.toNat_natCast, W_skip, W_reg, W_seq, W_cond, W_block, W_exit, W_ret, getD_nil', RW_nil, RW_cons, RW_consg, AOp.map, AX_fr, AX_tm, AX_c, AX_fn, AX_g, D_no, D_no', D_tm, D_tm', D_fr, D_fr', List.getD_cons_zero, List.getD_cons_succ, List.set_cons_zero, List.set_cons_succ, List.map_cons, List.map_nil, Option.map_some, Option.map_none, wantA, beq_self_eq_true, if_true, Bool.false_eq_true, if_false, Bool.not_true, Bool.not_false, s_mov, s_pick, s_new, s_box, s_build, s_bslice, s_load1, s_loadn, s_nilck, s_bin, s_eqv, s_not, s_neg, s_i2i, s_s2s, s_s2b, s_iface, s_mkfn, s_faddr, s_fld1, s_iaddr, s_idxs, s_assert, s_extract, s_len, s_lens, s_lenc, s_callf, resO0, resO1, resO2, resO3, List.getElem?_cons_zero, List.getElem?_cons_succ, Nat.reduceEqDiff, true_and, and_true, false_and, e_sn, e_ss, e_pn, e_ps, e_bb, fill0, fill1, b_add, b_sub, b_mul, b_eql, b_neq, b_lss, b_leq, b_gtr, b_geq, b_and, b_or, b_xor, b_seql, b_sneq, b_slss, AQ.andThen, AQ.inBlock, Option.some.injEq, exists_eq_left', exists_eq_left, reduceCtorEq, Exit.exit.injEq]
  exact ⟨⟨by simp, e4⟩, e5⟩

/-- Out. -/
theorem t12 {H : AHeap} {b bv : Nat} {l : List UInt8} (h : WS H b bv l) (hl : l.length ≤ 1000000000) : ∃ v H', ARun Try.prog 0 12 [ptr b 0] H v H' ∧ AP H' 5 1 v l.length (cellsOf l) ∧ Keeps H H' ∧ Fresh H.n v := by
  refine walk f12_ok f12_n ?_
  obtain ⟨v, h1, h2, h3⟩ := h
  obtain ⟨v', H', r, p⟩ := t31 h2.bs hl
  simp only [f12, initFr, cellA_of h1, ↓reduceIte, RD_nil, RD_cons, RD_consg, W_dreg, obl_nil, Nat.reduceAdd, Nat.add_zero, Nat.zero_add, Nat.mul_one, Int.toNat_natCast, W_skip, W_reg, W_seq, W_cond, W_block, W_exit, W_ret, getD_nil', RW_nil, RW_cons, RW_consg, AOp.map, AX_fr, AX_tm, AX_c, AX_fn, AX_g, D_no, D_no', D_tm, D_tm', D_fr, D_fr', List.getD_cons_zero, List.getD_cons_succ, List.set_cons_zero, List.set_cons_succ, List.map_cons, List.map_nil, Option.map_some, Option.map_none, wantA, beq_self_eq_true, if_true, Bool.false_eq_true, if_false, Bool.not_true, Bool.not_false, s_mov, s_pick, s_new, s_box, s_build, s_bslice, s_load1, s_loadn, s_nilck, s_bin, s_eqv, s_not, s_neg, s_i2i, s_s2s, s_s2b, s_iface, s_mkfn, s_faddr, s_fld1, s_iaddr, s_idxs, s_assert, s_extract, s_len, s_lens, s_lenc, s_callf, resO0, resO1, resO2, resO3, List.getElem?_cons_zero, List.getElem?_cons_succ, Nat.reduceEqDiff, true_and, and_true, false_and, e_sn, e_ss, e_pn, e_ps, e_bb, fill0, fill1, b_add, b_sub, b_mul, b_eql, b_neq, b_lss, b_leq, b_gtr, b_geq, b_and, b_or, b_xor, b_seql, b_sneq, b_slss, AQ.andThen, AQ.inBlock, Option.some.injEq, exists_eq_left', exists_eq_left, reduceCtorEq, Exit.exit.injEq]
  exact ⟨v', H', r, p⟩

/-! ### Things -/
def itv (kind n : Nat) (bv : Value) : Value := .agg #[.int .u8 kind, .int .u64 n, bv]
def itB (kind n : Nat) (m : List UInt8) : List UInt8 := if kind % 5 = 4 then m else be (2 ^ (kind % 5)) n

theorem tmod_nat (a b : Nat) : ((a : Int).tmod (b : Int)) = ((a % b : Nat) : Int) := by
  rw [Int.tmod_eq_emod_of_nonneg (by omega)]; rfl
theorem tmod5 (a : Nat) : ((a : Int).tmod 5) = ((a % 5 : Nat) : Int) := tmod_nat a 5
theorem be_mod : ∀ w n k : Nat, w ≤ k → be w (n % 256 ^ k) = be w n
  | 0, _, _, _ => rfl
  | w + 1, n, k, h => by
    simp only [be]
    rw [be_mod w n k (by omega)]
    congr 1
    have h1 : n % 256 ^ k / 256 ^ w = n / 256 ^ w % 256 ^ (k - w) := by
      rw [show (256 : Nat) ^ k = 256 ^ w * 256 ^ (k - w) by rw [← Nat.pow_add]; congr 1; omega]
      rw [Nat.mod_mul_right_div_self]
    rw [h1]
    have h2 : (256 : Nat) ^ (k - w) = 256 * 256 ^ (k - w - 1) := by
      rw [← Nat.pow_succ']; congr 1; omega
    apply UInt8.toNat_inj.1
    simp only [UInt8.toNat_ofNat', h2]
    exact Nat.mod_mul_right_mod _ _ _

theorem t10 {H : AHeap} {b bb : Nat} {l m : List UInt8} {bv : Value} (h : WS H b bb l) (kind n : Nat) (hn : n < 18446744073709551616) (hx : BS H bv m) (hl : l.length + m.length ≤ 10000000) :
    ∃ v H', ARun Try.prog 0 10 [ptr b 0, itv kind n bv] H v H' ∧ Put H H' b bb (l ++ itB kind n m) := by
  refine walk f10_ok f10_n ?_
  obtain ⟨a, k, hsh⟩ := hx.sh
  have hone : bv.oneCell' = true := by rw [hsh]; rfl
  have g := AHeap.get_alloc_new H (.cells true false 3 [.int .u8 kind, .int .u64 n, bv] 30)
  have hK := (Keeps.refl H).alloc (.cells true false 3 [.int .u8 kind, .int .u64 n, bv] 30)
  have h' := h.chg (hK.chg []) (by simp) (by simp)
  have fin : ∀ H' l', Put (H.alloc (.cells true false 3 [.int .u8 kind, .int .u64 n, bv] 30)) H' b bb l' → Put H H' b bb l' := by
    rintro H' l' ⟨bv', a1, a2, a3⟩
    rw [alloc_n] at a2
    exact ⟨bv', a1, by omega, (hK.chg [b, bb]).trans a3 (fun x hx => .inl hx)⟩
  simp only [f10, initFr, itv, Value.cells, ↓reduceIte, RD_nil, RD_cons, RD_consg, W_dreg, obl_nil, Nat.reduceAdd, Nat.add_zero, Nat.zero_add, Nat.mul_one, Int.toNat_natCast, W_skip, W_reg, W_seq, W_cond, W_block, W_exit, W_ret, getD_nil', RW_nil, RW_cons, RW_consg, AOp.map, AX_fr, AX_tm, AX_c, AX_fn, AX_g, D_no, D_no', D_tm, D_tm', D_fr, D_fr', List.getD_cons_zero, List.getD_cons_succ, List.set_cons_zero, List.set_cons_succ, List.map_cons, List.map_nil, Option.map_some, Option.map_none, wantA, beq_self_eq_true, if_true, Bool.false_eq_true, if_false, Bool.not_true, Bool.not_false, s_mov, s_pick, s_new, s_box, s_build, s_bslice, s_load1, s_loadn, s_nilck, s_bin, s_eqv, s_not, s_neg, s_i2i, s_s2s, s_s2b, s_iface, s_mkfn, s_faddr, s_fld1, s_iaddr, s_idxs, s_assert, s_extract, s_len, s_lens, s_lenc, s_callf, resO0, resO1, resO2, resO3, List.getElem?_cons_zero, List.getElem?_cons_succ, Nat.reduceEqDiff, true_and, and_true, false_and, e_sn, e_ss, e_pn, e_ps, e_bb, fill0, fill1, b_add, b_sub, b_mul, b_eql, b_neq, b_lss, b_leq, b_gtr, b_geq, b_and, b_or, b_xor, b_seql, b_sneq, b_slss, AQ.andThen, AQ.inBlock, Option.some.injEq, exists_eq_left', exists_eq_left, reduceCtorEq, Exit.exit.injEq, cellA_of g, b_rem _ _ _ (show (5 : Int) ≠ 0 by omega), tmod5]
  refine ⟨by rw [hsh]; rfl, ?_⟩
  have hr : kind % 5 < 5 := Nat.mod_lt _ (by omega)
  unfold itB
  generalize kind % 5 = r at hr
  have c0 : r = 0 ∨ r = 1 ∨ r = 2 ∨ r = 3 ∨ r = 4 := by omega
  rcases c0 with rfl | rfl | rfl | rfl | rfl
  · obtain ⟨v, H', q, p⟩ := t22 h' (n % 256) (by omega) (by omega)
    rw [wrap_u8]
    refine ⟨v, H', q, ?_⟩
    have := be_mod 1 n 1 (by omega)
    rw [Nat.pow_one] at this
    rw [this] at p
    exact fin H' _ p
  · obtain ⟨v, H', q, p⟩ := t23 h' (n % 65536) (by omega) (by omega)
    rw [wrap_u16]
    refine ⟨v, H', q, ?_⟩
    have := be_mod 2 n 2 (by omega)
    rw [show 256 ^ 2 = 65536 by rfl] at this
    rw [this] at p
    exact fin H' _ p
  · obtain ⟨v, H', q, p⟩ := t24 h' (n % 4294967296) (by omega) (by omega)
    rw [wrap_u32]
    refine ⟨v, H', q, ?_⟩
    have := be_mod 4 n 4 (by omega)
    rw [show 256 ^ 4 = 4294967296 by rfl] at this
    rw [this] at p
    exact fin H' _ p
  · obtain ⟨v, H', q, p⟩ := t25 h' n hn (by omega)
    exact ⟨v, H', q, fin H' _ p⟩
  · obtain ⟨v, H', q, p⟩ := t20 h' (hx.keeps hK) (by omega)
    exact ⟨v, H', q, fin H' _ p⟩
end Go.AM.Fd
