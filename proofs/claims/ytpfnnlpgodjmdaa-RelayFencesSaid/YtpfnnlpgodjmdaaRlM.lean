/- Part of the proof: RlM. -/
import Derived.Test.YtpfnnlpgodjmdaaRlL
set_option linter.unusedSimpArgs false
set_option linter.unusedVariables false
namespace Go.AM.Rl
open Go.Proofs

theorem nd_zero (L : Nat) : nd 0 L = 0 := by
  unfold nd
  have : (BitVec.ofInt IntKind.u64.bits ((0 : Nat) : Int) &&& ~~~ BitVec.ofInt IntKind.u64.bits (L : Int)) = 0 := by
    simp
  rw [this]; rfl

structure G (P : Nat) (t : St) (cy : Int) (ti lo lp : Nat) (rs : Bool) : Prop where
  inv : Inv P t
  cy : cy = t.cyc
  lp : lp = t.pt
  st : t.stop = true → t.op = 0
  go : t.stop = false → rs = true ∧ lo = t.op ∧ ti = t.sil ∧ t.sil ≤ P
  lk : ∃ (L : Nat) (s : List Value), t.ws = .int .u64 L :: s ∧ nd t.op L = 0

theorem fence_facts (t : St) (p e : Int) : t.ep ≤ (fenceS t p e).2.ep ∧ ((fenceS t p e).2.ep = t.ep → (fenceS t p e).2.pr = t.pr) ∧ (fenceS t p e).2.cyc = cyA (fenceS t p e).2 t.ep t.cyc ∧
    (fenceS t p e).2.sil = t.sil ∧ (fenceS t p e).2.stop = t.stop ∧ (fenceS t p e).2.op = t.op ∧ (fenceS t p e).2.pt = t.pt ∧ (fenceS t p e).2.ws = t.ws ∧
    ((fenceS t p e).1 = 0 → (fenceS t p e).2.ep = e ∧ (fenceS t p e).2.pr = p) := by
  unfold fenceS cyA
  split
  · simp
  · split
    · simp
    · rename_i h1 h2
      split
      · rename_i h3
        refine ⟨by simp; omega, by simp; omega, ?_, rfl, rfl, rfl, rfl, rfl, fun _ => ⟨rfl, rfl⟩⟩
        simp [h3]
      · rename_i h3
        refine ⟨by simp, by simp, by simp, rfl, rfl, rfl, rfl, rfl, fun _ => ?_⟩
        have h4 : e = t.ep := by omega
        refine ⟨h4.symm, ?_⟩
        refine Classical.byContradiction fun h => h2 (.inr ⟨h4, fun h5 => h h5.symm⟩)
theorem G.fence {P : Nat} {t : St} {cy : Int} {ti lo lp : Nat} {rs : Bool} (g : G P t cy ti lo lp rs) (p e : Int) : G P (fenceS t p e).2 (cyA (fenceS t p e).2 t.ep cy) ti lo lp rs := by
  obtain ⟨a1, a2, a3, a4, a5, a6, a7, a8, _⟩ := fence_facts t p e
  obtain ⟨b1, b2, b3, b4, b5, b6⟩ := g
  refine ⟨inv_fence b1 p e, by rw [b2, a3], by rw [a7]; exact b3, by rw [a5, a6]; exact b4, by rw [a5, a6, a4]; exact b5, by rw [a8, a6]; exact b6⟩

structure Mid (H H' : AHeap) (r P lb xb : Nat) (t : St) (cy : Int) (ti : Nat) (x : Call) (t1 : St) (f1 : Int) (ti1 lo1 lp1 : Nat) (rs1 : Bool) : Prop where
  rs : RS H' r P t1
  gx : H'.get xb = some (.cells true false 75 (CC x) 42)
  gl : H'.get lb = some (.cells true false 2 [.int .u64 lo1, .int .u32 lp1] 35)
  ch : Chg [r, lb] H H'
  m1 : t.ep ≤ t1.ep
  m2 : t1.ep = t.ep → t1.pr = t.pr
  tb : ti1 ≤ ti + 1
  cs : (f1 ≠ 0 ∧ G P t1 (cyA t1 t.ep cy) ti1 lo1 lp1 rs1) ∨ (f1 = 0 ∧ x.e = t1.ep ∧ x.p = t1.pr ∧ cyA t1 t.ep cy < x.c ∧ rs1 = true ∧ t1.has = true ∧ t1.ws = .int .u64 x.L :: x.s ∧ t1.wc = x.c ∧ t1.stop = false ∧ G P t1 x.c 0 x.o x.pt true)

section
variable {Q : AQ} {H : AHeap} {r P lb xb p0 ti i lo lp : Nat} {cy f : Int} {v1 y14 y15 y16 y17 y18 y19 y20 y21 y22 y23 y24 y25 y26 y27 y28 y29 y30 y31 y32 y33 y34 y35 : Value} {t : St} {rs : Bool}

theorem wS {x : Call} (hx : COK x) (h : RS H r P t) (gx : H.get xb = some (.cells true false 75 (CC x) 42)) (gl : H.get lb = some (.cells true false 2 [.int .u64 lo, .int .u32 lp] 35)) (n1 : r ≠ lb) (n2 : r ≠ xb) (n3 : lb ≠ xb)
    (g : G P t cy ti lo lp rs) (hti : ti ≤ 1000) (hP : P ≤ 1000)
    (hq : ∀ H' t1 f1 ti1 lo1 lp1 rs1 z21 z22 z23 z24 z25 z26 z27, Mid H H' r P lb xb t cy ti x t1 f1 ti1 lo1 lp1 rs1 → Q .normal [.int .u8 (p0 : Int), v1, .bool false, ptr r 0, .int .i64 0, .int .i64 t.ep, .int .i64 cy, .int .i64 (ti1 : Int), .int .i64 t.pr, ptr lb 0, .bool rs1, .int .i64 (i : Int), ptr xb 0, .int .i64 f1, y14, y15, y16, y17, y18, y19, y20, z21, z22, z23, z24, z25, z26, z27, y28, y29, y30, y31, y32, y33, y34, y35] H') : W Try.prog 0 p4_0 Q [.int .u8 (p0 : Int), v1, .bool false, ptr r 0, .int .i64 0, .int .i64 t.ep, .int .i64 cy, .int .i64 (ti : Int), .int .i64 t.pr, ptr lb 0, .bool rs, .int .i64 (i : Int), ptr xb 0, .int .i64 4, y14, y15, y16, y17, y18, y19, y20, y21, y22, y23, y24, y25, y26, y27, y28, y29, y30, y31, y32, y33, y34, y35] H := by
  have e8 : ((x.k : Int).tmod 8) = ((x.k % 8 : Nat) : Int) := by rw [Int.tmod_eq_emod_of_nonneg (by omega)]; rfl
  have hlt : x.k % 8 < 8 := Nat.mod_lt _ (by omega)
  have c0 : cellA H xb 0 = some (.int .u8 x.k) := by rw [cellA_of gx]; rfl
  have c1 : cellA H xb 1 = some (.int .i64 x.p) := by rw [cellA_of gx]; rfl
  have c4 : cellA H xb 4 = some (.int .i64 x.e) := by rw [cellA_of gx]; rfl
  have a5 : rangeA H xb 2 5 = some [x.x0, .int .i64 x.c, .int .i64 x.e, .int .u64 x.o, .int .u32 x.pt] := by
    rw [rangeA_of gx, if_pos (by rw [CC_len hx]; omega)]; rfl
  have a7 : rangeA H xb 7 68 = some (.int .u64 x.L :: x.s) := by
    rw [rangeA_of gx, if_pos (by rw [CC_len hx]; omega)]
    simp only [CC, List.drop]
    rw [List.take_of_length_le (by simp [hx.hs])]
  have l1 : cellA H lb 1 = some (.int .u32 lp) := by rw [cellA_of gl]; rfl
  have ff := fence_facts t x.p x.e
  have gf := g.fence x.p x.e
  have hrl := AHeap.get_lt h
  have hll := AHeap.get_lt gl
  simp only [p4_0, W_skip, W_reg, W_seq, w_cond, cond_true, cond_false, W_block, W_exit, W_ret, W_dreg, r_nil, r_cons, r_consg, gd_true, gd_false, go_some, st_call, st_callv, d_nil, d_cons, d_consg, gdD_true, gdD_false, goD_some, goD_some', stD_call, st_mov, st_pick, st_new, st_box, st_build, st_bslice, st_load1, st_loadn, st_store1, st_storen, st_nilck, st_bin, st_eqv, st_un, st_i2i, st_s2s, st_s2b, st_b2s, st_iface, st_mkfn, st_mksl, st_slstr, st_slsl, st_faddr, st_fld1, st_fldn, st_iaddr, st_idxs, st_assert, st_extract, st_len, st_mark, sd_pick, sd_new, sd_box, sd_build, sd_bslice, sd_load1, sd_loadn, sd_store1, sd_storen, sd_nilck, sd_bin, sd_eqv, sd_un, sd_i2i, sd_s2s, sd_s2b, sd_b2s, sd_iface, sd_mkfn, sd_mksl, sd_slstr, sd_slsl, sd_faddr, sd_fld1, sd_fldn, sd_iaddr, sd_idxs, sd_assert, sd_extract, sd_len, sd_mark, sd_mov, a_mov, a_pick, a_new, a_box, a_build, a_load1, a_loadn, a_nilck, a_bin, a_eqv, a_not, a_neg, a_i2i, a_s2s, a_s2b, a_iface, a_mkfn, a_faddr, a_fld1, a_iaddr, a_assert, a_extract, a_len, a_lenc, a_lens, AOp.map, AX_fr, AX_tm, AX_c, AX_fn, AX_g, D_no, D_no', D_tm, D_tm', D_fr, D_fr', List.getD_cons_zero, List.getD_cons_succ, getD_nil', List.set_cons_zero, List.set_cons_succ, List.map_cons, List.map_nil, Option.map_some, Option.map_none, want_x, bi_tt, bi_tf, bi_ft, bi_ff, pk_t, pk_f, beq_self_eq_true, ↓reduceIte, if_true, Bool.false_eq_true, if_false, Bool.not_true, Bool.not_false, Nat.reduceAdd, Nat.add_zero, Nat.zero_add, Nat.mul_one, Int.toNat_natCast, resO0, resO1, resO2, resO3, List.getElem?_cons_zero, List.getElem?_cons_succ, Nat.reduceEqDiff, true_and, and_true, false_and, e_sn, e_ss, e_pn, e_ps, e_bb, fill0, fill1, b_add, b_sub, b_mul, b_eql, b_neq, b_lss, b_leq, b_gtr, b_geq, b_and, b_or, b_xor, b_seql, b_sneq, b_slss, at_n, at_e, at_r, ib_n, ib_r, ib_e, ib_x, reduceCtorEq, Exit.exit.injEq, initFr, Bool.true_beq, Bool.false_beq, beq_true, beq_false, one_int, one_bool, one_str, one_sl, one_slc, one_ptr, one_pn, one_if, one_map, List.length_cons, List.length_nil, Nat.reduceLT, List.all_cons, List.all_nil, Bool.and_true, Bool.true_and, and_self, bnd_none, o_int, o_bool, o_str, o_sl, o_slc, o_ptr, o_pn, o_if, o_map, c0, b_rem _ _ _ (show (8 : Int) ≠ 0 by omega), e8]
  generalize x.k % 8 = q at *
  have c8 : q = 0 ∨ q = 1 ∨ q = 2 ∨ q = 3 ∨ q = 4 ∨ q = 5 ∨ q = 6 ∨ q = 7 := by omega
  rcases c8 with rfl | rfl | rfl | rfl | rfl | rfl | rfl | rfl
  · simp only [W_skip, W_reg, W_seq, w_cond, cond_true, cond_false, W_block, W_exit, W_ret, W_dreg, r_nil, r_cons, r_consg, gd_true, gd_false, go_some, st_call, st_callv, d_nil, d_cons, d_consg, gdD_true, gdD_false, goD_some, goD_some', stD_call, st_mov, st_pick, st_new, st_box, st_build, st_bslice, st_load1, st_loadn, st_store1, st_storen, st_nilck, st_bin, st_eqv, st_un, st_i2i, st_s2s, st_s2b, st_b2s, st_iface, st_mkfn, st_mksl, st_slstr, st_slsl, st_faddr, st_fld1, st_fldn, st_iaddr, st_idxs, st_assert, st_extract, st_len, st_mark, sd_pick, sd_new, sd_box, sd_build, sd_bslice, sd_load1, sd_loadn, sd_store1, sd_storen, sd_nilck, sd_bin, sd_eqv, sd_un, sd_i2i, sd_s2s, sd_s2b, sd_b2s, sd_iface, sd_mkfn, sd_mksl, sd_slstr, sd_slsl, sd_faddr, sd_fld1, sd_fldn, sd_iaddr, sd_idxs, sd_assert, sd_extract, sd_len, sd_mark, sd_mov, a_mov, a_pick, a_new, a_box, a_build, a_load1, a_loadn, a_nilck, a_bin, a_eqv, a_not, a_neg, a_i2i, a_s2s, a_s2b, a_iface, a_mkfn, a_faddr, a_fld1, a_iaddr, a_assert, a_extract, a_len, a_lenc, a_lens, AOp.map, AX_fr, AX_tm, AX_c, AX_fn, AX_g, D_no, D_no', D_tm, D_tm', D_fr, D_fr', List.getD_cons_zero, List.getD_cons_succ, getD_nil', List.set_cons_zero, List.set_cons_succ, List.map_cons, List.map_nil, Option.map_some, Option.map_none, want_x, bi_tt, bi_tf, bi_ft, bi_ff, pk_t, pk_f, beq_self_eq_true, ↓reduceIte, if_true, Bool.false_eq_true, if_false, Bool.not_true, Bool.not_false, Nat.reduceAdd, Nat.add_zero, Nat.zero_add, Nat.mul_one, Int.toNat_natCast, resO0, resO1, resO2, resO3, List.getElem?_cons_zero, List.getElem?_cons_succ, Nat.reduceEqDiff, true_and, and_true, false_and, e_sn, e_ss, e_pn, e_ps, e_bb, fill0, fill1, b_add, b_sub, b_mul, b_eql, b_neq, b_lss, b_leq, b_gtr, b_geq, b_and, b_or, b_xor, b_seql, b_sneq, b_slss, at_n, at_e, at_r, ib_n, ib_r, ib_e, ib_x, reduceCtorEq, Exit.exit.injEq, initFr, Bool.true_beq, Bool.false_beq, beq_true, beq_false, one_int, one_bool, one_str, one_sl, one_slc, one_ptr, one_pn, one_if, one_map, List.length_cons, List.length_nil, Nat.reduceLT, List.all_cons, List.all_nil, Bool.and_true, Bool.true_and, and_self, bnd_none, o_int, o_bool, o_str, o_sl, o_slc, o_ptr, o_pn, o_if, o_map, show ((((0 : Nat) : Int)) == 3) = false by decide, show ((((0 : Nat) : Int)) == 4) = false by decide, show ((((0 : Nat) : Int)) == 5) = false by decide, show ((((0 : Nat) : Int)) == 6) = false by decide, show ((((0 : Nat) : Int)) == 7) = false by decide, c1, a5, a7]
    obtain ⟨_, H2, r2, rfl, p2, d2⟩ := t15 h x.p x.e x.c x.x0 x.o x.pt x.L x.s hx.h0 hx.hs hx.hi.one
    refine ⟨_, _, r2, ?_⟩
    simp only [W_skip, W_reg, W_seq, w_cond, cond_true, cond_false, W_block, W_exit, W_ret, W_dreg, r_nil, r_cons, r_consg, gd_true, gd_false, go_some, st_call, st_callv, d_nil, d_cons, d_consg, gdD_true, gdD_false, goD_some, goD_some', stD_call, st_mov, st_pick, st_new, st_box, st_build, st_bslice, st_load1, st_loadn, st_store1, st_storen, st_nilck, st_bin, st_eqv, st_un, st_i2i, st_s2s, st_s2b, st_b2s, st_iface, st_mkfn, st_mksl, st_slstr, st_slsl, st_faddr, st_fld1, st_fldn, st_iaddr, st_idxs, st_assert, st_extract, st_len, st_mark, sd_pick, sd_new, sd_box, sd_build, sd_bslice, sd_load1, sd_loadn, sd_store1, sd_storen, sd_nilck, sd_bin, sd_eqv, sd_un, sd_i2i, sd_s2s, sd_s2b, sd_b2s, sd_iface, sd_mkfn, sd_mksl, sd_slstr, sd_slsl, sd_faddr, sd_fld1, sd_fldn, sd_iaddr, sd_idxs, sd_assert, sd_extract, sd_len, sd_mark, sd_mov, a_mov, a_pick, a_new, a_box, a_build, a_load1, a_loadn, a_nilck, a_bin, a_eqv, a_not, a_neg, a_i2i, a_s2s, a_s2b, a_iface, a_mkfn, a_faddr, a_fld1, a_iaddr, a_assert, a_extract, a_len, a_lenc, a_lens, AOp.map, AX_fr, AX_tm, AX_c, AX_fn, AX_g, D_no, D_no', D_tm, D_tm', D_fr, D_fr', List.getD_cons_zero, List.getD_cons_succ, getD_nil', List.set_cons_zero, List.set_cons_succ, List.map_cons, List.map_nil, Option.map_some, Option.map_none, want_x, bi_tt, bi_tf, bi_ft, bi_ff, pk_t, pk_f, beq_self_eq_true, ↓reduceIte, if_true, Bool.false_eq_true, if_false, Bool.not_true, Bool.not_false, Nat.reduceAdd, Nat.add_zero, Nat.zero_add, Nat.mul_one, Int.toNat_natCast, resO0, resO1, resO2, resO3, List.getElem?_cons_zero, List.getElem?_cons_succ, Nat.reduceEqDiff, true_and, and_true, false_and, e_sn, e_ss, e_pn, e_ps, e_bb, fill0, fill1, b_add, b_sub, b_mul, b_eql, b_neq, b_lss, b_leq, b_gtr, b_geq, b_and, b_or, b_xor, b_seql, b_sneq, b_slss, at_n, at_e, at_r, ib_n, ib_r, ib_e, ib_x, reduceCtorEq, Exit.exit.injEq, initFr, Bool.true_beq, Bool.false_beq, beq_true, beq_false, one_int, one_bool, one_str, one_sl, one_slc, one_ptr, one_pn, one_if, one_map, List.length_cons, List.length_nil, Nat.reduceLT, List.all_cons, List.all_nil, Bool.and_true, Bool.true_and, and_self, bnd_none, o_int, o_bool, o_str, o_sl, o_slc, o_ptr, o_pn, o_if, o_map]
    refine hq H2 (admitS t x.p x.e x.c x.o x.pt x.L x.s).2 _ ti lo lp rs _ _ _ _ _ _ _ ?_
    have gx2 := d2.at_ gx (by simp; omega)
    have gl2 := d2.at_ gl (by simp; omega)
    have ch2 : Chg [r, lb] H H2 := d2.mono (by simp)
    obtain ⟨f1, f2, f3, f4, f5, f6, f7, f8, f9⟩ := ff
    have hc0 : cyA t t.ep cy = cy := by simp [cyA]
    unfold admitS at p2 ⊢
    by_cases k1 : (fenceS t x.p x.e).1 = 0
    case neg =>
      simp only [ne_eq, k1, not_false_eq_true, if_true] at p2 ⊢
      exact ⟨p2, gx2, gl2, ch2, Int.le_refl _, fun _ => rfl, by omega, .inl ⟨k1, by rw [hc0]; exact g⟩⟩
    simp only [ne_eq, k1, not_true_eq_false, if_false] at p2 ⊢
    by_cases k2 : (x.c < 0 ∨ 1099511627776 < x.c ∨ ¬ nd x.o x.L = 0)
    · simp only [k2, if_true] at p2 ⊢
      exact ⟨p2, gx2, gl2, ch2, Int.le_refl _, fun _ => rfl, by omega, .inl ⟨by simp, by rw [hc0]; exact g⟩⟩
    simp only [k2, if_false] at p2 ⊢
    cases k3 : (fenceS t x.p x.e).2.stop
    case true =>
      simp only [k3, if_true] at p2 ⊢
      exact ⟨p2, gx2, gl2, ch2, f1, f2, by omega, .inl ⟨by simp, gf⟩⟩
    simp only [k3, Bool.false_eq_true, if_false] at p2 ⊢
    by_cases k4 : x.c ≤ (fenceS t x.p x.e).2.cyc
    · simp only [k4, if_true] at p2 ⊢
      exact ⟨p2, gx2, gl2, ch2, f1, f2, by omega, .inl ⟨by simp, gf⟩⟩
    simp only [k4, if_false] at p2 ⊢
    have hcy := gf.cy
    obtain ⟨k5, k6⟩ := f9 k1
    have hinv := inv_fence g.inv x.p x.e
    have hgo := g.go (by rw [← f5]; exact k3)
    refine ⟨p2, gx2, gl2, ch2, f1, f2, by omega, .inr ⟨rfl, k5.symm, k6.symm, ?_, hgo.1, rfl, rfl, rfl, rfl, ?_⟩⟩
    · show cyA (fenceS t x.p x.e).2 t.ep cy < x.c
      rw [hcy]; omega
    · refine ⟨⟨by simp [hx.hs], ?_, fun h => (by cases h), (by simp), fun h => absurd (Or.inl h) k2⟩, rfl, rfl, (fun h => by cases h), fun _ => ⟨rfl, rfl, rfl, by simp⟩, ⟨_, _, rfl, ?_⟩⟩
      · intro v hv
        simp only [List.mem_cons] at hv
        rcases hv with rfl | hv
        · exact ⟨_, _, rfl⟩
        · exact hx.hi v hv
      · exact Classical.byContradiction fun h => k2 (.inr (.inr h))
  · simp only [W_skip, W_reg, W_seq, w_cond, cond_true, cond_false, W_block, W_exit, W_ret, W_dreg, r_nil, r_cons, r_consg, gd_true, gd_false, go_some, st_call, st_callv, d_nil, d_cons, d_consg, gdD_true, gdD_false, goD_some, goD_some', stD_call, st_mov, st_pick, st_new, st_box, st_build, st_bslice, st_load1, st_loadn, st_store1, st_storen, st_nilck, st_bin, st_eqv, st_un, st_i2i, st_s2s, st_s2b, st_b2s, st_iface, st_mkfn, st_mksl, st_slstr, st_slsl, st_faddr, st_fld1, st_fldn, st_iaddr, st_idxs, st_assert, st_extract, st_len, st_mark, sd_pick, sd_new, sd_box, sd_build, sd_bslice, sd_load1, sd_loadn, sd_store1, sd_storen, sd_nilck, sd_bin, sd_eqv, sd_un, sd_i2i, sd_s2s, sd_s2b, sd_b2s, sd_iface, sd_mkfn, sd_mksl, sd_slstr, sd_slsl, sd_faddr, sd_fld1, sd_fldn, sd_iaddr, sd_idxs, sd_assert, sd_extract, sd_len, sd_mark, sd_mov, a_mov, a_pick, a_new, a_box, a_build, a_load1, a_loadn, a_nilck, a_bin, a_eqv, a_not, a_neg, a_i2i, a_s2s, a_s2b, a_iface, a_mkfn, a_faddr, a_fld1, a_iaddr, a_assert, a_extract, a_len, a_lenc, a_lens, AOp.map, AX_fr, AX_tm, AX_c, AX_fn, AX_g, D_no, D_no', D_tm, D_tm', D_fr, D_fr', List.getD_cons_zero, List.getD_cons_succ, getD_nil', List.set_cons_zero, List.set_cons_succ, List.map_cons, List.map_nil, Option.map_some, Option.map_none, want_x, bi_tt, bi_tf, bi_ft, bi_ff, pk_t, pk_f, beq_self_eq_true, ↓reduceIte, if_true, Bool.false_eq_true, if_false, Bool.not_true, Bool.not_false, Nat.reduceAdd, Nat.add_zero, Nat.zero_add, Nat.mul_one, Int.toNat_natCast, resO0, resO1, resO2, resO3, List.getElem?_cons_zero, List.getElem?_cons_succ, Nat.reduceEqDiff, true_and, and_true, false_and, e_sn, e_ss, e_pn, e_ps, e_bb, fill0, fill1, b_add, b_sub, b_mul, b_eql, b_neq, b_lss, b_leq, b_gtr, b_geq, b_and, b_or, b_xor, b_seql, b_sneq, b_slss, at_n, at_e, at_r, ib_n, ib_r, ib_e, ib_x, reduceCtorEq, Exit.exit.injEq, initFr, Bool.true_beq, Bool.false_beq, beq_true, beq_false, one_int, one_bool, one_str, one_sl, one_slc, one_ptr, one_pn, one_if, one_map, List.length_cons, List.length_nil, Nat.reduceLT, List.all_cons, List.all_nil, Bool.and_true, Bool.true_and, and_self, bnd_none, o_int, o_bool, o_str, o_sl, o_slc, o_ptr, o_pn, o_if, o_map, show ((((1 : Nat) : Int)) == 3) = false by decide, show ((((1 : Nat) : Int)) == 4) = false by decide, show ((((1 : Nat) : Int)) == 5) = false by decide, show ((((1 : Nat) : Int)) == 6) = false by decide, show ((((1 : Nat) : Int)) == 7) = false by decide, c1, a5, a7]
    obtain ⟨_, H2, r2, rfl, p2, d2⟩ := t15 h x.p x.e x.c x.x0 x.o x.pt x.L x.s hx.h0 hx.hs hx.hi.one
    refine ⟨_, _, r2, ?_⟩
    simp only [W_skip, W_reg, W_seq, w_cond, cond_true, cond_false, W_block, W_exit, W_ret, W_dreg, r_nil, r_cons, r_consg, gd_true, gd_false, go_some, st_call, st_callv, d_nil, d_cons, d_consg, gdD_true, gdD_false, goD_some, goD_some', stD_call, st_mov, st_pick, st_new, st_box, st_build, st_bslice, st_load1, st_loadn, st_store1, st_storen, st_nilck, st_bin, st_eqv, st_un, st_i2i, st_s2s, st_s2b, st_b2s, st_iface, st_mkfn, st_mksl, st_slstr, st_slsl, st_faddr, st_fld1, st_fldn, st_iaddr, st_idxs, st_assert, st_extract, st_len, st_mark, sd_pick, sd_new, sd_box, sd_build, sd_bslice, sd_load1, sd_loadn, sd_store1, sd_storen, sd_nilck, sd_bin, sd_eqv, sd_un, sd_i2i, sd_s2s, sd_s2b, sd_b2s, sd_iface, sd_mkfn, sd_mksl, sd_slstr, sd_slsl, sd_faddr, sd_fld1, sd_fldn, sd_iaddr, sd_idxs, sd_assert, sd_extract, sd_len, sd_mark, sd_mov, a_mov, a_pick, a_new, a_box, a_build, a_load1, a_loadn, a_nilck, a_bin, a_eqv, a_not, a_neg, a_i2i, a_s2s, a_s2b, a_iface, a_mkfn, a_faddr, a_fld1, a_iaddr, a_assert, a_extract, a_len, a_lenc, a_lens, AOp.map, AX_fr, AX_tm, AX_c, AX_fn, AX_g, D_no, D_no', D_tm, D_tm', D_fr, D_fr', List.getD_cons_zero, List.getD_cons_succ, getD_nil', List.set_cons_zero, List.set_cons_succ, List.map_cons, List.map_nil, Option.map_some, Option.map_none, want_x, bi_tt, bi_tf, bi_ft, bi_ff, pk_t, pk_f, beq_self_eq_true, ↓reduceIte, if_true, Bool.false_eq_true, if_false, Bool.not_true, Bool.not_false, Nat.reduceAdd, Nat.add_zero, Nat.zero_add, Nat.mul_one, Int.toNat_natCast, resO0, resO1, resO2, resO3, List.getElem?_cons_zero, List.getElem?_cons_succ, Nat.reduceEqDiff, true_and, and_true, false_and, e_sn, e_ss, e_pn, e_ps, e_bb, fill0, fill1, b_add, b_sub, b_mul, b_eql, b_neq, b_lss, b_leq, b_gtr, b_geq, b_and, b_or, b_xor, b_seql, b_sneq, b_slss, at_n, at_e, at_r, ib_n, ib_r, ib_e, ib_x, reduceCtorEq, Exit.exit.injEq, initFr, Bool.true_beq, Bool.false_beq, beq_true, beq_false, one_int, one_bool, one_str, one_sl, one_slc, one_ptr, one_pn, one_if, one_map, List.length_cons, List.length_nil, Nat.reduceLT, List.all_cons, List.all_nil, Bool.and_true, Bool.true_and, and_self, bnd_none, o_int, o_bool, o_str, o_sl, o_slc, o_ptr, o_pn, o_if, o_map]
    refine hq H2 (admitS t x.p x.e x.c x.o x.pt x.L x.s).2 _ ti lo lp rs _ _ _ _ _ _ _ ?_
    have gx2 := d2.at_ gx (by simp; omega)
    have gl2 := d2.at_ gl (by simp; omega)
    have ch2 : Chg [r, lb] H H2 := d2.mono (by simp)
    obtain ⟨f1, f2, f3, f4, f5, f6, f7, f8, f9⟩ := ff
    have hc0 : cyA t t.ep cy = cy := by simp [cyA]
    unfold admitS at p2 ⊢
    by_cases k1 : (fenceS t x.p x.e).1 = 0
    case neg =>
      simp only [ne_eq, k1, not_false_eq_true, if_true] at p2 ⊢
      exact ⟨p2, gx2, gl2, ch2, Int.le_refl _, fun _ => rfl, by omega, .inl ⟨k1, by rw [hc0]; exact g⟩⟩
    simp only [ne_eq, k1, not_true_eq_false, if_false] at p2 ⊢
    by_cases k2 : (x.c < 0 ∨ 1099511627776 < x.c ∨ ¬ nd x.o x.L = 0)
    · simp only [k2, if_true] at p2 ⊢
      exact ⟨p2, gx2, gl2, ch2, Int.le_refl _, fun _ => rfl, by omega, .inl ⟨by simp, by rw [hc0]; exact g⟩⟩
    simp only [k2, if_false] at p2 ⊢
    cases k3 : (fenceS t x.p x.e).2.stop
    case true =>
      simp only [k3, if_true] at p2 ⊢
      exact ⟨p2, gx2, gl2, ch2, f1, f2, by omega, .inl ⟨by simp, gf⟩⟩
    simp only [k3, Bool.false_eq_true, if_false] at p2 ⊢
    by_cases k4 : x.c ≤ (fenceS t x.p x.e).2.cyc
    · simp only [k4, if_true] at p2 ⊢
      exact ⟨p2, gx2, gl2, ch2, f1, f2, by omega, .inl ⟨by simp, gf⟩⟩
    simp only [k4, if_false] at p2 ⊢
    have hcy := gf.cy
    obtain ⟨k5, k6⟩ := f9 k1
    have hinv := inv_fence g.inv x.p x.e
    have hgo := g.go (by rw [← f5]; exact k3)
    refine ⟨p2, gx2, gl2, ch2, f1, f2, by omega, .inr ⟨rfl, k5.symm, k6.symm, ?_, hgo.1, rfl, rfl, rfl, rfl, ?_⟩⟩
    · show cyA (fenceS t x.p x.e).2 t.ep cy < x.c
      rw [hcy]; omega
    · refine ⟨⟨by simp [hx.hs], ?_, fun h => (by cases h), (by simp), fun h => absurd (Or.inl h) k2⟩, rfl, rfl, (fun h => by cases h), fun _ => ⟨rfl, rfl, rfl, by simp⟩, ⟨_, _, rfl, ?_⟩⟩
      · intro v hv
        simp only [List.mem_cons] at hv
        rcases hv with rfl | hv
        · exact ⟨_, _, rfl⟩
        · exact hx.hi v hv
      · exact Classical.byContradiction fun h => k2 (.inr (.inr h))
  · simp only [W_skip, W_reg, W_seq, w_cond, cond_true, cond_false, W_block, W_exit, W_ret, W_dreg, r_nil, r_cons, r_consg, gd_true, gd_false, go_some, st_call, st_callv, d_nil, d_cons, d_consg, gdD_true, gdD_false, goD_some, goD_some', stD_call, st_mov, st_pick, st_new, st_box, st_build, st_bslice, st_load1, st_loadn, st_store1, st_storen, st_nilck, st_bin, st_eqv, st_un, st_i2i, st_s2s, st_s2b, st_b2s, st_iface, st_mkfn, st_mksl, st_slstr, st_slsl, st_faddr, st_fld1, st_fldn, st_iaddr, st_idxs, st_assert, st_extract, st_len, st_mark, sd_pick, sd_new, sd_box, sd_build, sd_bslice, sd_load1, sd_loadn, sd_store1, sd_storen, sd_nilck, sd_bin, sd_eqv, sd_un, sd_i2i, sd_s2s, sd_s2b, sd_b2s, sd_iface, sd_mkfn, sd_mksl, sd_slstr, sd_slsl, sd_faddr, sd_fld1, sd_fldn, sd_iaddr, sd_idxs, sd_assert, sd_extract, sd_len, sd_mark, sd_mov, a_mov, a_pick, a_new, a_box, a_build, a_load1, a_loadn, a_nilck, a_bin, a_eqv, a_not, a_neg, a_i2i, a_s2s, a_s2b, a_iface, a_mkfn, a_faddr, a_fld1, a_iaddr, a_assert, a_extract, a_len, a_lenc, a_lens, AOp.map, AX_fr, AX_tm, AX_c, AX_fn, AX_g, D_no, D_no', D_tm, D_tm', D_fr, D_fr', List.getD_cons_zero, List.getD_cons_succ, getD_nil', List.set_cons_zero, List.set_cons_succ, List.map_cons, List.map_nil, Option.map_some, Option.map_none, want_x, bi_tt, bi_tf, bi_ft, bi_ff, pk_t, pk_f, beq_self_eq_true, ↓reduceIte, if_true, Bool.false_eq_true, if_false, Bool.not_true, Bool.not_false, Nat.reduceAdd, Nat.add_zero, Nat.zero_add, Nat.mul_one, Int.toNat_natCast, resO0, resO1, resO2, resO3, List.getElem?_cons_zero, List.getElem?_cons_succ, Nat.reduceEqDiff, true_and, and_true, false_and, e_sn, e_ss, e_pn, e_ps, e_bb, fill0, fill1, b_add, b_sub, b_mul, b_eql, b_neq, b_lss, b_leq, b_gtr, b_geq, b_and, b_or, b_xor, b_seql, b_sneq, b_slss, at_n, at_e, at_r, ib_n, ib_r, ib_e, ib_x, reduceCtorEq, Exit.exit.injEq, initFr, Bool.true_beq, Bool.false_beq, beq_true, beq_false, one_int, one_bool, one_str, one_sl, one_slc, one_ptr, one_pn, one_if, one_map, List.length_cons, List.length_nil, Nat.reduceLT, List.all_cons, List.all_nil, Bool.and_true, Bool.true_and, and_self, bnd_none, o_int, o_bool, o_str, o_sl, o_slc, o_ptr, o_pn, o_if, o_map, show ((((2 : Nat) : Int)) == 3) = false by decide, show ((((2 : Nat) : Int)) == 4) = false by decide, show ((((2 : Nat) : Int)) == 5) = false by decide, show ((((2 : Nat) : Int)) == 6) = false by decide, show ((((2 : Nat) : Int)) == 7) = false by decide, c1, a5, a7]
    obtain ⟨_, H2, r2, rfl, p2, d2⟩ := t15 h x.p x.e x.c x.x0 x.o x.pt x.L x.s hx.h0 hx.hs hx.hi.one
    refine ⟨_, _, r2, ?_⟩
    simp only [W_skip, W_reg, W_seq, w_cond, cond_true, cond_false, W_block, W_exit, W_ret, W_dreg, r_nil, r_cons, r_consg, gd_true, gd_false, go_some, st_call, st_callv, d_nil, d_cons, d_consg, gdD_true, gdD_false, goD_some, goD_some', stD_call, st_mov, st_pick, st_new, st_box, st_build, st_bslice, st_load1, st_loadn, st_store1, st_storen, st_nilck, st_bin, st_eqv, st_un, st_i2i, st_s2s, st_s2b, st_b2s, st_iface, st_mkfn, st_mksl, st_slstr, st_slsl, st_faddr, st_fld1, st_fldn, st_iaddr, st_idxs, st_assert, st_extract, st_len, st_mark, sd_pick, sd_new, sd_box, sd_build, sd_bslice, sd_load1, sd_loadn, sd_store1, sd_storen, sd_nilck, sd_bin, sd_eqv, sd_un, sd_i2i, sd_s2s, sd_s2b, sd_b2s, sd_iface, sd_mkfn, sd_mksl, sd_slstr, sd_slsl, sd_faddr, sd_fld1, sd_fldn, sd_iaddr, sd_idxs, sd_assert, sd_extract, sd_len, sd_mark, sd_mov, a_mov, a_pick, a_new, a_box, a_build, a_load1, a_loadn, a_nilck, a_bin, a_eqv, a_not, a_neg, a_i2i, a_s2s, a_s2b, a_iface, a_mkfn, a_faddr, a_fld1, a_iaddr, a_assert, a_extract, a_len, a_lenc, a_lens, AOp.map, AX_fr, AX_tm, AX_c, AX_fn, AX_g, D_no, D_no', D_tm, D_tm', D_fr, D_fr', List.getD_cons_zero, List.getD_cons_succ, getD_nil', List.set_cons_zero, List.set_cons_succ, List.map_cons, List.map_nil, Option.map_some, Option.map_none, want_x, bi_tt, bi_tf, bi_ft, bi_ff, pk_t, pk_f, beq_self_eq_true, ↓reduceIte, if_true, Bool.false_eq_true, if_false, Bool.not_true, Bool.not_false, Nat.reduceAdd, Nat.add_zero, Nat.zero_add, Nat.mul_one, Int.toNat_natCast, resO0, resO1, resO2, resO3, List.getElem?_cons_zero, List.getElem?_cons_succ, Nat.reduceEqDiff, true_and, and_true, false_and, e_sn, e_ss, e_pn, e_ps, e_bb, fill0, fill1, b_add, b_sub, b_mul, b_eql, b_neq, b_lss, b_leq, b_gtr, b_geq, b_and, b_or, b_xor, b_seql, b_sneq, b_slss, at_n, at_e, at_r, ib_n, ib_r, ib_e, ib_x, reduceCtorEq, Exit.exit.injEq, initFr, Bool.true_beq, Bool.false_beq, beq_true, beq_false, one_int, one_bool, one_str, one_sl, one_slc, one_ptr, one_pn, one_if, one_map, List.length_cons, List.length_nil, Nat.reduceLT, List.all_cons, List.all_nil, Bool.and_true, Bool.true_and, and_self, bnd_none, o_int, o_bool, o_str, o_sl, o_slc, o_ptr, o_pn, o_if, o_map]
    refine hq H2 (admitS t x.p x.e x.c x.o x.pt x.L x.s).2 _ ti lo lp rs _ _ _ _ _ _ _ ?_
    have gx2 := d2.at_ gx (by simp; omega)
    have gl2 := d2.at_ gl (by simp; omega)
    have ch2 : Chg [r, lb] H H2 := d2.mono (by simp)
    obtain ⟨f1, f2, f3, f4, f5, f6, f7, f8, f9⟩ := ff
    have hc0 : cyA t t.ep cy = cy := by simp [cyA]
    unfold admitS at p2 ⊢
    by_cases k1 : (fenceS t x.p x.e).1 = 0
    case neg =>
      simp only [ne_eq, k1, not_false_eq_true, if_true] at p2 ⊢
      exact ⟨p2, gx2, gl2, ch2, Int.le_refl _, fun _ => rfl, by omega, .inl ⟨k1, by rw [hc0]; exact g⟩⟩
    simp only [ne_eq, k1, not_true_eq_false, if_false] at p2 ⊢
    by_cases k2 : (x.c < 0 ∨ 1099511627776 < x.c ∨ ¬ nd x.o x.L = 0)
    · simp only [k2, if_true] at p2 ⊢
      exact ⟨p2, gx2, gl2, ch2, Int.le_refl _, fun _ => rfl, by omega, .inl ⟨by simp, by rw [hc0]; exact g⟩⟩
    simp only [k2, if_false] at p2 ⊢
    cases k3 : (fenceS t x.p x.e).2.stop
    case true =>
      simp only [k3, if_true] at p2 ⊢
      exact ⟨p2, gx2, gl2, ch2, f1, f2, by omega, .inl ⟨by simp, gf⟩⟩
    simp only [k3, Bool.false_eq_true, if_false] at p2 ⊢
    by_cases k4 : x.c ≤ (fenceS t x.p x.e).2.cyc
    · simp only [k4, if_true] at p2 ⊢
      exact ⟨p2, gx2, gl2, ch2, f1, f2, by omega, .inl ⟨by simp, gf⟩⟩
    simp only [k4, if_false] at p2 ⊢
    have hcy := gf.cy
    obtain ⟨k5, k6⟩ := f9 k1
    have hinv := inv_fence g.inv x.p x.e
    have hgo := g.go (by rw [← f5]; exact k3)
    refine ⟨p2, gx2, gl2, ch2, f1, f2, by omega, .inr ⟨rfl, k5.symm, k6.symm, ?_, hgo.1, rfl, rfl, rfl, rfl, ?_⟩⟩
    · show cyA (fenceS t x.p x.e).2 t.ep cy < x.c
      rw [hcy]; omega
    · refine ⟨⟨by simp [hx.hs], ?_, fun h => (by cases h), (by simp), fun h => absurd (Or.inl h) k2⟩, rfl, rfl, (fun h => by cases h), fun _ => ⟨rfl, rfl, rfl, by simp⟩, ⟨_, _, rfl, ?_⟩⟩
      · intro v hv
        simp only [List.mem_cons] at hv
        rcases hv with rfl | hv
        · exact ⟨_, _, rfl⟩
        · exact hx.hi v hv
      · exact Classical.byContradiction fun h => k2 (.inr (.inr h))
  · simp only [W_skip, W_reg, W_seq, w_cond, cond_true, cond_false, W_block, W_exit, W_ret, W_dreg, r_nil, r_cons, r_consg, gd_true, gd_false, go_some, st_call, st_callv, d_nil, d_cons, d_consg, gdD_true, gdD_false, goD_some, goD_some', stD_call, st_mov, st_pick, st_new, st_box, st_build, st_bslice, st_load1, st_loadn, st_store1, st_storen, st_nilck, st_bin, st_eqv, st_un, st_i2i, st_s2s, st_s2b, st_b2s, st_iface, st_mkfn, st_mksl, st_slstr, st_slsl, st_faddr, st_fld1, st_fldn, st_iaddr, st_idxs, st_assert, st_extract, st_len, st_mark, sd_pick, sd_new, sd_box, sd_build, sd_bslice, sd_load1, sd_loadn, sd_store1, sd_storen, sd_nilck, sd_bin, sd_eqv, sd_un, sd_i2i, sd_s2s, sd_s2b, sd_b2s, sd_iface, sd_mkfn, sd_mksl, sd_slstr, sd_slsl, sd_faddr, sd_fld1, sd_fldn, sd_iaddr, sd_idxs, sd_assert, sd_extract, sd_len, sd_mark, sd_mov, a_mov, a_pick, a_new, a_box, a_build, a_load1, a_loadn, a_nilck, a_bin, a_eqv, a_not, a_neg, a_i2i, a_s2s, a_s2b, a_iface, a_mkfn, a_faddr, a_fld1, a_iaddr, a_assert, a_extract, a_len, a_lenc, a_lens, AOp.map, AX_fr, AX_tm, AX_c, AX_fn, AX_g, D_no, D_no', D_tm, D_tm', D_fr, D_fr', List.getD_cons_zero, List.getD_cons_succ, getD_nil', List.set_cons_zero, List.set_cons_succ, List.map_cons, List.map_nil, Option.map_some, Option.map_none, want_x, bi_tt, bi_tf, bi_ft, bi_ff, pk_t, pk_f, beq_self_eq_true, ↓reduceIte, if_true, Bool.false_eq_true, if_false, Bool.not_true, Bool.not_false, Nat.reduceAdd, Nat.add_zero, Nat.zero_add, Nat.mul_one, Int.toNat_natCast, resO0, resO1, resO2, resO3, List.getElem?_cons_zero, List.getElem?_cons_succ, Nat.reduceEqDiff, true_and, and_true, false_and, e_sn, e_ss, e_pn, e_ps, e_bb, fill0, fill1, b_add, b_sub, b_mul, b_eql, b_neq, b_lss, b_leq, b_gtr, b_geq, b_and, b_or, b_xor, b_seql, b_sneq, b_slss, at_n, at_e, at_r, ib_n, ib_r, ib_e, ib_x, reduceCtorEq, Exit.exit.injEq, initFr, Bool.true_beq, Bool.false_beq, beq_true, beq_false, one_int, one_bool, one_str, one_sl, one_slc, one_ptr, one_pn, one_if, one_map, List.length_cons, List.length_nil, Nat.reduceLT, List.all_cons, List.all_nil, Bool.and_true, Bool.true_and, and_self, bnd_none, o_int, o_bool, o_str, o_sl, o_slc, o_ptr, o_pn, o_if, o_map, show ((((3 : Nat) : Int)) == 3) = true by decide, show ((((3 : Nat) : Int)) == 4) = false by decide, show ((((3 : Nat) : Int)) == 5) = false by decide, show ((((3 : Nat) : Int)) == 6) = false by decide, show ((((3 : Nat) : Int)) == 7) = false by decide, c1, c4]
    obtain ⟨_, H2, r2, rfl, p2, d2⟩ := t11 h x.p x.e
    refine ⟨_, _, r2, ?_⟩
    simp only [W_skip, W_reg, W_seq, w_cond, cond_true, cond_false, W_block, W_exit, W_ret, W_dreg, r_nil, r_cons, r_consg, gd_true, gd_false, go_some, st_call, st_callv, d_nil, d_cons, d_consg, gdD_true, gdD_false, goD_some, goD_some', stD_call, st_mov, st_pick, st_new, st_box, st_build, st_bslice, st_load1, st_loadn, st_store1, st_storen, st_nilck, st_bin, st_eqv, st_un, st_i2i, st_s2s, st_s2b, st_b2s, st_iface, st_mkfn, st_mksl, st_slstr, st_slsl, st_faddr, st_fld1, st_fldn, st_iaddr, st_idxs, st_assert, st_extract, st_len, st_mark, sd_pick, sd_new, sd_box, sd_build, sd_bslice, sd_load1, sd_loadn, sd_store1, sd_storen, sd_nilck, sd_bin, sd_eqv, sd_un, sd_i2i, sd_s2s, sd_s2b, sd_b2s, sd_iface, sd_mkfn, sd_mksl, sd_slstr, sd_slsl, sd_faddr, sd_fld1, sd_fldn, sd_iaddr, sd_idxs, sd_assert, sd_extract, sd_len, sd_mark, sd_mov, a_mov, a_pick, a_new, a_box, a_build, a_load1, a_loadn, a_nilck, a_bin, a_eqv, a_not, a_neg, a_i2i, a_s2s, a_s2b, a_iface, a_mkfn, a_faddr, a_fld1, a_iaddr, a_assert, a_extract, a_len, a_lenc, a_lens, AOp.map, AX_fr, AX_tm, AX_c, AX_fn, AX_g, D_no, D_no', D_tm, D_tm', D_fr, D_fr', List.getD_cons_zero, List.getD_cons_succ, getD_nil', List.set_cons_zero, List.set_cons_succ, List.map_cons, List.map_nil, Option.map_some, Option.map_none, want_x, bi_tt, bi_tf, bi_ft, bi_ff, pk_t, pk_f, beq_self_eq_true, ↓reduceIte, if_true, Bool.false_eq_true, if_false, Bool.not_true, Bool.not_false, Nat.reduceAdd, Nat.add_zero, Nat.zero_add, Nat.mul_one, Int.toNat_natCast, resO0, resO1, resO2, resO3, List.getElem?_cons_zero, List.getElem?_cons_succ, Nat.reduceEqDiff, true_and, and_true, false_and, e_sn, e_ss, e_pn, e_ps, e_bb, fill0, fill1, b_add, b_sub, b_mul, b_eql, b_neq, b_lss, b_leq, b_gtr, b_geq, b_and, b_or, b_xor, b_seql, b_sneq, b_slss, at_n, at_e, at_r, ib_n, ib_r, ib_e, ib_x, reduceCtorEq, Exit.exit.injEq, initFr, Bool.true_beq, Bool.false_beq, beq_true, beq_false, one_int, one_bool, one_str, one_sl, one_slc, one_ptr, one_pn, one_if, one_map, List.length_cons, List.length_nil, Nat.reduceLT, List.all_cons, List.all_nil, Bool.and_true, Bool.true_and, and_self, bnd_none, o_int, o_bool, o_str, o_sl, o_slc, o_ptr, o_pn, o_if, o_map]
    exact hq H2 _ _ ti lo lp rs _ _ _ _ _ _ _ ⟨p2, d2.at_ gx (by simp; omega), d2.at_ gl (by simp; omega), d2.mono (by simp), ff.1, ff.2.1, by omega, .inl ⟨by simp, gf⟩⟩
  · simp only [W_skip, W_reg, W_seq, w_cond, cond_true, cond_false, W_block, W_exit, W_ret, W_dreg, r_nil, r_cons, r_consg, gd_true, gd_false, go_some, st_call, st_callv, d_nil, d_cons, d_consg, gdD_true, gdD_false, goD_some, goD_some', stD_call, st_mov, st_pick, st_new, st_box, st_build, st_bslice, st_load1, st_loadn, st_store1, st_storen, st_nilck, st_bin, st_eqv, st_un, st_i2i, st_s2s, st_s2b, st_b2s, st_iface, st_mkfn, st_mksl, st_slstr, st_slsl, st_faddr, st_fld1, st_fldn, st_iaddr, st_idxs, st_assert, st_extract, st_len, st_mark, sd_pick, sd_new, sd_box, sd_build, sd_bslice, sd_load1, sd_loadn, sd_store1, sd_storen, sd_nilck, sd_bin, sd_eqv, sd_un, sd_i2i, sd_s2s, sd_s2b, sd_b2s, sd_iface, sd_mkfn, sd_mksl, sd_slstr, sd_slsl, sd_faddr, sd_fld1, sd_fldn, sd_iaddr, sd_idxs, sd_assert, sd_extract, sd_len, sd_mark, sd_mov, a_mov, a_pick, a_new, a_box, a_build, a_load1, a_loadn, a_nilck, a_bin, a_eqv, a_not, a_neg, a_i2i, a_s2s, a_s2b, a_iface, a_mkfn, a_faddr, a_fld1, a_iaddr, a_assert, a_extract, a_len, a_lenc, a_lens, AOp.map, AX_fr, AX_tm, AX_c, AX_fn, AX_g, D_no, D_no', D_tm, D_tm', D_fr, D_fr', List.getD_cons_zero, List.getD_cons_succ, getD_nil', List.set_cons_zero, List.set_cons_succ, List.map_cons, List.map_nil, Option.map_some, Option.map_none, want_x, bi_tt, bi_tf, bi_ft, bi_ff, pk_t, pk_f, beq_self_eq_true, ↓reduceIte, if_true, Bool.false_eq_true, if_false, Bool.not_true, Bool.not_false, Nat.reduceAdd, Nat.add_zero, Nat.zero_add, Nat.mul_one, Int.toNat_natCast, resO0, resO1, resO2, resO3, List.getElem?_cons_zero, List.getElem?_cons_succ, Nat.reduceEqDiff, true_and, and_true, false_and, e_sn, e_ss, e_pn, e_ps, e_bb, fill0, fill1, b_add, b_sub, b_mul, b_eql, b_neq, b_lss, b_leq, b_gtr, b_geq, b_and, b_or, b_xor, b_seql, b_sneq, b_slss, at_n, at_e, at_r, ib_n, ib_r, ib_e, ib_x, reduceCtorEq, Exit.exit.injEq, initFr, Bool.true_beq, Bool.false_beq, beq_true, beq_false, one_int, one_bool, one_str, one_sl, one_slc, one_ptr, one_pn, one_if, one_map, List.length_cons, List.length_nil, Nat.reduceLT, List.all_cons, List.all_nil, Bool.and_true, Bool.true_and, and_self, bnd_none, o_int, o_bool, o_str, o_sl, o_slc, o_ptr, o_pn, o_if, o_map, show ((((4 : Nat) : Int)) == 3) = false by decide, show ((((4 : Nat) : Int)) == 4) = true by decide, show ((((4 : Nat) : Int)) == 5) = false by decide, show ((((4 : Nat) : Int)) == 6) = false by decide, show ((((4 : Nat) : Int)) == 7) = false by decide, c1, c4]
    obtain ⟨_, H2, r2, rfl, p2, d2⟩ := t12 h x.p x.e
    refine ⟨_, _, r2, ?_⟩
    have gx2 := d2.at_ gx (by simp; omega)
    have gl2 := d2.at_ gl (by simp; omega)
    have ch2 : Chg [r, lb] H H2 := d2.mono (by simp)
    unfold stopE at p2 ⊢
    by_cases k1 : (fenceS t x.p x.e).1 = 0
    · simp only [k1, if_true] at p2 ⊢
      simp only [W_skip, W_reg, W_seq, w_cond, cond_true, cond_false, W_block, W_exit, W_ret, W_dreg, r_nil, r_cons, r_consg, gd_true, gd_false, go_some, st_call, st_callv, d_nil, d_cons, d_consg, gdD_true, gdD_false, goD_some, goD_some', stD_call, st_mov, st_pick, st_new, st_box, st_build, st_bslice, st_load1, st_loadn, st_store1, st_storen, st_nilck, st_bin, st_eqv, st_un, st_i2i, st_s2s, st_s2b, st_b2s, st_iface, st_mkfn, st_mksl, st_slstr, st_slsl, st_faddr, st_fld1, st_fldn, st_iaddr, st_idxs, st_assert, st_extract, st_len, st_mark, sd_pick, sd_new, sd_box, sd_build, sd_bslice, sd_load1, sd_loadn, sd_store1, sd_storen, sd_nilck, sd_bin, sd_eqv, sd_un, sd_i2i, sd_s2s, sd_s2b, sd_b2s, sd_iface, sd_mkfn, sd_mksl, sd_slstr, sd_slsl, sd_faddr, sd_fld1, sd_fldn, sd_iaddr, sd_idxs, sd_assert, sd_extract, sd_len, sd_mark, sd_mov, a_mov, a_pick, a_new, a_box, a_build, a_load1, a_loadn, a_nilck, a_bin, a_eqv, a_not, a_neg, a_i2i, a_s2s, a_s2b, a_iface, a_mkfn, a_faddr, a_fld1, a_iaddr, a_assert, a_extract, a_len, a_lenc, a_lens, AOp.map, AX_fr, AX_tm, AX_c, AX_fn, AX_g, D_no, D_no', D_tm, D_tm', D_fr, D_fr', List.getD_cons_zero, List.getD_cons_succ, getD_nil', List.set_cons_zero, List.set_cons_succ, List.map_cons, List.map_nil, Option.map_some, Option.map_none, want_x, bi_tt, bi_tf, bi_ft, bi_ff, pk_t, pk_f, beq_self_eq_true, ↓reduceIte, if_true, Bool.false_eq_true, if_false, Bool.not_true, Bool.not_false, Nat.reduceAdd, Nat.add_zero, Nat.zero_add, Nat.mul_one, Int.toNat_natCast, resO0, resO1, resO2, resO3, List.getElem?_cons_zero, List.getElem?_cons_succ, Nat.reduceEqDiff, true_and, and_true, false_and, e_sn, e_ss, e_pn, e_ps, e_bb, fill0, fill1, b_add, b_sub, b_mul, b_eql, b_neq, b_lss, b_leq, b_gtr, b_geq, b_and, b_or, b_xor, b_seql, b_sneq, b_slss, at_n, at_e, at_r, ib_n, ib_r, ib_e, ib_x, reduceCtorEq, Exit.exit.injEq, initFr, Bool.true_beq, Bool.false_beq, beq_true, beq_false, one_int, one_bool, one_str, one_sl, one_slc, one_ptr, one_pn, one_if, one_map, List.length_cons, List.length_nil, Nat.reduceLT, List.all_cons, List.all_nil, Bool.and_true, Bool.true_and, and_self, bnd_none, o_int, o_bool, o_str, o_sl, o_slc, o_ptr, o_pn, o_if, o_map, show ((0 : Int) == 0) = true by rfl]
      refine hq H2 _ _ ti lo lp _ _ _ _ _ _ _ _ ⟨p2, gx2, gl2, ch2, ff.1, ff.2.1, by omega, .inl ⟨by simp, ?_⟩⟩
      obtain ⟨L, s, l1, l2⟩ := gf.lk
      exact ⟨inv_stop gf.inv, gf.cy, gf.lp, fun _ => rfl, (fun h => by cases h), ⟨L, s, l1, nd_zero L⟩⟩
    · simp only [k1, if_false] at p2 ⊢
      simp only [W_skip, W_reg, W_seq, w_cond, cond_true, cond_false, W_block, W_exit, W_ret, W_dreg, r_nil, r_cons, r_consg, gd_true, gd_false, go_some, st_call, st_callv, d_nil, d_cons, d_consg, gdD_true, gdD_false, goD_some, goD_some', stD_call, st_mov, st_pick, st_new, st_box, st_build, st_bslice, st_load1, st_loadn, st_store1, st_storen, st_nilck, st_bin, st_eqv, st_un, st_i2i, st_s2s, st_s2b, st_b2s, st_iface, st_mkfn, st_mksl, st_slstr, st_slsl, st_faddr, st_fld1, st_fldn, st_iaddr, st_idxs, st_assert, st_extract, st_len, st_mark, sd_pick, sd_new, sd_box, sd_build, sd_bslice, sd_load1, sd_loadn, sd_store1, sd_storen, sd_nilck, sd_bin, sd_eqv, sd_un, sd_i2i, sd_s2s, sd_s2b, sd_b2s, sd_iface, sd_mkfn, sd_mksl, sd_slstr, sd_slsl, sd_faddr, sd_fld1, sd_fldn, sd_iaddr, sd_idxs, sd_assert, sd_extract, sd_len, sd_mark, sd_mov, a_mov, a_pick, a_new, a_box, a_build, a_load1, a_loadn, a_nilck, a_bin, a_eqv, a_not, a_neg, a_i2i, a_s2s, a_s2b, a_iface, a_mkfn, a_faddr, a_fld1, a_iaddr, a_assert, a_extract, a_len, a_lenc, a_lens, AOp.map, AX_fr, AX_tm, AX_c, AX_fn, AX_g, D_no, D_no', D_tm, D_tm', D_fr, D_fr', List.getD_cons_zero, List.getD_cons_succ, getD_nil', List.set_cons_zero, List.set_cons_succ, List.map_cons, List.map_nil, Option.map_some, Option.map_none, want_x, bi_tt, bi_tf, bi_ft, bi_ff, pk_t, pk_f, beq_self_eq_true, ↓reduceIte, if_true, Bool.false_eq_true, if_false, Bool.not_true, Bool.not_false, Nat.reduceAdd, Nat.add_zero, Nat.zero_add, Nat.mul_one, Int.toNat_natCast, resO0, resO1, resO2, resO3, List.getElem?_cons_zero, List.getElem?_cons_succ, Nat.reduceEqDiff, true_and, and_true, false_and, e_sn, e_ss, e_pn, e_ps, e_bb, fill0, fill1, b_add, b_sub, b_mul, b_eql, b_neq, b_lss, b_leq, b_gtr, b_geq, b_and, b_or, b_xor, b_seql, b_sneq, b_slss, at_n, at_e, at_r, ib_n, ib_r, ib_e, ib_x, reduceCtorEq, Exit.exit.injEq, initFr, Bool.true_beq, Bool.false_beq, beq_true, beq_false, one_int, one_bool, one_str, one_sl, one_slc, one_ptr, one_pn, one_if, one_map, List.length_cons, List.length_nil, Nat.reduceLT, List.all_cons, List.all_nil, Bool.and_true, Bool.true_and, and_self, bnd_none, o_int, o_bool, o_str, o_sl, o_slc, o_ptr, o_pn, o_if, o_map, show ((fenceS t x.p x.e).1 == 0) = false by simp [k1]]
      exact hq H2 _ _ ti lo lp _ _ _ _ _ _ _ _ ⟨p2, gx2, gl2, ch2, ff.1, ff.2.1, by omega, .inl ⟨by simp, gf⟩⟩
  · simp only [W_skip, W_reg, W_seq, w_cond, cond_true, cond_false, W_block, W_exit, W_ret, W_dreg, r_nil, r_cons, r_consg, gd_true, gd_false, go_some, st_call, st_callv, d_nil, d_cons, d_consg, gdD_true, gdD_false, goD_some, goD_some', stD_call, st_mov, st_pick, st_new, st_box, st_build, st_bslice, st_load1, st_loadn, st_store1, st_storen, st_nilck, st_bin, st_eqv, st_un, st_i2i, st_s2s, st_s2b, st_b2s, st_iface, st_mkfn, st_mksl, st_slstr, st_slsl, st_faddr, st_fld1, st_fldn, st_iaddr, st_idxs, st_assert, st_extract, st_len, st_mark, sd_pick, sd_new, sd_box, sd_build, sd_bslice, sd_load1, sd_loadn, sd_store1, sd_storen, sd_nilck, sd_bin, sd_eqv, sd_un, sd_i2i, sd_s2s, sd_s2b, sd_b2s, sd_iface, sd_mkfn, sd_mksl, sd_slstr, sd_slsl, sd_faddr, sd_fld1, sd_fldn, sd_iaddr, sd_idxs, sd_assert, sd_extract, sd_len, sd_mark, sd_mov, a_mov, a_pick, a_new, a_box, a_build, a_load1, a_loadn, a_nilck, a_bin, a_eqv, a_not, a_neg, a_i2i, a_s2s, a_s2b, a_iface, a_mkfn, a_faddr, a_fld1, a_iaddr, a_assert, a_extract, a_len, a_lenc, a_lens, AOp.map, AX_fr, AX_tm, AX_c, AX_fn, AX_g, D_no, D_no', D_tm, D_tm', D_fr, D_fr', List.getD_cons_zero, List.getD_cons_succ, getD_nil', List.set_cons_zero, List.set_cons_succ, List.map_cons, List.map_nil, Option.map_some, Option.map_none, want_x, bi_tt, bi_tf, bi_ft, bi_ff, pk_t, pk_f, beq_self_eq_true, ↓reduceIte, if_true, Bool.false_eq_true, if_false, Bool.not_true, Bool.not_false, Nat.reduceAdd, Nat.add_zero, Nat.zero_add, Nat.mul_one, Int.toNat_natCast, resO0, resO1, resO2, resO3, List.getElem?_cons_zero, List.getElem?_cons_succ, Nat.reduceEqDiff, true_and, and_true, false_and, e_sn, e_ss, e_pn, e_ps, e_bb, fill0, fill1, b_add, b_sub, b_mul, b_eql, b_neq, b_lss, b_leq, b_gtr, b_geq, b_and, b_or, b_xor, b_seql, b_sneq, b_slss, at_n, at_e, at_r, ib_n, ib_r, ib_e, ib_x, reduceCtorEq, Exit.exit.injEq, initFr, Bool.true_beq, Bool.false_beq, beq_true, beq_false, one_int, one_bool, one_str, one_sl, one_slc, one_ptr, one_pn, one_if, one_map, List.length_cons, List.length_nil, Nat.reduceLT, List.all_cons, List.all_nil, Bool.and_true, Bool.true_and, and_self, bnd_none, o_int, o_bool, o_str, o_sl, o_slc, o_ptr, o_pn, o_if, o_map, show ((((5 : Nat) : Int)) == 3) = false by decide, show ((((5 : Nat) : Int)) == 4) = false by decide, show ((((5 : Nat) : Int)) == 5) = true by decide, show ((((5 : Nat) : Int)) == 6) = false by decide, show ((((5 : Nat) : Int)) == 7) = false by decide]
    obtain ⟨_, H2, r2, p2, d2⟩ := t13 h hP
    refine ⟨_, _, r2, ?_⟩
    have gx2 := d2.at_ gx (by simp; omega)
    have gl2 := d2.at_ gl (by simp; omega)
    have ch2 : Chg [r, lb] H H2 := d2.mono (by simp)
    simp only [W_skip, W_reg, W_seq, w_cond, cond_true, cond_false, W_block, W_exit, W_ret, W_dreg, r_nil, r_cons, r_consg, gd_true, gd_false, go_some, st_call, st_callv, d_nil, d_cons, d_consg, gdD_true, gdD_false, goD_some, goD_some', stD_call, st_mov, st_pick, st_new, st_box, st_build, st_bslice, st_load1, st_loadn, st_store1, st_storen, st_nilck, st_bin, st_eqv, st_un, st_i2i, st_s2s, st_s2b, st_b2s, st_iface, st_mkfn, st_mksl, st_slstr, st_slsl, st_faddr, st_fld1, st_fldn, st_iaddr, st_idxs, st_assert, st_extract, st_len, st_mark, sd_pick, sd_new, sd_box, sd_build, sd_bslice, sd_load1, sd_loadn, sd_store1, sd_storen, sd_nilck, sd_bin, sd_eqv, sd_un, sd_i2i, sd_s2s, sd_s2b, sd_b2s, sd_iface, sd_mkfn, sd_mksl, sd_slstr, sd_slsl, sd_faddr, sd_fld1, sd_fldn, sd_iaddr, sd_idxs, sd_assert, sd_extract, sd_len, sd_mark, sd_mov, a_mov, a_pick, a_new, a_box, a_build, a_load1, a_loadn, a_nilck, a_bin, a_eqv, a_not, a_neg, a_i2i, a_s2s, a_s2b, a_iface, a_mkfn, a_faddr, a_fld1, a_iaddr, a_assert, a_extract, a_len, a_lenc, a_lens, AOp.map, AX_fr, AX_tm, AX_c, AX_fn, AX_g, D_no, D_no', D_tm, D_tm', D_fr, D_fr', List.getD_cons_zero, List.getD_cons_succ, getD_nil', List.set_cons_zero, List.set_cons_succ, List.map_cons, List.map_nil, Option.map_some, Option.map_none, want_x, bi_tt, bi_tf, bi_ft, bi_ff, pk_t, pk_f, beq_self_eq_true, ↓reduceIte, if_true, Bool.false_eq_true, if_false, Bool.not_true, Bool.not_false, Nat.reduceAdd, Nat.add_zero, Nat.zero_add, Nat.mul_one, Int.toNat_natCast, resO0, resO1, resO2, resO3, List.getElem?_cons_zero, List.getElem?_cons_succ, Nat.reduceEqDiff, true_and, and_true, false_and, e_sn, e_ss, e_pn, e_ps, e_bb, fill0, fill1, b_add, b_sub, b_mul, b_eql, b_neq, b_lss, b_leq, b_gtr, b_geq, b_and, b_or, b_xor, b_seql, b_sneq, b_slss, at_n, at_e, at_r, ib_n, ib_r, ib_e, ib_x, reduceCtorEq, Exit.exit.injEq, initFr, Bool.true_beq, Bool.false_beq, beq_true, beq_false, one_int, one_bool, one_str, one_sl, one_slc, one_ptr, one_pn, one_if, one_map, List.length_cons, List.length_nil, Nat.reduceLT, List.all_cons, List.all_nil, Bool.and_true, Bool.true_and, and_self, bnd_none, o_int, o_bool, o_str, o_sl, o_slc, o_ptr, o_pn, o_if, o_map, wrap_succ (n := ti) (by omega)]
    obtain ⟨b1, b2, b3, b4, b5, b6⟩ := g
    have hin : Inv P (tickS P t) := by
      obtain ⟨a, b, c, d, f⟩ := b1
      unfold tickS; split
      · exact ⟨a, b, c, by simp; omega, f⟩
      · exact ⟨a, b, c, Nat.le_refl _, f⟩
    unfold tickS at p2 hin
    by_cases k1 : t.sil < P
    · simp only [k1, if_true] at p2 hin
      refine hq H2 _ _ (ti + 1) lo lp rs _ _ _ _ _ _ _ ⟨p2, gx2, gl2, ch2, Int.le_refl _, fun _ => rfl, by omega, .inl ⟨by simp, hin, by simpa [cyA] using b2, b3, b4, ?_, b6⟩⟩
      intro hs
      obtain ⟨q1, q2, q3, q4⟩ := b5 hs
      exact ⟨q1, q2, by simp; omega, by simp; omega⟩
    · simp only [k1, if_false] at p2 hin
      obtain ⟨L, s, l1, l2⟩ := b6
      exact hq H2 _ _ (ti + 1) lo lp rs _ _ _ _ _ _ _ ⟨p2, gx2, gl2, ch2, Int.le_refl _, fun _ => rfl, by omega, .inl ⟨by simp, hin, by simpa [cyA, stopS] using b2, b3, fun _ => rfl, (fun h => by cases h), ⟨L, s, l1, nd_zero L⟩⟩⟩
  · simp only [W_skip, W_reg, W_seq, w_cond, cond_true, cond_false, W_block, W_exit, W_ret, W_dreg, r_nil, r_cons, r_consg, gd_true, gd_false, go_some, st_call, st_callv, d_nil, d_cons, d_consg, gdD_true, gdD_false, goD_some, goD_some', stD_call, st_mov, st_pick, st_new, st_box, st_build, st_bslice, st_load1, st_loadn, st_store1, st_storen, st_nilck, st_bin, st_eqv, st_un, st_i2i, st_s2s, st_s2b, st_b2s, st_iface, st_mkfn, st_mksl, st_slstr, st_slsl, st_faddr, st_fld1, st_fldn, st_iaddr, st_idxs, st_assert, st_extract, st_len, st_mark, sd_pick, sd_new, sd_box, sd_build, sd_bslice, sd_load1, sd_loadn, sd_store1, sd_storen, sd_nilck, sd_bin, sd_eqv, sd_un, sd_i2i, sd_s2s, sd_s2b, sd_b2s, sd_iface, sd_mkfn, sd_mksl, sd_slstr, sd_slsl, sd_faddr, sd_fld1, sd_fldn, sd_iaddr, sd_idxs, sd_assert, sd_extract, sd_len, sd_mark, sd_mov, a_mov, a_pick, a_new, a_box, a_build, a_load1, a_loadn, a_nilck, a_bin, a_eqv, a_not, a_neg, a_i2i, a_s2s, a_s2b, a_iface, a_mkfn, a_faddr, a_fld1, a_iaddr, a_assert, a_extract, a_len, a_lenc, a_lens, AOp.map, AX_fr, AX_tm, AX_c, AX_fn, AX_g, D_no, D_no', D_tm, D_tm', D_fr, D_fr', List.getD_cons_zero, List.getD_cons_succ, getD_nil', List.set_cons_zero, List.set_cons_succ, List.map_cons, List.map_nil, Option.map_some, Option.map_none, want_x, bi_tt, bi_tf, bi_ft, bi_ff, pk_t, pk_f, beq_self_eq_true, ↓reduceIte, if_true, Bool.false_eq_true, if_false, Bool.not_true, Bool.not_false, Nat.reduceAdd, Nat.add_zero, Nat.zero_add, Nat.mul_one, Int.toNat_natCast, resO0, resO1, resO2, resO3, List.getElem?_cons_zero, List.getElem?_cons_succ, Nat.reduceEqDiff, true_and, and_true, false_and, e_sn, e_ss, e_pn, e_ps, e_bb, fill0, fill1, b_add, b_sub, b_mul, b_eql, b_neq, b_lss, b_leq, b_gtr, b_geq, b_and, b_or, b_xor, b_seql, b_sneq, b_slss, at_n, at_e, at_r, ib_n, ib_r, ib_e, ib_x, reduceCtorEq, Exit.exit.injEq, initFr, Bool.true_beq, Bool.false_beq, beq_true, beq_false, one_int, one_bool, one_str, one_sl, one_slc, one_ptr, one_pn, one_if, one_map, List.length_cons, List.length_nil, Nat.reduceLT, List.all_cons, List.all_nil, Bool.and_true, Bool.true_and, and_self, bnd_none, o_int, o_bool, o_str, o_sl, o_slc, o_ptr, o_pn, o_if, o_map, show ((((6 : Nat) : Int)) == 3) = false by decide, show ((((6 : Nat) : Int)) == 4) = false by decide, show ((((6 : Nat) : Int)) == 5) = false by decide, show ((((6 : Nat) : Int)) == 6) = true by decide, show ((((6 : Nat) : Int)) == 7) = false by decide]
    obtain ⟨_, H2, r2, p2, d2⟩ := t13 h hP
    refine ⟨_, _, r2, ?_⟩
    have gx2 := d2.at_ gx (by simp; omega)
    have gl2 := d2.at_ gl (by simp; omega)
    have ch2 : Chg [r, lb] H H2 := d2.mono (by simp)
    simp only [W_skip, W_reg, W_seq, w_cond, cond_true, cond_false, W_block, W_exit, W_ret, W_dreg, r_nil, r_cons, r_consg, gd_true, gd_false, go_some, st_call, st_callv, d_nil, d_cons, d_consg, gdD_true, gdD_false, goD_some, goD_some', stD_call, st_mov, st_pick, st_new, st_box, st_build, st_bslice, st_load1, st_loadn, st_store1, st_storen, st_nilck, st_bin, st_eqv, st_un, st_i2i, st_s2s, st_s2b, st_b2s, st_iface, st_mkfn, st_mksl, st_slstr, st_slsl, st_faddr, st_fld1, st_fldn, st_iaddr, st_idxs, st_assert, st_extract, st_len, st_mark, sd_pick, sd_new, sd_box, sd_build, sd_bslice, sd_load1, sd_loadn, sd_store1, sd_storen, sd_nilck, sd_bin, sd_eqv, sd_un, sd_i2i, sd_s2s, sd_s2b, sd_b2s, sd_iface, sd_mkfn, sd_mksl, sd_slstr, sd_slsl, sd_faddr, sd_fld1, sd_fldn, sd_iaddr, sd_idxs, sd_assert, sd_extract, sd_len, sd_mark, sd_mov, a_mov, a_pick, a_new, a_box, a_build, a_load1, a_loadn, a_nilck, a_bin, a_eqv, a_not, a_neg, a_i2i, a_s2s, a_s2b, a_iface, a_mkfn, a_faddr, a_fld1, a_iaddr, a_assert, a_extract, a_len, a_lenc, a_lens, AOp.map, AX_fr, AX_tm, AX_c, AX_fn, AX_g, D_no, D_no', D_tm, D_tm', D_fr, D_fr', List.getD_cons_zero, List.getD_cons_succ, getD_nil', List.set_cons_zero, List.set_cons_succ, List.map_cons, List.map_nil, Option.map_some, Option.map_none, want_x, bi_tt, bi_tf, bi_ft, bi_ff, pk_t, pk_f, beq_self_eq_true, ↓reduceIte, if_true, Bool.false_eq_true, if_false, Bool.not_true, Bool.not_false, Nat.reduceAdd, Nat.add_zero, Nat.zero_add, Nat.mul_one, Int.toNat_natCast, resO0, resO1, resO2, resO3, List.getElem?_cons_zero, List.getElem?_cons_succ, Nat.reduceEqDiff, true_and, and_true, false_and, e_sn, e_ss, e_pn, e_ps, e_bb, fill0, fill1, b_add, b_sub, b_mul, b_eql, b_neq, b_lss, b_leq, b_gtr, b_geq, b_and, b_or, b_xor, b_seql, b_sneq, b_slss, at_n, at_e, at_r, ib_n, ib_r, ib_e, ib_x, reduceCtorEq, Exit.exit.injEq, initFr, Bool.true_beq, Bool.false_beq, beq_true, beq_false, one_int, one_bool, one_str, one_sl, one_slc, one_ptr, one_pn, one_if, one_map, List.length_cons, List.length_nil, Nat.reduceLT, List.all_cons, List.all_nil, Bool.and_true, Bool.true_and, and_self, bnd_none, o_int, o_bool, o_str, o_sl, o_slc, o_ptr, o_pn, o_if, o_map, wrap_succ (n := ti) (by omega)]
    obtain ⟨b1, b2, b3, b4, b5, b6⟩ := g
    have hin : Inv P (tickS P t) := by
      obtain ⟨a, b, c, d, f⟩ := b1
      unfold tickS; split
      · exact ⟨a, b, c, by simp; omega, f⟩
      · exact ⟨a, b, c, Nat.le_refl _, f⟩
    unfold tickS at p2 hin
    by_cases k1 : t.sil < P
    · simp only [k1, if_true] at p2 hin
      refine hq H2 _ _ (ti + 1) lo lp rs _ _ _ _ _ _ _ ⟨p2, gx2, gl2, ch2, Int.le_refl _, fun _ => rfl, by omega, .inl ⟨by simp, hin, by simpa [cyA] using b2, b3, b4, ?_, b6⟩⟩
      intro hs
      obtain ⟨q1, q2, q3, q4⟩ := b5 hs
      exact ⟨q1, q2, by simp; omega, by simp; omega⟩
    · simp only [k1, if_false] at p2 hin
      obtain ⟨L, s, l1, l2⟩ := b6
      exact hq H2 _ _ (ti + 1) lo lp rs _ _ _ _ _ _ _ ⟨p2, gx2, gl2, ch2, Int.le_refl _, fun _ => rfl, by omega, .inl ⟨by simp, hin, by simpa [cyA, stopS] using b2, b3, fun _ => rfl, (fun h => by cases h), ⟨L, s, l1, nd_zero L⟩⟩⟩
  · simp only [W_skip, W_reg, W_seq, w_cond, cond_true, cond_false, W_block, W_exit, W_ret, W_dreg, r_nil, r_cons, r_consg, gd_true, gd_false, go_some, st_call, st_callv, d_nil, d_cons, d_consg, gdD_true, gdD_false, goD_some, goD_some', stD_call, st_mov, st_pick, st_new, st_box, st_build, st_bslice, st_load1, st_loadn, st_store1, st_storen, st_nilck, st_bin, st_eqv, st_un, st_i2i, st_s2s, st_s2b, st_b2s, st_iface, st_mkfn, st_mksl, st_slstr, st_slsl, st_faddr, st_fld1, st_fldn, st_iaddr, st_idxs, st_assert, st_extract, st_len, st_mark, sd_pick, sd_new, sd_box, sd_build, sd_bslice, sd_load1, sd_loadn, sd_store1, sd_storen, sd_nilck, sd_bin, sd_eqv, sd_un, sd_i2i, sd_s2s, sd_s2b, sd_b2s, sd_iface, sd_mkfn, sd_mksl, sd_slstr, sd_slsl, sd_faddr, sd_fld1, sd_fldn, sd_iaddr, sd_idxs, sd_assert, sd_extract, sd_len, sd_mark, sd_mov, a_mov, a_pick, a_new, a_box, a_build, a_load1, a_loadn, a_nilck, a_bin, a_eqv, a_not, a_neg, a_i2i, a_s2s, a_s2b, a_iface, a_mkfn, a_faddr, a_fld1, a_iaddr, a_assert, a_extract, a_len, a_lenc, a_lens, AOp.map, AX_fr, AX_tm, AX_c, AX_fn, AX_g, D_no, D_no', D_tm, D_tm', D_fr, D_fr', List.getD_cons_zero, List.getD_cons_succ, getD_nil', List.set_cons_zero, List.set_cons_succ, List.map_cons, List.map_nil, Option.map_some, Option.map_none, want_x, bi_tt, bi_tf, bi_ft, bi_ff, pk_t, pk_f, beq_self_eq_true, ↓reduceIte, if_true, Bool.false_eq_true, if_false, Bool.not_true, Bool.not_false, Nat.reduceAdd, Nat.add_zero, Nat.zero_add, Nat.mul_one, Int.toNat_natCast, resO0, resO1, resO2, resO3, List.getElem?_cons_zero, List.getElem?_cons_succ, Nat.reduceEqDiff, true_and, and_true, false_and, e_sn, e_ss, e_pn, e_ps, e_bb, fill0, fill1, b_add, b_sub, b_mul, b_eql, b_neq, b_lss, b_leq, b_gtr, b_geq, b_and, b_or, b_xor, b_seql, b_sneq, b_slss, at_n, at_e, at_r, ib_n, ib_r, ib_e, ib_x, reduceCtorEq, Exit.exit.injEq, initFr, Bool.true_beq, Bool.false_beq, beq_true, beq_false, one_int, one_bool, one_str, one_sl, one_slc, one_ptr, one_pn, one_if, one_map, List.length_cons, List.length_nil, Nat.reduceLT, List.all_cons, List.all_nil, Bool.and_true, Bool.true_and, and_self, bnd_none, o_int, o_bool, o_str, o_sl, o_slc, o_ptr, o_pn, o_if, o_map, show ((((7 : Nat) : Int)) == 3) = false by decide, show ((((7 : Nat) : Int)) == 4) = false by decide, show ((((7 : Nat) : Int)) == 5) = false by decide, show ((((7 : Nat) : Int)) == 6) = false by decide, show ((((7 : Nat) : Int)) == 7) = true by decide]
    obtain ⟨_, H2, r2, rfl, p2, d2⟩ := t14 h
    refine ⟨_, _, r2, ?_⟩
    have gx2 := d2.at_ gx (by simp; omega)
    have gl2 := d2.at_ gl (by simp; omega)
    have ch2 : Chg [r, lb] H H2 := d2.mono (by simp)
    have hc0 : cyA t t.ep cy = cy := by simp [cyA]
    unfold resetS at p2 ⊢
    cases k1 : t.stop
    · simp only [k1, Bool.false_eq_true, if_false] at p2 ⊢
      simp only [W_skip, W_reg, W_seq, w_cond, cond_true, cond_false, W_block, W_exit, W_ret, W_dreg, r_nil, r_cons, r_consg, gd_true, gd_false, go_some, st_call, st_callv, d_nil, d_cons, d_consg, gdD_true, gdD_false, goD_some, goD_some', stD_call, st_mov, st_pick, st_new, st_box, st_build, st_bslice, st_load1, st_loadn, st_store1, st_storen, st_nilck, st_bin, st_eqv, st_un, st_i2i, st_s2s, st_s2b, st_b2s, st_iface, st_mkfn, st_mksl, st_slstr, st_slsl, st_faddr, st_fld1, st_fldn, st_iaddr, st_idxs, st_assert, st_extract, st_len, st_mark, sd_pick, sd_new, sd_box, sd_build, sd_bslice, sd_load1, sd_loadn, sd_store1, sd_storen, sd_nilck, sd_bin, sd_eqv, sd_un, sd_i2i, sd_s2s, sd_s2b, sd_b2s, sd_iface, sd_mkfn, sd_mksl, sd_slstr, sd_slsl, sd_faddr, sd_fld1, sd_fldn, sd_iaddr, sd_idxs, sd_assert, sd_extract, sd_len, sd_mark, sd_mov, a_mov, a_pick, a_new, a_box, a_build, a_load1, a_loadn, a_nilck, a_bin, a_eqv, a_not, a_neg, a_i2i, a_s2s, a_s2b, a_iface, a_mkfn, a_faddr, a_fld1, a_iaddr, a_assert, a_extract, a_len, a_lenc, a_lens, AOp.map, AX_fr, AX_tm, AX_c, AX_fn, AX_g, D_no, D_no', D_tm, D_tm', D_fr, D_fr', List.getD_cons_zero, List.getD_cons_succ, getD_nil', List.set_cons_zero, List.set_cons_succ, List.map_cons, List.map_nil, Option.map_some, Option.map_none, want_x, bi_tt, bi_tf, bi_ft, bi_ff, pk_t, pk_f, beq_self_eq_true, ↓reduceIte, if_true, Bool.false_eq_true, if_false, Bool.not_true, Bool.not_false, Nat.reduceAdd, Nat.add_zero, Nat.zero_add, Nat.mul_one, Int.toNat_natCast, resO0, resO1, resO2, resO3, List.getElem?_cons_zero, List.getElem?_cons_succ, Nat.reduceEqDiff, true_and, and_true, false_and, e_sn, e_ss, e_pn, e_ps, e_bb, fill0, fill1, b_add, b_sub, b_mul, b_eql, b_neq, b_lss, b_leq, b_gtr, b_geq, b_and, b_or, b_xor, b_seql, b_sneq, b_slss, at_n, at_e, at_r, ib_n, ib_r, ib_e, ib_x, reduceCtorEq, Exit.exit.injEq, initFr, Bool.true_beq, Bool.false_beq, beq_true, beq_false, one_int, one_bool, one_str, one_sl, one_slc, one_ptr, one_pn, one_if, one_map, List.length_cons, List.length_nil, Nat.reduceLT, List.all_cons, List.all_nil, Bool.and_true, Bool.true_and, and_self, bnd_none, o_int, o_bool, o_str, o_sl, o_slc, o_ptr, o_pn, o_if, o_map, show ((4 : Int) == 0) = false by rfl]
      exact hq H2 _ _ ti lo lp rs _ _ _ _ _ _ _ ⟨p2, gx2, gl2, ch2, Int.le_refl _, fun _ => rfl, by omega, .inl ⟨by simp, by rw [hc0]; exact g⟩⟩
    · simp only [k1, if_true] at p2 ⊢
      have l2 : cellA H2 lb 1 = some (.int .u32 lp) := by rw [cellA_of gl2]; rfl
      have fl : fillA [.int .u64 0, .int .u32 0] [(1, 1, .int .u32 lp)] = some [.int .u64 ((0 : Nat) : Int), .int .u32 lp] := rfl
      have st : asem (.storen 2 (ptr lb 0) (.agg [.int .u64 ((0 : Nat) : Int), .int .u32 lp].toArray)) H2 = some (undef, H2.set lb (.cells true false 2 [.int .u64 ((0 : Nat) : Int), .int .u32 lp] 35)) := by
        rw [a_storen gl2, if_pos ⟨by simp, rfl, rfl⟩]; rfl
      simp only [W_skip, W_reg, W_seq, w_cond, cond_true, cond_false, W_block, W_exit, W_ret, W_dreg, r_nil, r_cons, r_consg, gd_true, gd_false, go_some, st_call, st_callv, d_nil, d_cons, d_consg, gdD_true, gdD_false, goD_some, goD_some', stD_call, st_mov, st_pick, st_new, st_box, st_build, st_bslice, st_load1, st_loadn, st_store1, st_storen, st_nilck, st_bin, st_eqv, st_un, st_i2i, st_s2s, st_s2b, st_b2s, st_iface, st_mkfn, st_mksl, st_slstr, st_slsl, st_faddr, st_fld1, st_fldn, st_iaddr, st_idxs, st_assert, st_extract, st_len, st_mark, sd_pick, sd_new, sd_box, sd_build, sd_bslice, sd_load1, sd_loadn, sd_store1, sd_storen, sd_nilck, sd_bin, sd_eqv, sd_un, sd_i2i, sd_s2s, sd_s2b, sd_b2s, sd_iface, sd_mkfn, sd_mksl, sd_slstr, sd_slsl, sd_faddr, sd_fld1, sd_fldn, sd_iaddr, sd_idxs, sd_assert, sd_extract, sd_len, sd_mark, sd_mov, a_mov, a_pick, a_new, a_box, a_build, a_load1, a_loadn, a_nilck, a_bin, a_eqv, a_not, a_neg, a_i2i, a_s2s, a_s2b, a_iface, a_mkfn, a_faddr, a_fld1, a_iaddr, a_assert, a_extract, a_len, a_lenc, a_lens, AOp.map, AX_fr, AX_tm, AX_c, AX_fn, AX_g, D_no, D_no', D_tm, D_tm', D_fr, D_fr', List.getD_cons_zero, List.getD_cons_succ, getD_nil', List.set_cons_zero, List.set_cons_succ, List.map_cons, List.map_nil, Option.map_some, Option.map_none, want_x, bi_tt, bi_tf, bi_ft, bi_ff, pk_t, pk_f, beq_self_eq_true, ↓reduceIte, if_true, Bool.false_eq_true, if_false, Bool.not_true, Bool.not_false, Nat.reduceAdd, Nat.add_zero, Nat.zero_add, Nat.mul_one, Int.toNat_natCast, resO0, resO1, resO2, resO3, List.getElem?_cons_zero, List.getElem?_cons_succ, Nat.reduceEqDiff, true_and, and_true, false_and, e_sn, e_ss, e_pn, e_ps, e_bb, fill0, fill1, b_add, b_sub, b_mul, b_eql, b_neq, b_lss, b_leq, b_gtr, b_geq, b_and, b_or, b_xor, b_seql, b_sneq, b_slss, at_n, at_e, at_r, ib_n, ib_r, ib_e, ib_x, reduceCtorEq, Exit.exit.injEq, initFr, Bool.true_beq, Bool.false_beq, beq_true, beq_false, one_int, one_bool, one_str, one_sl, one_slc, one_ptr, one_pn, one_if, one_map, List.length_cons, List.length_nil, Nat.reduceLT, List.all_cons, List.all_nil, Bool.and_true, Bool.true_and, and_self, bnd_none, o_int, o_bool, o_str, o_sl, o_slc, o_ptr, o_pn, o_if, o_map, show ((0 : Int) == 0) = true by rfl, l2, fl, st]
      obtain ⟨b1, b2, b3, b4, b5, b6⟩ := g
      have d3 := Chg.set H2 (AHeap.get_lt gl2) (.cells true false 2 [.int .u64 ((0 : Nat) : Int), .int .u32 lp] 35)
      refine hq _ _ _ 0 0 lp true _ _ _ _ _ _ _ ⟨p2.chg d3 (by simp; omega), d3.at_ gx2 (by simp; omega), get1 gl2 _, ch2.trans d3 (by simp), Int.le_refl _, fun _ => rfl, by omega, .inl ⟨by simp, ?_, by simpa [cyA] using b2, b3, (fun h => by cases h), fun _ => ⟨rfl, (b4 k1).symm, rfl, by simp⟩, b6⟩⟩
      obtain ⟨a, b, c, d, f⟩ := b1
      exact ⟨a, b, c, by simp, f⟩
end
end Go.AM.Rl
