/- Part of the proof: FdH. -/
import Derived.Test.YtfkboffbaikhoaaFdG
import Derived.Test.YtfkboffbaikhoaaAmY
set_option linter.unusedSimpArgs false
set_option linter.unusedVariables false
namespace Go.AM.Fd
open Go.Proofs

/-! ### Readers -/
def RV (H : AHeap) (r bv : Nat) (v : Value) (l : List UInt8) : Prop :=
  (v = .slice none 0 0 ∧ l = [] ∧ bv = r) ∨ ∃ o c rm, v = slc bv o l.length l.length ∧ H.get bv = some (.cells true rm 1 c 5) ∧ bv ≠ r ∧ c.drop o = cellsOf l ∧ o ≤ c.length
/-- A reader at block r, its bytes in block bv (r: none). -/
def RS (H : AHeap) (r bv : Nat) (l : List UInt8) (bad : Bool) : Prop := ∃ v, H.get r = some (.cells true false 2 [v, .bool bad] 67) ∧ RV H r bv v l

theorem RV.bs {H : AHeap} {r bv : Nat} {v : Value} {l : List UInt8} (h : RV H r bv v l) : BS H v l := by
  rcases h with ⟨rfl, rfl, rfl⟩ | ⟨o, c, rm, rfl, h1, h2, h3, h4⟩
  · exact BS.nil H
  · refine ⟨⟨_, _, rfl⟩, ?_⟩
    have hl := congrArg List.length h3
    rw [List.length_drop, cellsOf_length] at hl
    simp only [elemsA, slc, h1]
    rw [if_pos (by omega), h3, List.take_of_length_le (by rw [cellsOf_length]; omega)]
theorem RV.chg {H H' : AHeap} {r bv : Nat} {v : Value} {l : List UInt8} {S : List Nat} (h : RV H r bv v l) (k : Chg S H H') (hS : bv ∉ S) : RV H' r bv v l := by
  rcases h with ⟨rfl, rfl, rfl⟩ | ⟨o, c, rm, rfl, h1, h2, h3, h4⟩
  · exact .inl ⟨rfl, rfl, rfl⟩
  · exact .inr ⟨o, c, rm, rfl, k.at_ h1 hS, h2, h3, h4⟩
theorem RS.chg {H H' : AHeap} {r bv : Nat} {l : List UInt8} {bad : Bool} {S : List Nat} (h : RS H r bv l bad) (k : Chg S H H') (h1 : r ∉ S) (h2 : bv ∉ S) : RS H' r bv l bad := by
  obtain ⟨v, a1, a2⟩ := h
  exact ⟨v, k.at_ a1 h1, a2.chg k h2⟩
theorem RS.lt {H : AHeap} {r bv : Nat} {l : List UInt8} {bad : Bool} (h : RS H r bv l bad) : r < H.n ∧ bv < H.n := by
  obtain ⟨v, a1, a2⟩ := h
  refine ⟨AHeap.get_lt a1, ?_⟩
  rcases a2 with ⟨_, _, rfl⟩ | ⟨o, c, rm, _, h1, _⟩
  · exact AHeap.get_lt a1
  · exact AHeap.get_lt h1

/-- Open. -/
theorem t15 {H : AHeap} {x : Value} {l : List UInt8} (hx : BS H x l) (hl : l.length ≤ 1000000000) : ∃ v H', ARun Try.prog 0 15 [x] H v H' ∧ ∃ r bv, v = ptr r 0 ∧ RS H' r bv l false ∧ H.n ≤ r ∧ H.n ≤ bv ∧ Keeps H H' := by
  refine walk f15_ok f15_n ?_
  obtain ⟨v, H1, r31, p1, p2, p3⟩ := t31 hx hl
  simp only [f15, initFr, ↓reduceIte, RD_nil, RD_cons, RD_consg, W_dreg, obl_nil, Nat.reduceAdd, Nat.add_zero, Nat.zero_add, Nat.mul_one, Int.toNat_natCast, W_skip, W_reg, W_seq, W_cond, W_block, W_exit, W_ret, getD_nil', RW_nil, RW_cons, RW_consg, AOp.map, AX_fr, AX_tm, AX_c, AX_fn, AX_g, D_no, D_no', D_tm, D_tm', D_fr, D_fr', List.getD_cons_zero, List.getD_cons_succ, List.set_cons_zero, List.set_cons_succ, List.map_cons, List.map_nil, Option.map_some, Option.map_none, wantA, beq_self_eq_true, if_true, Bool.false_eq_true, if_false, Bool.not_true, Bool.not_false, s_mov, s_pick, s_new, s_box, s_build, s_bslice, s_load1, s_loadn, s_nilck, s_bin, s_eqv, s_not, s_neg, s_i2i, s_s2s, s_s2b, s_iface, s_mkfn, s_faddr, s_fld1, s_iaddr, s_idxs, s_assert, s_extract, s_len, s_lens, s_lenc, s_callf, resO0, resO1, resO2, resO3, List.getElem?_cons_zero, List.getElem?_cons_succ, Nat.reduceEqDiff, true_and, and_true, false_and, e_sn, e_ss, e_pn, e_ps, e_bb, fill0, fill1, b_add, b_sub, b_mul, b_eql, b_neq, b_lss, b_leq, b_gtr, b_geq, b_and, b_or, b_xor, b_seql, b_sneq, b_slss, AQ.andThen, AQ.inBlock, Option.some.injEq, exists_eq_left', exists_eq_left, reduceCtorEq, Exit.exit.injEq]
  refine ⟨_, _, r31, ?_⟩
  obtain ⟨a, ha⟩ := p1.shape
  have hf : fillA [.slice none 0 0, .bool false] [(0, 1, v)] = some [v, .bool false] := by rw [ha]; rfl
  refine ⟨_, hf, ?_⟩
  simp only [↓reduceIte, RD_nil, RD_cons, RD_consg, W_dreg, obl_nil, Nat.reduceAdd, Nat.add_zero, Nat.zero_add, Nat.mul_one, Int.toNat_natCast, W_skip, W_reg, W_seq, W_cond, W_block, W_exit, W_ret, getD_nil', RW_nil, RW_cons, RW_consg, AOp.map, AX_fr, AX_tm, AX_c, AX_fn, AX_g, D_no, D_no', D_tm, D_tm', D_fr, D_fr', List.getD_cons_zero, List.getD_cons_succ, List.set_cons_zero, List.set_cons_succ, List.map_cons, List.map_nil, Option.map_some, Option.map_none, wantA, beq_self_eq_true, if_true, Bool.false_eq_true, if_false, Bool.not_true, Bool.not_false, s_mov, s_pick, s_new, s_box, s_build, s_bslice, s_load1, s_loadn, s_nilck, s_bin, s_eqv, s_not, s_neg, s_i2i, s_s2s, s_s2b, s_iface, s_mkfn, s_faddr, s_fld1, s_iaddr, s_idxs, s_assert, s_extract, s_len, s_lens, s_lenc, s_callf, resO0, resO1, resO2, resO3, List.getElem?_cons_zero, List.getElem?_cons_succ, Nat.reduceEqDiff, true_and, and_true, false_and, e_sn, e_ss, e_pn, e_ps, e_bb, fill0, fill1, b_add, b_sub, b_mul, b_eql, b_neq, b_lss, b_leq, b_gtr, b_geq, b_and, b_or, b_xor, b_seql, b_sneq, b_slss, AQ.andThen, AQ.inBlock, Option.some.injEq, exists_eq_left', exists_eq_left, reduceCtorEq, Exit.exit.injEq, Value.cells]
  refine ⟨by rw [ha]; rfl, H1.n, ?_⟩
  have hK := (Keeps.refl H1).alloc (.cells true false 2 [v, .bool false] 67)
  have hg := AHeap.get_alloc_new H1 (.cells true false 2 [v, .bool false] 67)
  rcases p1 with ⟨rfl, h2, h3⟩ | ⟨b, room, rfl, h1, h2⟩
  · have hl0 : l = [] := List.length_eq_zero_iff.1 h2
    subst hl0
    exact ⟨H1.n, rfl, ⟨_, hg, .inl ⟨rfl, rfl, rfl⟩⟩, p2.n, p2.n, p2.trans hK⟩
  · have hb := AHeap.get_lt h2
    exact ⟨b, rfl, ⟨_, hg, .inr ⟨0, _, room, rfl, hK.at_ h2, by omega, by rw [List.drop_zero], by omega⟩⟩, p2.n, p3 b rfl, p2.trans hK⟩

/-- What take leaves behind. -/
def TK (H H' : AHeap) (r bv : Nat) (l : List UInt8) (n : Nat) (v : Value) : Prop :=
  Chg [r] H H' ∧ ((v = .slice none 0 0 ∧ l = [] ∧ n = 0 ∧ bv = r ∧ H'.get r = some (.cells true false 2 [.slice none 0 0, .bool false] 67)) ∨
    ∃ o c rm, v = slc bv o n n ∧ H'.get r = some (.cells true false 2 [slc bv (o + n) (l.length - n) (l.length - n), .bool false] 67) ∧ H'.get bv = some (.cells true rm 1 c 5) ∧ bv ≠ r ∧ c.drop o = cellsOf l ∧ o + n ≤ c.length)

theorem TK.rs {H H' : AHeap} {r bv : Nat} {l : List UInt8} {n : Nat} {v : Value} (h : TK H H' r bv l n v) : RS H' r bv (l.drop n) false := by
  obtain ⟨_, ⟨rfl, rfl, rfl, rfl, h1⟩ | ⟨o, c, rm, rfl, h1, h2, h3, h4, h5⟩⟩ := h
  · exact ⟨_, h1, .inl ⟨rfl, rfl, rfl⟩⟩
  · refine ⟨_, h1, .inr ⟨o + n, c, rm, by rw [List.length_drop], h2, h3, ?_, h5⟩⟩
    rw [← List.drop_drop, h4]
    simp [cellsOf, List.map_drop]
theorem TK.bs {H H' : AHeap} {r bv : Nat} {l : List UInt8} {n : Nat} {v : Value} (h : TK H H' r bv l n v) (hn : n ≤ l.length) : BS H' v (l.take n) := by
  obtain ⟨_, ⟨rfl, rfl, rfl, rfl, h1⟩ | ⟨o, c, rm, rfl, h1, h2, h3, h4, h5⟩⟩ := h
  · exact BS.nil H'
  · refine ⟨⟨some ⟨bv, o, none⟩, n, by rw [List.length_take, Nat.min_eq_left hn]; rfl⟩, ?_⟩
    simp only [elemsA, slc, h2, Nat.mul_one]
    rw [if_pos h5, h4]
    simp [cellsOf, List.map_take]

/-- take. -/
theorem t32 {H : AHeap} {r bv : Nat} {l : List UInt8} {bad : Bool} (h : RS H r bv l bad) (n : Int) (hl : l.length ≤ 1000000000) :
    ∃ v H', ARun Try.prog 0 32 [ptr r 0, .int .i64 n] H v H' ∧ if bad = true ∨ n < 0 ∨ (l.length : Int) < n then v = .slice none 0 0 ∧ RS H' r r [] true ∧ Chg [r] H H' else TK H H' r bv l n.toNat v := by
  refine walk2 f32_ok f32_n ?_
  intro Q hq1 hq2
  obtain ⟨v, h1, h2⟩ := h
  obtain ⟨a, k, hsh⟩ := h2.bs.sh
  have hrn := AHeap.get_lt h1
  have e1 : ∀ x : Value, (H.set r (.cells true false 2 [x, .bool bad] 67)).get r = some (.cells true false 2 [x, .bool bad] 67) := fun x => AHeap.get_set_same h1 _
  have fail : RS ((H.set r (.cells true false 2 [.slice none 0 0, .bool bad] 67)).set r (.cells true false 2 [.slice none 0 0, .bool true] 67)) r r [] true ∧ Chg [r] H ((H.set r (.cells true false 2 [.slice none 0 0, .bool bad] 67)).set r (.cells true false 2 [.slice none 0 0, .bool true] 67)) :=
    ⟨⟨_, AHeap.get_set_same (e1 _) _, .inl ⟨rfl, rfl, rfl⟩⟩, (Chg.set H hrn _).trans (Chg.set (H.set r _) hrn _) (fun x hx => .inl hx)⟩
  by_cases hbad : bad = true
  · subst hbad
    simp only [f32, W_skip, W_reg, W_seq, w_cond, cond_true, cond_false, W_block, W_exit, W_ret, W_dreg, r_nil, r_cons, r_consg, gd_true, gd_false, go_some, st_call, st_callv, d_nil, d_cons, d_consg, gdD_true, gdD_false, goD_some, goD_some', stD_call, st_mov, st_pick, st_new, st_box, st_build, st_bslice, st_load1, st_loadn, st_store1, st_storen, st_nilck, st_bin, st_eqv, st_un, st_i2i, st_s2s, st_s2b, st_b2s, st_iface, st_mkfn, st_mksl, st_slstr, st_slsl, st_faddr, st_fld1, st_fldn, st_iaddr, st_idxs, st_assert, st_extract, st_len, st_mark, sd_pick, sd_new, sd_box, sd_build, sd_bslice, sd_load1, sd_loadn, sd_store1, sd_storen, sd_nilck, sd_bin, sd_eqv, sd_un, sd_i2i, sd_s2s, sd_s2b, sd_b2s, sd_iface, sd_mkfn, sd_mksl, sd_slstr, sd_slsl, sd_faddr, sd_fld1, sd_fldn, sd_iaddr, sd_idxs, sd_assert, sd_extract, sd_len, sd_mark, sd_mov, a_mov, a_pick, a_new, a_box, a_build, a_load1, a_loadn, a_nilck, a_bin, a_eqv, a_not, a_neg, a_i2i, a_s2s, a_s2b, a_iface, a_mkfn, a_faddr, a_fld1, a_iaddr, a_assert, a_extract, a_len, a_lenc, a_lens, AOp.map, AX_fr, AX_tm, AX_c, AX_fn, AX_g, D_no, D_no', D_tm, D_tm', D_fr, D_fr', List.getD_cons_zero, List.getD_cons_succ, getD_nil', List.set_cons_zero, List.set_cons_succ, List.map_cons, List.map_nil, Option.map_some, Option.map_none, want_x, bi_tt, bi_tf, bi_ft, bi_ff, pk_t, pk_f, beq_self_eq_true, ↓reduceIte, if_true, Bool.false_eq_true, if_false, Bool.not_true, Bool.not_false, Nat.reduceAdd, Nat.add_zero, Nat.zero_add, Nat.mul_one, Int.toNat_natCast, resO0, resO1, resO2, resO3, List.getElem?_cons_zero, List.getElem?_cons_succ, Nat.reduceEqDiff, true_and, and_true, false_and, e_sn, e_ss, e_pn, e_ps, e_bb, fill0, fill1, b_add, b_sub, b_mul, b_eql, b_neq, b_lss, b_leq, b_gtr, b_geq, b_and, b_or, b_xor, b_seql, b_sneq, b_slss, at_n, at_e, at_r, ib_n, ib_r, ib_e, ib_x, reduceCtorEq, Exit.exit.injEq, initFr, Bool.true_beq, Bool.false_beq, beq_true, beq_false, one_int, one_bool, one_str, one_sl, one_slc, one_ptr, one_pn, one_if, one_map, List.length_cons, List.length_nil, Nat.reduceLT, List.all_cons, List.all_nil, Bool.and_true, Bool.true_and, and_self, bnd_none, o_int, o_bool, o_str, o_sl, o_slc, o_ptr, o_pn, o_if, o_map, cellA_of h1, a_st h1, a_st (e1 _)]
    refine hq2 _ _ ⟨_, rfl, ?_⟩
    rw [if_pos (.inl rfl)]
    exact ⟨rfl, fail⟩
  · have hb0 : bad = false := by simpa using hbad
    subst hb0
    by_cases hn : n < 0
    · simp only [f32, W_skip, W_reg, W_seq, w_cond, cond_true, cond_false, W_block, W_exit, W_ret, W_dreg, r_nil, r_cons, r_consg, gd_true, gd_false, go_some, st_call, st_callv, d_nil, d_cons, d_consg, gdD_true, gdD_false, goD_some, goD_some', stD_call, st_mov, st_pick, st_new, st_box, st_build, st_bslice, st_load1, st_loadn, st_store1, st_storen, st_nilck, st_bin, st_eqv, st_un, st_i2i, st_s2s, st_s2b, st_b2s, st_iface, st_mkfn, st_mksl, st_slstr, st_slsl, st_faddr, st_fld1, st_fldn, st_iaddr, st_idxs, st_assert, st_extract, st_len, st_mark, sd_pick, sd_new, sd_box, sd_build, sd_bslice, sd_load1, sd_loadn, sd_store1, sd_storen, sd_nilck, sd_bin, sd_eqv, sd_un, sd_i2i, sd_s2s, sd_s2b, sd_b2s, sd_iface, sd_mkfn, sd_mksl, sd_slstr, sd_slsl, sd_faddr, sd_fld1, sd_fldn, sd_iaddr, sd_idxs, sd_assert, sd_extract, sd_len, sd_mark, sd_mov, a_mov, a_pick, a_new, a_box, a_build, a_load1, a_loadn, a_nilck, a_bin, a_eqv, a_not, a_neg, a_i2i, a_s2s, a_s2b, a_iface, a_mkfn, a_faddr, a_fld1, a_iaddr, a_assert, a_extract, a_len, a_lenc, a_lens, AOp.map, AX_fr, AX_tm, AX_c, AX_fn, AX_g, D_no, D_no', D_tm, D_tm', D_fr, D_fr', List.getD_cons_zero, List.getD_cons_succ, getD_nil', List.set_cons_zero, List.set_cons_succ, List.map_cons, List.map_nil, Option.map_some, Option.map_none, want_x, bi_tt, bi_tf, bi_ft, bi_ff, pk_t, pk_f, beq_self_eq_true, ↓reduceIte, if_true, Bool.false_eq_true, if_false, Bool.not_true, Bool.not_false, Nat.reduceAdd, Nat.add_zero, Nat.zero_add, Nat.mul_one, Int.toNat_natCast, resO0, resO1, resO2, resO3, List.getElem?_cons_zero, List.getElem?_cons_succ, Nat.reduceEqDiff, true_and, and_true, false_and, e_sn, e_ss, e_pn, e_ps, e_bb, fill0, fill1, b_add, b_sub, b_mul, b_eql, b_neq, b_lss, b_leq, b_gtr, b_geq, b_and, b_or, b_xor, b_seql, b_sneq, b_slss, at_n, at_e, at_r, ib_n, ib_r, ib_e, ib_x, reduceCtorEq, Exit.exit.injEq, initFr, Bool.true_beq, Bool.false_beq, beq_true, beq_false, one_int, one_bool, one_str, one_sl, one_slc, one_ptr, one_pn, one_if, one_map, List.length_cons, List.length_nil, Nat.reduceLT, List.all_cons, List.all_nil, Bool.and_true, Bool.true_and, and_self, bnd_none, o_int, o_bool, o_str, o_sl, o_slc, o_ptr, o_pn, o_if, o_map, cellA_of h1, hn, decide_true, a_st h1, a_st (e1 _)]
      refine hq2 _ _ ⟨_, rfl, ?_⟩
      rw [if_pos (.inr (.inl hn))]
      exact ⟨rfl, fail⟩
    · by_cases hn2 : (l.length : Int) < n
      · subst hsh
        simp only [f32, W_skip, W_reg, W_seq, w_cond, cond_true, cond_false, W_block, W_exit, W_ret, W_dreg, r_nil, r_cons, r_consg, gd_true, gd_false, go_some, st_call, st_callv, d_nil, d_cons, d_consg, gdD_true, gdD_false, goD_some, goD_some', stD_call, st_mov, st_pick, st_new, st_box, st_build, st_bslice, st_load1, st_loadn, st_store1, st_storen, st_nilck, st_bin, st_eqv, st_un, st_i2i, st_s2s, st_s2b, st_b2s, st_iface, st_mkfn, st_mksl, st_slstr, st_slsl, st_faddr, st_fld1, st_fldn, st_iaddr, st_idxs, st_assert, st_extract, st_len, st_mark, sd_pick, sd_new, sd_box, sd_build, sd_bslice, sd_load1, sd_loadn, sd_store1, sd_storen, sd_nilck, sd_bin, sd_eqv, sd_un, sd_i2i, sd_s2s, sd_s2b, sd_b2s, sd_iface, sd_mkfn, sd_mksl, sd_slstr, sd_slsl, sd_faddr, sd_fld1, sd_fldn, sd_iaddr, sd_idxs, sd_assert, sd_extract, sd_len, sd_mark, sd_mov, a_mov, a_pick, a_new, a_box, a_build, a_load1, a_loadn, a_nilck, a_bin, a_eqv, a_not, a_neg, a_i2i, a_s2s, a_s2b, a_iface, a_mkfn, a_faddr, a_fld1, a_iaddr, a_assert, a_extract, a_len, a_lenc, a_lens, AOp.map, AX_fr, AX_tm, AX_c, AX_fn, AX_g, D_no, D_no', D_tm, D_tm', D_fr, D_fr', List.getD_cons_zero, List.getD_cons_succ, getD_nil', List.set_cons_zero, List.set_cons_succ, List.map_cons, List.map_nil, Option.map_some, Option.map_none, want_x, bi_tt, bi_tf, bi_ft, bi_ff, pk_t, pk_f, beq_self_eq_true, ↓reduceIte, if_true, Bool.false_eq_true, if_false, Bool.not_true, Bool.not_false, Nat.reduceAdd, Nat.add_zero, Nat.zero_add, Nat.mul_one, Int.toNat_natCast, resO0, resO1, resO2, resO3, List.getElem?_cons_zero, List.getElem?_cons_succ, Nat.reduceEqDiff, true_and, and_true, false_and, e_sn, e_ss, e_pn, e_ps, e_bb, fill0, fill1, b_add, b_sub, b_mul, b_eql, b_neq, b_lss, b_leq, b_gtr, b_geq, b_and, b_or, b_xor, b_seql, b_sneq, b_slss, at_n, at_e, at_r, ib_n, ib_r, ib_e, ib_x, reduceCtorEq, Exit.exit.injEq, initFr, Bool.true_beq, Bool.false_beq, beq_true, beq_false, one_int, one_bool, one_str, one_sl, one_slc, one_ptr, one_pn, one_if, one_map, List.length_cons, List.length_nil, Nat.reduceLT, List.all_cons, List.all_nil, Bool.and_true, Bool.true_and, and_self, bnd_none, o_int, o_bool, o_str, o_sl, o_slc, o_ptr, o_pn, o_if, o_map, cellA_of h1, hn, decide_true, decide_false, hn2, a_st h1, a_st (e1 _)]
        refine hq2 _ _ ⟨_, rfl, ?_⟩
        rw [if_pos (.inr (.inr hn2))]
        exact ⟨rfl, fail⟩
      · obtain ⟨m, rfl⟩ : ∃ m : Nat, n = m := ⟨n.toNat, by omega⟩
        have hm : m ≤ l.length := by omega
        rcases h2 with ⟨rfl, rfl, rfl⟩ | ⟨o, c, rm, rfl, g1, g2, g3, g4⟩
        · have hm0 : m = 0 := by simpa using hm
          have z1 : ∀ k : IntKind, bndA (some (.int k (m : Int))) 0 0 = some 0 := fun k => by rw [hm0]; exact bnd_some k 0 0 0 (Nat.le_refl _)
          have hn3 : ¬ (((0 : Nat) : Int) < (m : Int)) := by omega
          simp only [f32, W_skip, W_reg, W_seq, w_cond, cond_true, cond_false, W_block, W_exit, W_ret, W_dreg, r_nil, r_cons, r_consg, gd_true, gd_false, go_some, st_call, st_callv, d_nil, d_cons, d_consg, gdD_true, gdD_false, goD_some, goD_some', stD_call, st_mov, st_pick, st_new, st_box, st_build, st_bslice, st_load1, st_loadn, st_store1, st_storen, st_nilck, st_bin, st_eqv, st_un, st_i2i, st_s2s, st_s2b, st_b2s, st_iface, st_mkfn, st_mksl, st_slstr, st_slsl, st_faddr, st_fld1, st_fldn, st_iaddr, st_idxs, st_assert, st_extract, st_len, st_mark, sd_pick, sd_new, sd_box, sd_build, sd_bslice, sd_load1, sd_loadn, sd_store1, sd_storen, sd_nilck, sd_bin, sd_eqv, sd_un, sd_i2i, sd_s2s, sd_s2b, sd_b2s, sd_iface, sd_mkfn, sd_mksl, sd_slstr, sd_slsl, sd_faddr, sd_fld1, sd_fldn, sd_iaddr, sd_idxs, sd_assert, sd_extract, sd_len, sd_mark, sd_mov, a_mov, a_pick, a_new, a_box, a_build, a_load1, a_loadn, a_nilck, a_bin, a_eqv, a_not, a_neg, a_i2i, a_s2s, a_s2b, a_iface, a_mkfn, a_faddr, a_fld1, a_iaddr, a_assert, a_extract, a_len, a_lenc, a_lens, AOp.map, AX_fr, AX_tm, AX_c, AX_fn, AX_g, D_no, D_no', D_tm, D_tm', D_fr, D_fr', List.getD_cons_zero, List.getD_cons_succ, getD_nil', List.set_cons_zero, List.set_cons_succ, List.map_cons, List.map_nil, Option.map_some, Option.map_none, want_x, bi_tt, bi_tf, bi_ft, bi_ff, pk_t, pk_f, beq_self_eq_true, ↓reduceIte, if_true, Bool.false_eq_true, if_false, Bool.not_true, Bool.not_false, Nat.reduceAdd, Nat.add_zero, Nat.zero_add, Nat.mul_one, Int.toNat_natCast, resO0, resO1, resO2, resO3, List.getElem?_cons_zero, List.getElem?_cons_succ, Nat.reduceEqDiff, true_and, and_true, false_and, e_sn, e_ss, e_pn, e_ps, e_bb, fill0, fill1, b_add, b_sub, b_mul, b_eql, b_neq, b_lss, b_leq, b_gtr, b_geq, b_and, b_or, b_xor, b_seql, b_sneq, b_slss, at_n, at_e, at_r, ib_n, ib_r, ib_e, ib_x, reduceCtorEq, Exit.exit.injEq, initFr, Bool.true_beq, Bool.false_beq, beq_true, beq_false, one_int, one_bool, one_str, one_sl, one_slc, one_ptr, one_pn, one_if, one_map, List.length_cons, List.length_nil, Nat.reduceLT, List.all_cons, List.all_nil, Bool.and_true, Bool.true_and, and_self, bnd_none, o_int, o_bool, o_str, o_sl, o_slc, o_ptr, o_pn, o_if, o_map, cellA_of h1, hn, decide_true, decide_false, hn3, a_slsl_nil ⟨0, 0, 0, z1 .i64, z1 .i64, bnd_none 0 0⟩, a_slsl_nil ⟨0, 0, 0, bnd_none 0 0, bnd_none 0 0, z1 .i64⟩, a_st h1]
          refine hq2 _ _ ⟨_, rfl, ?_⟩
          rw [if_neg (by simp; omega)]
          exact ⟨Chg.set H hrn _, .inl ⟨rfl, rfl, hm0, rfl, AHeap.get_set_same h1 _⟩⟩
        · simp only [f32, W_skip, W_reg, W_seq, w_cond, cond_true, cond_false, W_block, W_exit, W_ret, W_dreg, r_nil, r_cons, r_consg, gd_true, gd_false, go_some, st_call, st_callv, d_nil, d_cons, d_consg, gdD_true, gdD_false, goD_some, goD_some', stD_call, st_mov, st_pick, st_new, st_box, st_build, st_bslice, st_load1, st_loadn, st_store1, st_storen, st_nilck, st_bin, st_eqv, st_un, st_i2i, st_s2s, st_s2b, st_b2s, st_iface, st_mkfn, st_mksl, st_slstr, st_slsl, st_faddr, st_fld1, st_fldn, st_iaddr, st_idxs, st_assert, st_extract, st_len, st_mark, sd_pick, sd_new, sd_box, sd_build, sd_bslice, sd_load1, sd_loadn, sd_store1, sd_storen, sd_nilck, sd_bin, sd_eqv, sd_un, sd_i2i, sd_s2s, sd_s2b, sd_b2s, sd_iface, sd_mkfn, sd_mksl, sd_slstr, sd_slsl, sd_faddr, sd_fld1, sd_fldn, sd_iaddr, sd_idxs, sd_assert, sd_extract, sd_len, sd_mark, sd_mov, a_mov, a_pick, a_new, a_box, a_build, a_load1, a_loadn, a_nilck, a_bin, a_eqv, a_not, a_neg, a_i2i, a_s2s, a_s2b, a_iface, a_mkfn, a_faddr, a_fld1, a_iaddr, a_assert, a_extract, a_len, a_lenc, a_lens, AOp.map, AX_fr, AX_tm, AX_c, AX_fn, AX_g, D_no, D_no', D_tm, D_tm', D_fr, D_fr', List.getD_cons_zero, List.getD_cons_succ, getD_nil', List.set_cons_zero, List.set_cons_succ, List.map_cons, List.map_nil, Option.map_some, Option.map_none, want_x, bi_tt, bi_tf, bi_ft, bi_ff, pk_t, pk_f, beq_self_eq_true, ↓reduceIte, if_true, Bool.false_eq_true, if_false, Bool.not_true, Bool.not_false, Nat.reduceAdd, Nat.add_zero, Nat.zero_add, Nat.mul_one, Int.toNat_natCast, resO0, resO1, resO2, resO3, List.getElem?_cons_zero, List.getElem?_cons_succ, Nat.reduceEqDiff, true_and, and_true, false_and, e_sn, e_ss, e_pn, e_ps, e_bb, fill0, fill1, b_add, b_sub, b_mul, b_eql, b_neq, b_lss, b_leq, b_gtr, b_geq, b_and, b_or, b_xor, b_seql, b_sneq, b_slss, at_n, at_e, at_r, ib_n, ib_r, ib_e, ib_x, reduceCtorEq, Exit.exit.injEq, initFr, Bool.true_beq, Bool.false_beq, beq_true, beq_false, one_int, one_bool, one_str, one_sl, one_slc, one_ptr, one_pn, one_if, one_map, List.length_cons, List.length_nil, Nat.reduceLT, List.all_cons, List.all_nil, Bool.and_true, Bool.true_and, and_self, bnd_none, o_int, o_bool, o_str, o_sl, o_slc, o_ptr, o_pn, o_if, o_map, cellA_of h1, hn, decide_true, decide_false, hn2, a_slsl g1 (bnd_some .i64 m l.length l.length hm) (bnd_some .i64 m l.length m (Nat.le_refl _)) (bnd_none 0 m),
            a_slsl g1 (bnd_none l.length l.length) (bnd_none l.length l.length) (bnd_some .i64 m 0 l.length hm), a_st h1, Nat.sub_zero, Nat.zero_mul]
          refine hq2 _ _ ⟨_, rfl, ?_⟩
          rw [if_neg (by simp; omega)]
          exact ⟨Chg.set H hrn _, .inr ⟨o, c, rm, rfl, AHeap.get_set_same h1 _, by rw [AHeap.get_set_other H g2 hrn]; exact g1, g2, g3, by
            have hl := congrArg List.length g3
            rw [List.length_drop, cellsOf_length] at hl
            simp only [Int.toNat_natCast]; omega⟩⟩

end Go.AM.Fd
