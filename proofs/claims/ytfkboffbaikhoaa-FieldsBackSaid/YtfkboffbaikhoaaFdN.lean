/- Part of the proof: FdN. -/
import Derived.Test.YtfkboffbaikhoaaFdM
set_option linter.unusedSimpArgs false
set_option linter.unusedVariables false
namespace Go.AM.Fd
open Go.Proofs

/-! ### The document's reader -/
def MV (H : AHeap) (v : Value) (l : List UInt8) : Prop :=
  (l = [] ∧ v = .slice none 0 0) ∨ (l = [] ∧ ∃ b o s, v = .slice (some ⟨b, o, some s⟩) 0 0) ∨
  ∃ b o k own c e, v = slc b o l.length k ∧ l.length ≤ k ∧ H.get b = some (.cells own false 1 c e) ∧ (c.drop o).take l.length = cellsOf l ∧ o + l.length ≤ c.length

theorem MV.bs {H : AHeap} {v : Value} {l : List UInt8} (h : MV H v l) : BS H v l := by
  rcases h with ⟨rfl, rfl⟩ | ⟨rfl, b, o, s, rfl⟩ | ⟨b, o, k, own, c, e, rfl, h1, h2, h3, h4⟩
  · exact BS.nil H
  · exact ⟨⟨_, _, rfl⟩, by simp [elemsA, cellsOf]⟩
  · refine ⟨⟨_, _, rfl⟩, ?_⟩
    simp only [elemsA, slc, h2, Nat.mul_one]
    rw [if_pos h4, h3]
theorem MV.keeps {H H' : AHeap} {v : Value} {l : List UInt8} (h : MV H v l) (k : Keeps H H') : MV H' v l := by
  rcases h with h | h | ⟨b, o, k', own, c, e, rfl, h1, h2, h3, h4⟩
  · exact .inl h
  · exact .inr (.inl h)
  · exact .inr (.inr ⟨b, o, k', own, c, e, rfl, h1, k.at_ h2, h3, h4⟩)
theorem AV.mv {H : AHeap} {v : Value} (h : AV Try.prog H.get 25 v) : ∃ l, MV H v l := by
  have hz5 : Try.prog.cellsOf 5 = 1 := by kernel_rfl
  rcases h.slice_inv Try.underlying25 with rfl | ⟨x, hx, rfl⟩ | ⟨b, n, k, c, u, rfl, h3, h4, h5, h6, h7, h8⟩
  · exact ⟨[], .inl ⟨rfl, rfl⟩⟩
  · obtain ⟨b, o, s⟩ := x
    cases s with
    | none => simp at hx
    | some s => exact ⟨[], .inr (.inl ⟨rfl, _, _, _, rfl⟩)⟩
  · obtain ⟨l, rfl⟩ := AR.bytes Try.underlying5 hz5 k c h7 h8
    rw [cellsOf_length, hz5] at h7
    rw [hz5] at h6
    have hl : (l.take n).length = n := by rw [List.length_take]; omega
    exact ⟨l.take n, .inr (.inr ⟨b, 0, k, false, _, u, by rw [hl], by rw [hl]; exact h4, h6, by rw [hl]; simp [cellsOf, List.map_take], by rw [hl, cellsOf_length]; omega⟩)⟩

theorem a_slsl_spot {esz b o : Nat} {lo hi : Option Value} {z : Nat} (h : ∃ hh l, bndA hi 0 0 = some hh ∧ bndA lo 0 hh = some l) (H : AHeap) : asem (.slsl esz (.slice (some ⟨b, o, some z⟩) 0 0) lo hi none) H = some (.slice (some ⟨b, o, some z⟩) 0 0, H) := by
  obtain ⟨hh, l, h2, h3⟩ := h
  simp only [asem, bnd_none, h2, h3]
  simp
theorem a_slsl_r {esz b o n k m hh l e : Nat} {own : Bool} {c : List Value} {lo hi mx : Option Value} {H : AHeap} {z : Nat} (hb : H.get b = some (.cells own false z c e)) (h1 : bndA mx k k = some m) (h2 : bndA hi n m = some hh) (h3 : bndA lo 0 hh = some l) :
    asem (.slsl esz (slc b o n k) lo hi mx) H = some (slc b (o + l * esz) (hh - l) (m - l), H) := by
  simp only [asem, slc, h1, h2, h3, hb, or_true, if_true]

theorem t16 {H0 H : AHeap} (k0 : Keeps H0 H) {m : Nat} {v : Value} {l : List UInt8} {bad : Bool} (hm : H.get m = some (.cells true false 2 [v, .bool bad] 42)) (hv : MV H0 v l) (n : Int) (hl : l.length ≤ 1000000000) :
    ∃ w H', ARun Try.prog 0 16 [ptr m 0, .int .i64 n] H w H' ∧ ∃ x v', w = .tuple #[x, .bool (!badB l bad n)] ∧ MV H0 x (gotL l bad n) ∧ x.oneCell' = true ∧ H'.get m = some (.cells true false 2 [v', .bool (badB l bad n)] 42) ∧ MV H0 v' (restL l bad n) ∧ Chg [m] H H' := by
  refine walk2 f16_ok f16_n ?_
  intro Q hq1 hq2
  obtain ⟨a, k, hsh⟩ := hv.bs.sh
  have hrn := AHeap.get_lt hm
  have e1 : ∀ x : Value, (H.set m (.cells true false 2 [v, x] 42)).get m = some (.cells true false 2 [v, x] 42) := fun x => AHeap.get_set_same hm _
  have ch : Chg [m] H ((H.set m (.cells true false 2 [v, .bool true] 42)).set m (.cells true false 2 [.slice none 0 0, .bool true] 42)) :=
    (Chg.set H hrn _).trans (Chg.set (H.set m _) hrn _) (fun x hx => .inl hx)
  have g2 : ((H.set m (.cells true false 2 [v, .bool true] 42)).set m (.cells true false 2 [.slice none 0 0, .bool true] 42)).get m = some (.cells true false 2 [.slice none 0 0, .bool true] 42) := AHeap.get_set_same (e1 _) _
  by_cases hf : failB l bad n
  · have hb : badB l bad n = true := by simp [badB, hf]
    simp only [hb, gotL, restL, hf, if_true, Bool.not_true] at hq2
    have done : ∃ (x v' : Value), (Value.tuple #[.slice none 0 0, .bool false]) = .tuple #[x, .bool false] ∧ MV H0 x [] ∧ x.oneCell' = true ∧ ((H.set m (.cells true false 2 [v, .bool true] 42)).set m (.cells true false 2 [.slice none 0 0, .bool true] 42)).get m = some (.cells true false 2 [v', .bool true] 42) ∧ MV H0 v' [] ∧ Chg [m] H ((H.set m (.cells true false 2 [v, .bool true] 42)).set m (.cells true false 2 [.slice none 0 0, .bool true] 42)) :=
      ⟨_, _, rfl, .inl ⟨rfl, rfl⟩, rfl, g2, .inl ⟨rfl, rfl⟩, ch⟩
    by_cases hbad : bad = true
    · subst hbad
      simp only [f16, W_skip, W_reg, W_seq, w_cond, cond_true, cond_false, W_block, W_exit, W_ret, W_dreg, r_nil, r_cons, r_consg, gd_true, gd_false, go_some, st_call, st_callv, d_nil, d_cons, d_consg, gdD_true, gdD_false, goD_some, goD_some', stD_call, st_mov, st_pick, st_new, st_box, st_build, st_bslice, st_load1, st_loadn, st_store1, st_storen, st_nilck, st_bin, st_eqv, st_un, st_i2i, st_s2s, st_s2b, st_b2s, st_iface, st_mkfn, st_mksl, st_slstr, st_slsl, st_faddr, st_fld1, st_fldn, st_iaddr, st_idxs, st_assert, st_extract, st_len, st_mark, sd_pick, sd_new, sd_box, sd_build, sd_bslice, sd_load1, sd_loadn, sd_store1, sd_storen, sd_nilck, sd_bin, sd_eqv, sd_un, sd_i2i, sd_s2s, sd_s2b, sd_b2s, sd_iface, sd_mkfn, sd_mksl, sd_slstr, sd_slsl, sd_faddr, sd_fld1, sd_fldn, sd_iaddr, sd_idxs, sd_assert, sd_extract, sd_len, sd_mark, sd_mov, a_mov, a_pick, a_new, a_box, a_build, a_load1, a_loadn, a_nilck, a_bin, a_eqv, a_not, a_neg, a_i2i, a_s2s, a_s2b, a_iface, a_mkfn, a_faddr, a_fld1, a_iaddr, a_assert, a_extract, a_len, a_lenc, a_lens, AOp.map, AX_fr, AX_tm, AX_c, AX_fn, AX_g, D_no, D_no', D_tm, D_tm', D_fr, D_fr', List.getD_cons_zero, List.getD_cons_succ, getD_nil', List.set_cons_zero, List.set_cons_succ, List.map_cons, List.map_nil, Option.map_some, Option.map_none, want_x, bi_tt, bi_tf, bi_ft, bi_ff, pk_t, pk_f, beq_self_eq_true, ↓reduceIte, if_true, Bool.false_eq_true, if_false, Bool.not_true, Bool.not_false, Nat.reduceAdd, Nat.add_zero, Nat.zero_add, Nat.mul_one, Int.toNat_natCast, resO0, resO1, resO2, resO3, List.getElem?_cons_zero, List.getElem?_cons_succ, Nat.reduceEqDiff, true_and, and_true, false_and, e_sn, e_ss, e_pn, e_ps, e_bb, fill0, fill1, b_add, b_sub, b_mul, b_eql, b_neq, b_lss, b_leq, b_gtr, b_geq, b_and, b_or, b_xor, b_seql, b_sneq, b_slss, at_n, at_e, at_r, ib_n, ib_r, ib_e, ib_x, reduceCtorEq, Exit.exit.injEq, initFr, Bool.true_beq, Bool.false_beq, beq_true, beq_false, one_int, one_bool, one_str, one_sl, one_slc, one_ptr, one_pn, one_if, one_map, List.length_cons, List.length_nil, Nat.reduceLT, List.all_cons, List.all_nil, Bool.and_true, Bool.true_and, and_self, bnd_none, o_int, o_bool, o_str, o_sl, o_slc, o_ptr, o_pn, o_if, o_map, cellA_of hm, a_st hm, a_st (e1 _)]
      exact hq2 _ _ ⟨_, rfl, done⟩
    · have hb0 : bad = false := by simpa using hbad
      subst hb0
      by_cases hn : n < 0
      · simp only [f16, W_skip, W_reg, W_seq, w_cond, cond_true, cond_false, W_block, W_exit, W_ret, W_dreg, r_nil, r_cons, r_consg, gd_true, gd_false, go_some, st_call, st_callv, d_nil, d_cons, d_consg, gdD_true, gdD_false, goD_some, goD_some', stD_call, st_mov, st_pick, st_new, st_box, st_build, st_bslice, st_load1, st_loadn, st_store1, st_storen, st_nilck, st_bin, st_eqv, st_un, st_i2i, st_s2s, st_s2b, st_b2s, st_iface, st_mkfn, st_mksl, st_slstr, st_slsl, st_faddr, st_fld1, st_fldn, st_iaddr, st_idxs, st_assert, st_extract, st_len, st_mark, sd_pick, sd_new, sd_box, sd_build, sd_bslice, sd_load1, sd_loadn, sd_store1, sd_storen, sd_nilck, sd_bin, sd_eqv, sd_un, sd_i2i, sd_s2s, sd_s2b, sd_b2s, sd_iface, sd_mkfn, sd_mksl, sd_slstr, sd_slsl, sd_faddr, sd_fld1, sd_fldn, sd_iaddr, sd_idxs, sd_assert, sd_extract, sd_len, sd_mark, sd_mov, a_mov, a_pick, a_new, a_box, a_build, a_load1, a_loadn, a_nilck, a_bin, a_eqv, a_not, a_neg, a_i2i, a_s2s, a_s2b, a_iface, a_mkfn, a_faddr, a_fld1, a_iaddr, a_assert, a_extract, a_len, a_lenc, a_lens, AOp.map, AX_fr, AX_tm, AX_c, AX_fn, AX_g, D_no, D_no', D_tm, D_tm', D_fr, D_fr', List.getD_cons_zero, List.getD_cons_succ, getD_nil', List.set_cons_zero, List.set_cons_succ, List.map_cons, List.map_nil, Option.map_some, Option.map_none, want_x, bi_tt, bi_tf, bi_ft, bi_ff, pk_t, pk_f, beq_self_eq_true, ↓reduceIte, if_true, Bool.false_eq_true, if_false, Bool.not_true, Bool.not_false, Nat.reduceAdd, Nat.add_zero, Nat.zero_add, Nat.mul_one, Int.toNat_natCast, resO0, resO1, resO2, resO3, List.getElem?_cons_zero, List.getElem?_cons_succ, Nat.reduceEqDiff, true_and, and_true, false_and, e_sn, e_ss, e_pn, e_ps, e_bb, fill0, fill1, b_add, b_sub, b_mul, b_eql, b_neq, b_lss, b_leq, b_gtr, b_geq, b_and, b_or, b_xor, b_seql, b_sneq, b_slss, at_n, at_e, at_r, ib_n, ib_r, ib_e, ib_x, reduceCtorEq, Exit.exit.injEq, initFr, Bool.true_beq, Bool.false_beq, beq_true, beq_false, one_int, one_bool, one_str, one_sl, one_slc, one_ptr, one_pn, one_if, one_map, List.length_cons, List.length_nil, Nat.reduceLT, List.all_cons, List.all_nil, Bool.and_true, Bool.true_and, and_self, bnd_none, o_int, o_bool, o_str, o_sl, o_slc, o_ptr, o_pn, o_if, o_map, cellA_of hm, hn, decide_true, a_st hm, a_st (e1 _)]
        exact hq2 _ _ ⟨_, rfl, done⟩
      · have hn2 : (l.length : Int) < n := by unfold failB at hf; simp at hf; omega
        subst hsh
        simp only [f16, W_skip, W_reg, W_seq, w_cond, cond_true, cond_false, W_block, W_exit, W_ret, W_dreg, r_nil, r_cons, r_consg, gd_true, gd_false, go_some, st_call, st_callv, d_nil, d_cons, d_consg, gdD_true, gdD_false, goD_some, goD_some', stD_call, st_mov, st_pick, st_new, st_box, st_build, st_bslice, st_load1, st_loadn, st_store1, st_storen, st_nilck, st_bin, st_eqv, st_un, st_i2i, st_s2s, st_s2b, st_b2s, st_iface, st_mkfn, st_mksl, st_slstr, st_slsl, st_faddr, st_fld1, st_fldn, st_iaddr, st_idxs, st_assert, st_extract, st_len, st_mark, sd_pick, sd_new, sd_box, sd_build, sd_bslice, sd_load1, sd_loadn, sd_store1, sd_storen, sd_nilck, sd_bin, sd_eqv, sd_un, sd_i2i, sd_s2s, sd_s2b, sd_b2s, sd_iface, sd_mkfn, sd_mksl, sd_slstr, sd_slsl, sd_faddr, sd_fld1, sd_fldn, sd_iaddr, sd_idxs, sd_assert, sd_extract, sd_len, sd_mark, sd_mov, a_mov, a_pick, a_new, a_box, a_build, a_load1, a_loadn, a_nilck, a_bin, a_eqv, a_not, a_neg, a_i2i, a_s2s, a_s2b, a_iface, a_mkfn, a_faddr, a_fld1, a_iaddr, a_assert, a_extract, a_len, a_lenc, a_lens, AOp.map, AX_fr, AX_tm, AX_c, AX_fn, AX_g, D_no, D_no', D_tm, D_tm', D_fr, D_fr', List.getD_cons_zero, List.getD_cons_succ, getD_nil', List.set_cons_zero, List.set_cons_succ, List.map_cons, List.map_nil, Option.map_some, Option.map_none, want_x, bi_tt, bi_tf, bi_ft, bi_ff, pk_t, pk_f, beq_self_eq_true, ↓reduceIte, if_true, Bool.false_eq_true, if_false, Bool.not_true, Bool.not_false, Nat.reduceAdd, Nat.add_zero, Nat.zero_add, Nat.mul_one, Int.toNat_natCast, resO0, resO1, resO2, resO3, List.getElem?_cons_zero, List.getElem?_cons_succ, Nat.reduceEqDiff, true_and, and_true, false_and, e_sn, e_ss, e_pn, e_ps, e_bb, fill0, fill1, b_add, b_sub, b_mul, b_eql, b_neq, b_lss, b_leq, b_gtr, b_geq, b_and, b_or, b_xor, b_seql, b_sneq, b_slss, at_n, at_e, at_r, ib_n, ib_r, ib_e, ib_x, reduceCtorEq, Exit.exit.injEq, initFr, Bool.true_beq, Bool.false_beq, beq_true, beq_false, one_int, one_bool, one_str, one_sl, one_slc, one_ptr, one_pn, one_if, one_map, List.length_cons, List.length_nil, Nat.reduceLT, List.all_cons, List.all_nil, Bool.and_true, Bool.true_and, and_self, bnd_none, o_int, o_bool, o_str, o_sl, o_slc, o_ptr, o_pn, o_if, o_map, cellA_of hm, hn, decide_true, decide_false, hn2, a_st hm, a_st (e1 _)]
        exact hq2 _ _ ⟨_, rfl, done⟩
  · have hb : badB l bad n = false := by simp [badB, hf]
    simp only [hb, gotL, restL, hf, if_false, Bool.not_false] at hq2
    have hb0 : bad = false := by unfold failB at hf; cases bad <;> simp at hf ⊢
    subst hb0
    have hn : ¬ n < 0 := by unfold failB at hf; omega
    have hn2 : ¬ (l.length : Int) < n := by unfold failB at hf; omega
    obtain ⟨j, rfl⟩ : ∃ j : Nat, n = j := ⟨n.toNat, by omega⟩
    have hj : j ≤ l.length := by omega
    simp only [Int.toNat_natCast] at hq2
    rcases hv with ⟨rfl, rfl⟩ | ⟨rfl, b, o, s, rfl⟩ | ⟨b, o, k, own, c, e, rfl, h1, h2, h3, h4⟩
    · have hj0 : j = 0 := by simpa using hj
      have z1 : ∀ k : IntKind, bndA (some (.int k (j : Int))) 0 0 = some 0 := fun k => by rw [hj0]; exact bnd_some k 0 0 0 (Nat.le_refl _)
      have hn3 : ¬ (((0 : Nat) : Int) < (j : Int)) := by omega
      simp only [f16, W_skip, W_reg, W_seq, w_cond, cond_true, cond_false, W_block, W_exit, W_ret, W_dreg, r_nil, r_cons, r_consg, gd_true, gd_false, go_some, st_call, st_callv, d_nil, d_cons, d_consg, gdD_true, gdD_false, goD_some, goD_some', stD_call, st_mov, st_pick, st_new, st_box, st_build, st_bslice, st_load1, st_loadn, st_store1, st_storen, st_nilck, st_bin, st_eqv, st_un, st_i2i, st_s2s, st_s2b, st_b2s, st_iface, st_mkfn, st_mksl, st_slstr, st_slsl, st_faddr, st_fld1, st_fldn, st_iaddr, st_idxs, st_assert, st_extract, st_len, st_mark, sd_pick, sd_new, sd_box, sd_build, sd_bslice, sd_load1, sd_loadn, sd_store1, sd_storen, sd_nilck, sd_bin, sd_eqv, sd_un, sd_i2i, sd_s2s, sd_s2b, sd_b2s, sd_iface, sd_mkfn, sd_mksl, sd_slstr, sd_slsl, sd_faddr, sd_fld1, sd_fldn, sd_iaddr, sd_idxs, sd_assert, sd_extract, sd_len, sd_mark, sd_mov, a_mov, a_pick, a_new, a_box, a_build, a_load1, a_loadn, a_nilck, a_bin, a_eqv, a_not, a_neg, a_i2i, a_s2s, a_s2b, a_iface, a_mkfn, a_faddr, a_fld1, a_iaddr, a_assert, a_extract, a_len, a_lenc, a_lens, AOp.map, AX_fr, AX_tm, AX_c, AX_fn, AX_g, D_no, D_no', D_tm, D_tm', D_fr, D_fr', List.getD_cons_zero, List.getD_cons_succ, getD_nil', List.set_cons_zero, List.set_cons_succ, List.map_cons, List.map_nil, Option.map_some, Option.map_none, want_x, bi_tt, bi_tf, bi_ft, bi_ff, pk_t, pk_f, beq_self_eq_true, ↓reduceIte, if_true, Bool.false_eq_true, if_false, Bool.not_true, Bool.not_false, Nat.reduceAdd, Nat.add_zero, Nat.zero_add, Nat.mul_one, Int.toNat_natCast, resO0, resO1, resO2, resO3, List.getElem?_cons_zero, List.getElem?_cons_succ, Nat.reduceEqDiff, true_and, and_true, false_and, e_sn, e_ss, e_pn, e_ps, e_bb, fill0, fill1, b_add, b_sub, b_mul, b_eql, b_neq, b_lss, b_leq, b_gtr, b_geq, b_and, b_or, b_xor, b_seql, b_sneq, b_slss, at_n, at_e, at_r, ib_n, ib_r, ib_e, ib_x, reduceCtorEq, Exit.exit.injEq, initFr, Bool.true_beq, Bool.false_beq, beq_true, beq_false, one_int, one_bool, one_str, one_sl, one_slc, one_ptr, one_pn, one_if, one_map, List.length_cons, List.length_nil, Nat.reduceLT, List.all_cons, List.all_nil, Bool.and_true, Bool.true_and, and_self, bnd_none, o_int, o_bool, o_str, o_sl, o_slc, o_ptr, o_pn, o_if, o_map, cellA_of hm, hn, decide_true, decide_false, hn3, a_slsl_nil ⟨0, 0, 0, bnd_none 0 0, z1 .i64, bnd_none 0 0⟩, a_slsl_nil ⟨0, 0, 0, bnd_none 0 0, bnd_none 0 0, z1 .i64⟩, a_st hm]
      refine hq2 _ _ ⟨_, rfl, _, _, rfl, .inl ⟨by simp, rfl⟩, rfl, AHeap.get_set_same hm _, .inl ⟨by simp, rfl⟩, Chg.set H hrn _⟩
    · have hj0 : j = 0 := by simpa using hj
      have z1 : ∀ k : IntKind, bndA (some (.int k (j : Int))) 0 0 = some 0 := fun k => by rw [hj0]; exact bnd_some k 0 0 0 (Nat.le_refl _)
      have hn3 : ¬ (((0 : Nat) : Int) < (j : Int)) := by omega
      simp only [f16, W_skip, W_reg, W_seq, w_cond, cond_true, cond_false, W_block, W_exit, W_ret, W_dreg, r_nil, r_cons, r_consg, gd_true, gd_false, go_some, st_call, st_callv, d_nil, d_cons, d_consg, gdD_true, gdD_false, goD_some, goD_some', stD_call, st_mov, st_pick, st_new, st_box, st_build, st_bslice, st_load1, st_loadn, st_store1, st_storen, st_nilck, st_bin, st_eqv, st_un, st_i2i, st_s2s, st_s2b, st_b2s, st_iface, st_mkfn, st_mksl, st_slstr, st_slsl, st_faddr, st_fld1, st_fldn, st_iaddr, st_idxs, st_assert, st_extract, st_len, st_mark, sd_pick, sd_new, sd_box, sd_build, sd_bslice, sd_load1, sd_loadn, sd_store1, sd_storen, sd_nilck, sd_bin, sd_eqv, sd_un, sd_i2i, sd_s2s, sd_s2b, sd_b2s, sd_iface, sd_mkfn, sd_mksl, sd_slstr, sd_slsl, sd_faddr, sd_fld1, sd_fldn, sd_iaddr, sd_idxs, sd_assert, sd_extract, sd_len, sd_mark, sd_mov, a_mov, a_pick, a_new, a_box, a_build, a_load1, a_loadn, a_nilck, a_bin, a_eqv, a_not, a_neg, a_i2i, a_s2s, a_s2b, a_iface, a_mkfn, a_faddr, a_fld1, a_iaddr, a_assert, a_extract, a_len, a_lenc, a_lens, AOp.map, AX_fr, AX_tm, AX_c, AX_fn, AX_g, D_no, D_no', D_tm, D_tm', D_fr, D_fr', List.getD_cons_zero, List.getD_cons_succ, getD_nil', List.set_cons_zero, List.set_cons_succ, List.map_cons, List.map_nil, Option.map_some, Option.map_none, want_x, bi_tt, bi_tf, bi_ft, bi_ff, pk_t, pk_f, beq_self_eq_true, ↓reduceIte, if_true, Bool.false_eq_true, if_false, Bool.not_true, Bool.not_false, Nat.reduceAdd, Nat.add_zero, Nat.zero_add, Nat.mul_one, Int.toNat_natCast, resO0, resO1, resO2, resO3, List.getElem?_cons_zero, List.getElem?_cons_succ, Nat.reduceEqDiff, true_and, and_true, false_and, e_sn, e_ss, e_pn, e_ps, e_bb, fill0, fill1, b_add, b_sub, b_mul, b_eql, b_neq, b_lss, b_leq, b_gtr, b_geq, b_and, b_or, b_xor, b_seql, b_sneq, b_slss, at_n, at_e, at_r, ib_n, ib_r, ib_e, ib_x, reduceCtorEq, Exit.exit.injEq, initFr, Bool.true_beq, Bool.false_beq, beq_true, beq_false, one_int, one_bool, one_str, one_sl, one_slc, one_ptr, one_pn, one_if, one_map, List.length_cons, List.length_nil, Nat.reduceLT, List.all_cons, List.all_nil, Bool.and_true, Bool.true_and, and_self, bnd_none, o_int, o_bool, o_str, o_sl, o_slc, o_ptr, o_pn, o_if, o_map, cellA_of hm, hn, decide_true, decide_false, hn3, a_slsl_spot ⟨0, 0, z1 .i64, bnd_none 0 0⟩, a_slsl_spot ⟨0, 0, bnd_none 0 0, z1 .i64⟩, a_st hm]
      refine hq2 _ _ ⟨_, rfl, .slice (some ⟨b, o, some s⟩) 0 0, _, rfl, .inr (.inl ⟨by simp, _, _, _, rfl⟩), rfl, AHeap.get_set_same hm _, .inr (.inl ⟨by simp, _, _, _, rfl⟩), Chg.set H hrn _⟩
    · simp only [f16, W_skip, W_reg, W_seq, w_cond, cond_true, cond_false, W_block, W_exit, W_ret, W_dreg, r_nil, r_cons, r_consg, gd_true, gd_false, go_some, st_call, st_callv, d_nil, d_cons, d_consg, gdD_true, gdD_false, goD_some, goD_some', stD_call, st_mov, st_pick, st_new, st_box, st_build, st_bslice, st_load1, st_loadn, st_store1, st_storen, st_nilck, st_bin, st_eqv, st_un, st_i2i, st_s2s, st_s2b, st_b2s, st_iface, st_mkfn, st_mksl, st_slstr, st_slsl, st_faddr, st_fld1, st_fldn, st_iaddr, st_idxs, st_assert, st_extract, st_len, st_mark, sd_pick, sd_new, sd_box, sd_build, sd_bslice, sd_load1, sd_loadn, sd_store1, sd_storen, sd_nilck, sd_bin, sd_eqv, sd_un, sd_i2i, sd_s2s, sd_s2b, sd_b2s, sd_iface, sd_mkfn, sd_mksl, sd_slstr, sd_slsl, sd_faddr, sd_fld1, sd_fldn, sd_iaddr, sd_idxs, sd_assert, sd_extract, sd_len, sd_mark, sd_mov, a_mov, a_pick, a_new, a_box, a_build, a_load1, a_loadn, a_nilck, a_bin, a_eqv, a_not, a_neg, a_i2i, a_s2s, a_s2b, a_iface, a_mkfn, a_faddr, a_fld1, a_iaddr, a_assert, a_extract, a_len, a_lenc, a_lens, AOp.map, AX_fr, AX_tm, AX_c, AX_fn, AX_g, D_no, D_no', D_tm, D_tm', D_fr, D_fr', List.getD_cons_zero, List.getD_cons_succ, getD_nil', List.set_cons_zero, List.set_cons_succ, List.map_cons, List.map_nil, Option.map_some, Option.map_none, want_x, bi_tt, bi_tf, bi_ft, bi_ff, pk_t, pk_f, beq_self_eq_true, ↓reduceIte, if_true, Bool.false_eq_true, if_false, Bool.not_true, Bool.not_false, Nat.reduceAdd, Nat.add_zero, Nat.zero_add, Nat.mul_one, Int.toNat_natCast, resO0, resO1, resO2, resO3, List.getElem?_cons_zero, List.getElem?_cons_succ, Nat.reduceEqDiff, true_and, and_true, false_and, e_sn, e_ss, e_pn, e_ps, e_bb, fill0, fill1, b_add, b_sub, b_mul, b_eql, b_neq, b_lss, b_leq, b_gtr, b_geq, b_and, b_or, b_xor, b_seql, b_sneq, b_slss, at_n, at_e, at_r, ib_n, ib_r, ib_e, ib_x, reduceCtorEq, Exit.exit.injEq, initFr, Bool.true_beq, Bool.false_beq, beq_true, beq_false, one_int, one_bool, one_str, one_sl, one_slc, one_ptr, one_pn, one_if, one_map, List.length_cons, List.length_nil, Nat.reduceLT, List.all_cons, List.all_nil, Bool.and_true, Bool.true_and, and_self, bnd_none, o_int, o_bool, o_str, o_sl, o_slc, o_ptr, o_pn, o_if, o_map, cellA_of hm, hn, decide_true, decide_false, hn2, a_slsl_r (k0.at_ h2) (bnd_none k k) (bnd_some .i64 j l.length k (by omega)) (bnd_none 0 j),
        a_slsl_r (k0.at_ h2) (bnd_none k k) (bnd_none l.length k) (bnd_some .i64 j 0 l.length hj), a_st hm, Nat.sub_zero, Nat.zero_mul]
      have ht : (c.drop o).take j = cellsOf (l.take j) := by
        have := congrArg (List.take j) h3
        rw [List.take_take, Nat.min_eq_left hj] at this
        rw [this]; simp [cellsOf, List.map_take]
      have hd : (c.drop (o + j)).take (l.length - j) = cellsOf (l.drop j) := by
        have := congrArg (List.drop j) h3
        rw [List.drop_take, List.drop_drop] at this
        rw [this]; simp [cellsOf, List.map_drop]
      refine hq2 _ _ ⟨_, rfl, slc b o j k, slc b (o + j) (l.length - j) (k - j), rfl, .inr (.inr ⟨b, o, k, own, c, e, by rw [List.length_take, Nat.min_eq_left hj], by rw [List.length_take]; omega, h2, by rw [List.length_take, Nat.min_eq_left hj]; exact ht, by rw [List.length_take]; omega⟩), rfl, AHeap.get_set_same hm _, .inr (.inr ⟨b, o + j, k - j, own, c, e, by rw [List.length_drop], by rw [List.length_drop]; omega, h2, by rw [List.length_drop]; exact hd, by rw [List.length_drop]; omega⟩), Chg.set H hrn _⟩
end Go.AM.Fd
