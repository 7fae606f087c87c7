/- Part of the proof: FdL. -/
import Derived.Test.YtfkboffbaikhoaaFdS
set_option linter.unusedSimpArgs false
set_option linter.unusedVariables false
namespace Go.AM.Fd
open Go.Proofs

/-! ### Rows of things -/
structure It where
  k : Nat
  n : Nat
  v : Value
  l : List UInt8
def tot (l : List It) : Nat := (l.map fun x => x.l.length).sum
def ItOK (H : AHeap) (x : It) : Prop := x.k < 256 ∧ x.n < 18446744073709551616 ∧ BS H x.v x.l
/-- A slice that reads as things. -/
def Its (H : AHeap) (v : Value) (its : List It) : Prop := ∃ a k, v = .slice a its.length k ∧ its.length ≤ maxLen ∧ (its ≠ [] → ∃ b c u, a = some ⟨b, 0, none⟩ ∧ H.get b = some (.cells false false 3 c u) ∧
  ∀ (i : Nat) (x : It), its[i]? = some x → (c.drop (i * 3)).take 3 = [.int .u8 x.k, .int .u64 x.n, x.v] ∧ ItOK H x)

theorem Its.keeps {H H' : AHeap} (k : Keeps H H') {v : Value} {its : List It} (h : Its H v its) : Its H' v its := by
  obtain ⟨a, c, rfl, hm, h⟩ := h
  refine ⟨a, c, rfl, hm, fun hne => ?_⟩
  obtain ⟨b, cs, u, rfl, h1, h2⟩ := h hne
  exact ⟨b, cs, u, rfl, k.at_ h1, fun i x hx => by obtain ⟨p, q1, q2, q3⟩ := h2 i x hx; exact ⟨p, q1, q2, q3.keeps k⟩⟩

theorem take3 {c : List Value} {o : Nat} {x y z : Value} (h : (c.drop o).take 3 = [x, y, z]) : o + 3 ≤ c.length ∧ c[o]? = some x ∧ c[o + 1]? = some y ∧ c[o + 2]? = some z := by
  have hl := congrArg List.length h
  simp at hl
  have g : ∀ j, j < 3 → c[o + j]? = ([x, y, z] : List Value)[j]? := fun j hj => by rw [← h, List.getElem?_take_of_lt hj, List.getElem?_drop]
  exact ⟨by omega, by simpa using g 0 (by omega), by simpa using g 1 (by omega), by simpa using g 2 (by omega)⟩

/-- The i-th thing: where it lies, and what is read there. -/
theorem Its.at_ {H : AHeap} {v : Value} {its : List It} (h : Its H v its) {i : Nat} {x : It} (hx : its[i]? = some x) : ∃ b k, v = slc b 0 its.length k ∧ rangeA H b (i * 3) 3 = some [.int .u8 x.k, .int .u64 x.n, x.v] ∧ cellA H b (i * 3 + 2) = some x.v ∧ ItOK H x := by
  obtain ⟨a, k, rfl, hm, h⟩ := h
  obtain ⟨b, c, u, rfl, h1, h2⟩ := h (fun e => by subst e; simp at hx)
  obtain ⟨p, q⟩ := h2 i x hx
  obtain ⟨r1, r2, r3, r4⟩ := take3 p
  exact ⟨b, k, rfl, by rw [rangeA_of h1, if_pos r1, p], by rw [cellA_of h1, r4], q⟩

theorem ArgIts {H : AHeap} {v : Value} (h : AV Try.prog H.get 22 v) : ∃ its, Its H v its := by
  have hz : Try.prog.cellsOf 30 = 3 := by kernel_rfl
  have hz5 : Try.prog.cellsOf 5 = 1 := by kernel_rfl
  have hz28 : Try.prog.cellsOf 28 = 1 := by kernel_rfl
  have hz25 : Try.prog.cellsOf 25 = 1 := by kernel_rfl
  rcases h.slice_inv Try.underlying22 with rfl | ⟨x, hx, rfl⟩ | ⟨b, n, k, c, u, rfl, h3, h4, h5, h6, h7, h8⟩
  · exact ⟨[], _, _, rfl, by simp, fun h => absurd rfl h⟩
  · exact ⟨[], _, _, rfl, by simp, fun h => absurd rfl h⟩
  · rw [hz] at h6 h7 h8
    have each : ∀ i, i < k → ∃ x : It, (c.drop (i * 3)).take 3 = [.int .u8 x.k, .int .u64 x.n, x.v] ∧ ItOK H x := by
      intro i hi
      obtain ⟨e1, e2⟩ := (h8 i hi).struct_inv Try.underlying30
      have f0 := e2 0 _ rfl
      have f1 := e2 1 _ rfl
      have f2 := e2 2 _ rfl
      generalize (c.drop (i * 3)).take 3 = ch at *
      rw [hz] at e1
      match ch, e1 with
      | [x, y, z], _ =>
        change AR Try.prog H.get 5 (([x, y, z].drop 0).take (Try.prog.cellsOf 5)) at f0
        change AR Try.prog H.get 28 (([x, y, z].drop 1).take (Try.prog.cellsOf 28)) at f1
        change AR Try.prog H.get 25 (([x, y, z].drop 2).take (Try.prog.cellsOf 25)) at f2
        rw [hz5] at f0
        rw [hz28] at f1
        rw [hz25] at f2
        change AR Try.prog H.get 5 [x] at f0
        change AR Try.prog H.get 28 [y] at f1
        change AR Try.prog H.get 25 [z] at f2
        obtain ⟨a, g1, g2⟩ := f0.int_inv Try.underlying5
        obtain ⟨m, g3, g4⟩ := f1.int_inv Try.underlying28
        obtain ⟨l, g5⟩ := f2.bs Try.underlying25 Try.underlying5 hz5
        cases g1; cases g3
        simp only [Lit.wf, Bool.and_eq_true, decide_eq_true_eq, IntKind.min, IntKind.max, IntKind.signed, IntKind.bits] at g2 g4
        obtain ⟨a, rfl⟩ : ∃ q : Nat, a = q := ⟨a.toNat, by simp at g2; omega⟩
        obtain ⟨m, rfl⟩ : ∃ q : Nat, m = q := ⟨m.toNat, by simp at g4; omega⟩
        exact ⟨⟨a, m, z, l⟩, rfl, (show a < 256 by simp at g2; omega), (show m < 18446744073709551616 by simp at g4; omega), g5⟩
    obtain ⟨f, hf⟩ : ∃ f : Nat → It, ∀ i, i < k → (c.drop (i * 3)).take 3 = [.int .u8 (f i).k, .int .u64 (f i).n, (f i).v] ∧ ItOK H (f i) :=
      ⟨fun i => if h : i < k then (each i h).choose else ⟨0, 0, undef, []⟩, fun i hi => by simp only [hi, dif_pos]; exact (each i hi).choose_spec⟩
    refine ⟨(List.range n).map f, some ⟨b, 0, none⟩, k, by simp [slc], by simp; omega, fun _ => ⟨b, c, u, rfl, h6, fun i x hx => ?_⟩⟩
    simp only [List.getElem?_map, Option.map_eq_some_iff] at hx
    obtain ⟨j, hj, rfl⟩ := hx
    obtain ⟨hj1, hj2⟩ := List.getElem?_eq_some_iff.1 hj
    simp at hj1 hj2
    subst hj2
    exact hf i (by omega)

theorem tot_take {its : List It} {i : Nat} {x : It} (h : its[i]? = some x) : tot (its.take (i + 1)) = tot (its.take i) + x.l.length := by
  obtain ⟨hi, rfl⟩ := List.getElem?_eq_some_iff.1 h
  unfold tot
  rw [List.take_succ_eq_append_getElem hi, List.map_append, List.sum_append]
  simp

/-- large. -/
theorem t8 {H : AHeap} {v : Value} {its : List It} (h : Its H v its) : ∃ w H', ARun Try.prog 0 8 [v] H w H' ∧ H' = H ∧ ∃ r : Bool, w = .bool r ∧ (r = false → its.length ≤ 100 ∧ tot its ≤ 3000) := by
  refine walk2 f8_ok f8_n ?_
  intro Q hq1 hq2
  have hsh := h
  obtain ⟨a, k, rfl, hm, _⟩ := hsh
  unfold maxLen at hm
  by_cases hl : (100 : Int) < (its.length : Int)
  · simp only [f8, W_skip, W_reg, W_seq, w_cond, cond_true, cond_false, W_block, W_exit, W_ret, W_dreg, r_nil, r_cons, r_consg, gd_true, gd_false, go_some, st_call, st_callv, d_nil, d_cons, d_consg, gdD_true, gdD_false, goD_some, goD_some', stD_call, st_mov, st_pick, st_new, st_box, st_build, st_bslice, st_load1, st_loadn, st_store1, st_storen, st_nilck, st_bin, st_eqv, st_un, st_i2i, st_s2s, st_s2b, st_b2s, st_iface, st_mkfn, st_mksl, st_slstr, st_slsl, st_faddr, st_fld1, st_fldn, st_iaddr, st_idxs, st_assert, st_extract, st_len, st_mark, sd_pick, sd_new, sd_box, sd_build, sd_bslice, sd_load1, sd_loadn, sd_store1, sd_storen, sd_nilck, sd_bin, sd_eqv, sd_un, sd_i2i, sd_s2s, sd_s2b, sd_b2s, sd_iface, sd_mkfn, sd_mksl, sd_slstr, sd_slsl, sd_faddr, sd_fld1, sd_fldn, sd_iaddr, sd_idxs, sd_assert, sd_extract, sd_len, sd_mark, sd_mov, a_mov, a_pick, a_new, a_box, a_build, a_load1, a_loadn, a_nilck, a_bin, a_eqv, a_not, a_neg, a_i2i, a_s2s, a_s2b, a_iface, a_mkfn, a_faddr, a_fld1, a_iaddr, a_assert, a_extract, a_len, a_lenc, a_lens, AOp.map, AX_fr, AX_tm, AX_c, AX_fn, AX_g, D_no, D_no', D_tm, D_tm', D_fr, D_fr', List.getD_cons_zero, List.getD_cons_succ, getD_nil', List.set_cons_zero, List.set_cons_succ, List.map_cons, List.map_nil, Option.map_some, Option.map_none, want_x, bi_tt, bi_tf, bi_ft, bi_ff, pk_t, pk_f, beq_self_eq_true, ↓reduceIte, if_true, Bool.false_eq_true, if_false, Bool.not_true, Bool.not_false, Nat.reduceAdd, Nat.add_zero, Nat.zero_add, Nat.mul_one, Int.toNat_natCast, resO0, resO1, resO2, resO3, List.getElem?_cons_zero, List.getElem?_cons_succ, Nat.reduceEqDiff, true_and, and_true, false_and, e_sn, e_ss, e_pn, e_ps, e_bb, fill0, fill1, b_add, b_sub, b_mul, b_eql, b_neq, b_lss, b_leq, b_gtr, b_geq, b_and, b_or, b_xor, b_seql, b_sneq, b_slss, at_n, at_e, at_r, ib_n, ib_r, ib_e, ib_x, reduceCtorEq, Exit.exit.injEq, initFr, Bool.true_beq, Bool.false_beq, beq_true, beq_false, one_int, one_bool, one_str, one_sl, one_slc, one_ptr, one_pn, one_if, one_map, List.length_cons, List.length_nil, Nat.reduceLT, List.all_cons, List.all_nil, Bool.and_true, Bool.true_and, and_self, bnd_none, o_int, o_bool, o_str, o_sl, o_slc, o_ptr, o_pn, o_if, o_map, hl, decide_true]
    exact hq2 _ _ ⟨_, rfl, rfl, true, rfl, fun h => by cases h⟩
  · simp only [f8, W_skip, W_reg, W_seq, w_cond, cond_true, cond_false, W_block, W_exit, W_ret, W_dreg, r_nil, r_cons, r_consg, gd_true, gd_false, go_some, st_call, st_callv, d_nil, d_cons, d_consg, gdD_true, gdD_false, goD_some, goD_some', stD_call, st_mov, st_pick, st_new, st_box, st_build, st_bslice, st_load1, st_loadn, st_store1, st_storen, st_nilck, st_bin, st_eqv, st_un, st_i2i, st_s2s, st_s2b, st_b2s, st_iface, st_mkfn, st_mksl, st_slstr, st_slsl, st_faddr, st_fld1, st_fldn, st_iaddr, st_idxs, st_assert, st_extract, st_len, st_mark, sd_pick, sd_new, sd_box, sd_build, sd_bslice, sd_load1, sd_loadn, sd_store1, sd_storen, sd_nilck, sd_bin, sd_eqv, sd_un, sd_i2i, sd_s2s, sd_s2b, sd_b2s, sd_iface, sd_mkfn, sd_mksl, sd_slstr, sd_slsl, sd_faddr, sd_fld1, sd_fldn, sd_iaddr, sd_idxs, sd_assert, sd_extract, sd_len, sd_mark, sd_mov, a_mov, a_pick, a_new, a_box, a_build, a_load1, a_loadn, a_nilck, a_bin, a_eqv, a_not, a_neg, a_i2i, a_s2s, a_s2b, a_iface, a_mkfn, a_faddr, a_fld1, a_iaddr, a_assert, a_extract, a_len, a_lenc, a_lens, AOp.map, AX_fr, AX_tm, AX_c, AX_fn, AX_g, D_no, D_no', D_tm, D_tm', D_fr, D_fr', List.getD_cons_zero, List.getD_cons_succ, getD_nil', List.set_cons_zero, List.set_cons_succ, List.map_cons, List.map_nil, Option.map_some, Option.map_none, want_x, bi_tt, bi_tf, bi_ft, bi_ff, pk_t, pk_f, beq_self_eq_true, ↓reduceIte, if_true, Bool.false_eq_true, if_false, Bool.not_true, Bool.not_false, Nat.reduceAdd, Nat.add_zero, Nat.zero_add, Nat.mul_one, Int.toNat_natCast, resO0, resO1, resO2, resO3, List.getElem?_cons_zero, List.getElem?_cons_succ, Nat.reduceEqDiff, true_and, and_true, false_and, e_sn, e_ss, e_pn, e_ps, e_bb, fill0, fill1, b_add, b_sub, b_mul, b_eql, b_neq, b_lss, b_leq, b_gtr, b_geq, b_and, b_or, b_xor, b_seql, b_sneq, b_slss, at_n, at_e, at_r, ib_n, ib_r, ib_e, ib_x, reduceCtorEq, Exit.exit.injEq, initFr, Bool.true_beq, Bool.false_beq, beq_true, beq_false, one_int, one_bool, one_str, one_sl, one_slc, one_ptr, one_pn, one_if, one_map, List.length_cons, List.length_nil, Nat.reduceLT, List.all_cons, List.all_nil, Bool.and_true, Bool.true_and, and_self, bnd_none, o_int, o_bool, o_str, o_sl, o_slc, o_ptr, o_pn, o_if, o_map, hl, decide_false]
    refine W_loop (fun q fr H1 => ∃ (i : Nat) (x y : Value), fr = [.slice a its.length k, .bool false, .int .i64 (tot (its.take i)), .int .i64 i, .bool false, x, y] ∧ i ≤ its.length ∧ q = its.length - i ∧ H1 = H ∧ tot (its.take i) ≤ 3000) its.length ?_ ?_
    · exact ⟨0, undef, undef, by simp [tot], by omega, by omega, rfl, by simp [tot]⟩
    · rintro q fr H1 ⟨i, x, y, rfl, h1, rfl, rfl, h2⟩
      by_cases hi : i < its.length
      · obtain ⟨b, k', e1, e2, e3, e4, e5, e6⟩ := h.at_ (List.getElem?_eq_getElem hi)
        obtain ⟨xa, xk, hxv⟩ := e6.sh
        rw [e1]
        have hi' : (i : Int) < (its.length : Int) := by omega
        have hw : IntKind.i64.wrap (3000 - (tot (its.take i) : Int)) = 3000 - (tot (its.take i) : Int) := wrap_i64 (by omega) (by omega)
        rw [hxv] at e3
        by_cases hbig : (3000 : Int) - (tot (its.take i) : Int) < (its[i].l.length : Int)
        · simp only [W_skip, W_reg, W_seq, w_cond, cond_true, cond_false, W_block, W_exit, W_ret, W_dreg, r_nil, r_cons, r_consg, gd_true, gd_false, go_some, st_call, st_callv, d_nil, d_cons, d_consg, gdD_true, gdD_false, goD_some, goD_some', stD_call, st_mov, st_pick, st_new, st_box, st_build, st_bslice, st_load1, st_loadn, st_store1, st_storen, st_nilck, st_bin, st_eqv, st_un, st_i2i, st_s2s, st_s2b, st_b2s, st_iface, st_mkfn, st_mksl, st_slstr, st_slsl, st_faddr, st_fld1, st_fldn, st_iaddr, st_idxs, st_assert, st_extract, st_len, st_mark, sd_pick, sd_new, sd_box, sd_build, sd_bslice, sd_load1, sd_loadn, sd_store1, sd_storen, sd_nilck, sd_bin, sd_eqv, sd_un, sd_i2i, sd_s2s, sd_s2b, sd_b2s, sd_iface, sd_mkfn, sd_mksl, sd_slstr, sd_slsl, sd_faddr, sd_fld1, sd_fldn, sd_iaddr, sd_idxs, sd_assert, sd_extract, sd_len, sd_mark, sd_mov, a_mov, a_pick, a_new, a_box, a_build, a_load1, a_loadn, a_nilck, a_bin, a_eqv, a_not, a_neg, a_i2i, a_s2s, a_s2b, a_iface, a_mkfn, a_faddr, a_fld1, a_iaddr, a_assert, a_extract, a_len, a_lenc, a_lens, AOp.map, AX_fr, AX_tm, AX_c, AX_fn, AX_g, D_no, D_no', D_tm, D_tm', D_fr, D_fr', List.getD_cons_zero, List.getD_cons_succ, getD_nil', List.set_cons_zero, List.set_cons_succ, List.map_cons, List.map_nil, Option.map_some, Option.map_none, want_x, bi_tt, bi_tf, bi_ft, bi_ff, pk_t, pk_f, beq_self_eq_true, ↓reduceIte, if_true, Bool.false_eq_true, if_false, Bool.not_true, Bool.not_false, Nat.reduceAdd, Nat.add_zero, Nat.zero_add, Nat.mul_one, Int.toNat_natCast, resO0, resO1, resO2, resO3, List.getElem?_cons_zero, List.getElem?_cons_succ, Nat.reduceEqDiff, true_and, and_true, false_and, e_sn, e_ss, e_pn, e_ps, e_bb, fill0, fill1, b_add, b_sub, b_mul, b_eql, b_neq, b_lss, b_leq, b_gtr, b_geq, b_and, b_or, b_xor, b_seql, b_sneq, b_slss, at_n, at_e, at_r, ib_n, ib_r, ib_e, ib_x, reduceCtorEq, Exit.exit.injEq, initFr, Bool.true_beq, Bool.false_beq, beq_true, beq_false, one_int, one_bool, one_str, one_sl, one_slc, one_ptr, one_pn, one_if, one_map, List.length_cons, List.length_nil, Nat.reduceLT, List.all_cons, List.all_nil, Bool.and_true, Bool.true_and, and_self, bnd_none, o_int, o_bool, o_str, o_sl, o_slc, o_ptr, o_pn, o_if, o_map, hi', decide_true, e3, hw, hbig, show (0 : Int) ≤ (i : Int) by omega]
          exact hq2 _ _ ⟨_, rfl, rfl, true, rfl, fun h => by cases h⟩
        · have ht := tot_take (List.getElem?_eq_getElem hi)
          have hw2 : IntKind.i64.wrap ((tot (its.take i) : Int) + (its[i].l.length : Int)) = ((tot (its.take (i + 1)) : Nat) : Int) := by rw [wrap_i64 (by omega) (by omega), ht]; push_cast; rfl
          have hw3 : IntKind.i64.wrap ((i : Int) + 1) = ((i + 1 : Nat) : Int) := by rw [wrap_i64 (by omega) (by omega)]; push_cast; rfl
          simp only [W_skip, W_reg, W_seq, w_cond, cond_true, cond_false, W_block, W_exit, W_ret, W_dreg, r_nil, r_cons, r_consg, gd_true, gd_false, go_some, st_call, st_callv, d_nil, d_cons, d_consg, gdD_true, gdD_false, goD_some, goD_some', stD_call, st_mov, st_pick, st_new, st_box, st_build, st_bslice, st_load1, st_loadn, st_store1, st_storen, st_nilck, st_bin, st_eqv, st_un, st_i2i, st_s2s, st_s2b, st_b2s, st_iface, st_mkfn, st_mksl, st_slstr, st_slsl, st_faddr, st_fld1, st_fldn, st_iaddr, st_idxs, st_assert, st_extract, st_len, st_mark, sd_pick, sd_new, sd_box, sd_build, sd_bslice, sd_load1, sd_loadn, sd_store1, sd_storen, sd_nilck, sd_bin, sd_eqv, sd_un, sd_i2i, sd_s2s, sd_s2b, sd_b2s, sd_iface, sd_mkfn, sd_mksl, sd_slstr, sd_slsl, sd_faddr, sd_fld1, sd_fldn, sd_iaddr, sd_idxs, sd_assert, sd_extract, sd_len, sd_mark, sd_mov, a_mov, a_pick, a_new, a_box, a_build, a_load1, a_loadn, a_nilck, a_bin, a_eqv, a_not, a_neg, a_i2i, a_s2s, a_s2b, a_iface, a_mkfn, a_faddr, a_fld1, a_iaddr, a_assert, a_extract, a_len, a_lenc, a_lens, AOp.map, AX_fr, AX_tm, AX_c, AX_fn, AX_g, D_no, D_no', D_tm, D_tm', D_fr, D_fr', List.getD_cons_zero, List.getD_cons_succ, getD_nil', List.set_cons_zero, List.set_cons_succ, List.map_cons, List.map_nil, Option.map_some, Option.map_none, want_x, bi_tt, bi_tf, bi_ft, bi_ff, pk_t, pk_f, beq_self_eq_true, ↓reduceIte, if_true, Bool.false_eq_true, if_false, Bool.not_true, Bool.not_false, Nat.reduceAdd, Nat.add_zero, Nat.zero_add, Nat.mul_one, Int.toNat_natCast, resO0, resO1, resO2, resO3, List.getElem?_cons_zero, List.getElem?_cons_succ, Nat.reduceEqDiff, true_and, and_true, false_and, e_sn, e_ss, e_pn, e_ps, e_bb, fill0, fill1, b_add, b_sub, b_mul, b_eql, b_neq, b_lss, b_leq, b_gtr, b_geq, b_and, b_or, b_xor, b_seql, b_sneq, b_slss, at_n, at_e, at_r, ib_n, ib_r, ib_e, ib_x, reduceCtorEq, Exit.exit.injEq, initFr, Bool.true_beq, Bool.false_beq, beq_true, beq_false, one_int, one_bool, one_str, one_sl, one_slc, one_ptr, one_pn, one_if, one_map, List.length_cons, List.length_nil, Nat.reduceLT, List.all_cons, List.all_nil, Bool.and_true, Bool.true_and, and_self, bnd_none, o_int, o_bool, o_str, o_sl, o_slc, o_ptr, o_pn, o_if, o_map, hi', decide_true, e3, hw, hbig, decide_false, show (0 : Int) ≤ (i : Int) by omega, hw2, hw3]
          refine ⟨its.length - (i + 1), by omega, i + 1, .bool true, .bool false, ?_, by omega, rfl, by rw [ht]; omega⟩
          rw [← e1]
      · have : i = its.length := by omega
        subst this
        simp only [W_skip, W_reg, W_seq, w_cond, cond_true, cond_false, W_block, W_exit, W_ret, W_dreg, r_nil, r_cons, r_consg, gd_true, gd_false, go_some, st_call, st_callv, d_nil, d_cons, d_consg, gdD_true, gdD_false, goD_some, goD_some', stD_call, st_mov, st_pick, st_new, st_box, st_build, st_bslice, st_load1, st_loadn, st_store1, st_storen, st_nilck, st_bin, st_eqv, st_un, st_i2i, st_s2s, st_s2b, st_b2s, st_iface, st_mkfn, st_mksl, st_slstr, st_slsl, st_faddr, st_fld1, st_fldn, st_iaddr, st_idxs, st_assert, st_extract, st_len, st_mark, sd_pick, sd_new, sd_box, sd_build, sd_bslice, sd_load1, sd_loadn, sd_store1, sd_storen, sd_nilck, sd_bin, sd_eqv, sd_un, sd_i2i, sd_s2s, sd_s2b, sd_b2s, sd_iface, sd_mkfn, sd_mksl, sd_slstr, sd_slsl, sd_faddr, sd_fld1, sd_fldn, sd_iaddr, sd_idxs, sd_assert, sd_extract, sd_len, sd_mark, sd_mov, a_mov, a_pick, a_new, a_box, a_build, a_load1, a_loadn, a_nilck, a_bin, a_eqv, a_not, a_neg, a_i2i, a_s2s, a_s2b, a_iface, a_mkfn, a_faddr, a_fld1, a_iaddr, a_assert, a_extract, a_len, a_lenc, a_lens, AOp.map, AX_fr, AX_tm, AX_c, AX_fn, AX_g, D_no, D_no', D_tm, D_tm', D_fr, D_fr', List.getD_cons_zero, List.getD_cons_succ, getD_nil', List.set_cons_zero, List.set_cons_succ, List.map_cons, List.map_nil, Option.map_some, Option.map_none, want_x, bi_tt, bi_tf, bi_ft, bi_ff, pk_t, pk_f, beq_self_eq_true, ↓reduceIte, if_true, Bool.false_eq_true, if_false, Bool.not_true, Bool.not_false, Nat.reduceAdd, Nat.add_zero, Nat.zero_add, Nat.mul_one, Int.toNat_natCast, resO0, resO1, resO2, resO3, List.getElem?_cons_zero, List.getElem?_cons_succ, Nat.reduceEqDiff, true_and, and_true, false_and, e_sn, e_ss, e_pn, e_ps, e_bb, fill0, fill1, b_add, b_sub, b_mul, b_eql, b_neq, b_lss, b_leq, b_gtr, b_geq, b_and, b_or, b_xor, b_seql, b_sneq, b_slss, at_n, at_e, at_r, ib_n, ib_r, ib_e, ib_x, reduceCtorEq, Exit.exit.injEq, initFr, Bool.true_beq, Bool.false_beq, beq_true, beq_false, one_int, one_bool, one_str, one_sl, one_slc, one_ptr, one_pn, one_if, one_map, List.length_cons, List.length_nil, Nat.reduceLT, List.all_cons, List.all_nil, Bool.and_true, Bool.true_and, and_self, bnd_none, o_int, o_bool, o_str, o_sl, o_slc, o_ptr, o_pn, o_if, o_map, show ¬ ((its.length : Nat) : Int) < (its.length : Int) by omega, decide_false]
        refine hq2 _ _ ⟨_, rfl, rfl, false, rfl, fun _ => ⟨by omega, ?_⟩⟩
        rw [List.take_length] at h2
        exact h2
end Go.AM.Fd
