/- Part of the proof: RlG. -/
import Derived.Test.YtpfnnlpgodjmdaaRlF
import Derived.Test.YtpfnnlpgodjmdaaAmU3
set_option linter.unusedSimpArgs false
set_option linter.unusedVariables false
namespace Go.AM.Rl
open Go.Proofs

def Ints (l : List Value) : Prop := ∀ v ∈ l, ∃ k n, v = .int k n
theorem Ints.one {l : List Value} (h : Ints l) : l.all Value.oneCell' = true := by
  rw [List.all_eq_true]; intro v hv; obtain ⟨k, n, rfl⟩ := h v hv; rfl
theorem eqCs_self : ∀ (l : List Value), Ints l → eqCs (List.replicate l.length 1) l l = some true
  | [], _ => rfl
  | v :: l, h => by
    obtain ⟨k, n, rfl⟩ := h v (by simp)
    have := eqCs_self l (fun v hv => h v (by simp [hv]))
    simp [List.replicate, eqCs, eqC, this]
theorem eq68 (l : List Value) (h : Ints l) (hl : l.length = 68) : eqCs O68 l l = some true := by
  have := eqCs_self l h
  rw [hl] at this
  exact this

structure Inv (P : Nat) (t : St) : Prop where
  hw : t.ws.length = 68
  hi : Ints t.ws
  h0 : t.has = false → t.we = 0 ∧ t.wc = 0 ∧ t.ws = Z68
  hs : t.sil ≤ P + 1
  hc : t.cyc < 0 → t.cyc = -1

def WC (t : St) : List Value := .int .i64 t.we :: .int .i64 t.wc :: t.ws

theorem resCn {fr : List Value} {H : AHeap} {b n : Nat} {cs : List Value} (h1 : fr.getD 1 undef = ptr b 0) (h2 : rangeA H b 0 n = some cs) : resO [.cn n 1, .t 2] fr H = some (.tuple #[.agg cs.toArray, fr.getD 2 undef]) := by
  simp only [resO, resVs, RX.get, h1, ptr, celln, h2, Option.map_some]
  rfl

theorem t16 {H : AHeap} {r P : Nat} {t : St} (h : RS H r P t) : ARun Try.prog 0 16 [ptr r 0] H (.int .i64 t.ep) H := by
  suffices q : ∃ v H', ARun Try.prog 0 16 [ptr r 0] H v H' ∧ v = .int .i64 t.ep ∧ H' = H by
    obtain ⟨v, H', q, rfl, rfl⟩ := q; exact q
  refine walk2 f16_ok f16_n ?_
  intro Q hq1 hq2
  simp only [f16, W_skip, W_reg, W_seq, w_cond, cond_true, cond_false, W_block, W_exit, W_ret, W_dreg, r_nil, r_cons, r_consg, gd_true, gd_false, go_some, st_call, st_callv, d_nil, d_cons, d_consg, gdD_true, gdD_false, goD_some, goD_some', stD_call, st_mov, st_pick, st_new, st_box, st_build, st_bslice, st_load1, st_loadn, st_store1, st_storen, st_nilck, st_bin, st_eqv, st_un, st_i2i, st_s2s, st_s2b, st_b2s, st_iface, st_mkfn, st_mksl, st_slstr, st_slsl, st_faddr, st_fld1, st_fldn, st_iaddr, st_idxs, st_assert, st_extract, st_len, st_mark, sd_pick, sd_new, sd_box, sd_build, sd_bslice, sd_load1, sd_loadn, sd_store1, sd_storen, sd_nilck, sd_bin, sd_eqv, sd_un, sd_i2i, sd_s2s, sd_s2b, sd_b2s, sd_iface, sd_mkfn, sd_mksl, sd_slstr, sd_slsl, sd_faddr, sd_fld1, sd_fldn, sd_iaddr, sd_idxs, sd_assert, sd_extract, sd_len, sd_mark, sd_mov, a_mov, a_pick, a_new, a_box, a_build, a_load1, a_loadn, a_nilck, a_bin, a_eqv, a_not, a_neg, a_i2i, a_s2s, a_s2b, a_iface, a_mkfn, a_faddr, a_fld1, a_iaddr, a_assert, a_extract, a_len, a_lenc, a_lens, AOp.map, AX_fr, AX_tm, AX_c, AX_fn, AX_g, D_no, D_no', D_tm, D_tm', D_fr, D_fr', List.getD_cons_zero, List.getD_cons_succ, getD_nil', List.set_cons_zero, List.set_cons_succ, List.map_cons, List.map_nil, Option.map_some, Option.map_none, want_x, bi_tt, bi_tf, bi_ft, bi_ff, pk_t, pk_f, beq_self_eq_true, ↓reduceIte, if_true, Bool.false_eq_true, if_false, Bool.not_true, Bool.not_false, Nat.reduceAdd, Nat.add_zero, Nat.zero_add, Nat.mul_one, Int.toNat_natCast, resO0, resO1, resO2, resO3, List.getElem?_cons_zero, List.getElem?_cons_succ, Nat.reduceEqDiff, true_and, and_true, false_and, e_sn, e_ss, e_pn, e_ps, e_bb, fill0, fill1, b_add, b_sub, b_mul, b_eql, b_neq, b_lss, b_leq, b_gtr, b_geq, b_and, b_or, b_xor, b_seql, b_sneq, b_slss, at_n, at_e, at_r, ib_n, ib_r, ib_e, ib_x, reduceCtorEq, Exit.exit.injEq, initFr, Bool.true_beq, Bool.false_beq, beq_true, beq_false, one_int, one_bool, one_str, one_sl, one_slc, one_ptr, one_pn, one_if, one_map, List.length_cons, List.length_nil, Nat.reduceLT, List.all_cons, List.all_nil, Bool.and_true, Bool.true_and, and_self, bnd_none, o_int, o_bool, o_str, o_sl, o_slc, o_ptr, o_pn, o_if, o_map, cellA_of h, RC]
  exact hq2 _ _ ⟨_, rfl, rfl, rfl⟩
theorem t17 {H : AHeap} {r P : Nat} {t : St} (h : RS H r P t) : ARun Try.prog 0 17 [ptr r 0] H (.int .i64 t.pr) H := by
  suffices q : ∃ v H', ARun Try.prog 0 17 [ptr r 0] H v H' ∧ v = .int .i64 t.pr ∧ H' = H by
    obtain ⟨v, H', q, rfl, rfl⟩ := q; exact q
  refine walk2 f17_ok f17_n ?_
  intro Q hq1 hq2
  simp only [f17, W_skip, W_reg, W_seq, w_cond, cond_true, cond_false, W_block, W_exit, W_ret, W_dreg, r_nil, r_cons, r_consg, gd_true, gd_false, go_some, st_call, st_callv, d_nil, d_cons, d_consg, gdD_true, gdD_false, goD_some, goD_some', stD_call, st_mov, st_pick, st_new, st_box, st_build, st_bslice, st_load1, st_loadn, st_store1, st_storen, st_nilck, st_bin, st_eqv, st_un, st_i2i, st_s2s, st_s2b, st_b2s, st_iface, st_mkfn, st_mksl, st_slstr, st_slsl, st_faddr, st_fld1, st_fldn, st_iaddr, st_idxs, st_assert, st_extract, st_len, st_mark, sd_pick, sd_new, sd_box, sd_build, sd_bslice, sd_load1, sd_loadn, sd_store1, sd_storen, sd_nilck, sd_bin, sd_eqv, sd_un, sd_i2i, sd_s2s, sd_s2b, sd_b2s, sd_iface, sd_mkfn, sd_mksl, sd_slstr, sd_slsl, sd_faddr, sd_fld1, sd_fldn, sd_iaddr, sd_idxs, sd_assert, sd_extract, sd_len, sd_mark, sd_mov, a_mov, a_pick, a_new, a_box, a_build, a_load1, a_loadn, a_nilck, a_bin, a_eqv, a_not, a_neg, a_i2i, a_s2s, a_s2b, a_iface, a_mkfn, a_faddr, a_fld1, a_iaddr, a_assert, a_extract, a_len, a_lenc, a_lens, AOp.map, AX_fr, AX_tm, AX_c, AX_fn, AX_g, D_no, D_no', D_tm, D_tm', D_fr, D_fr', List.getD_cons_zero, List.getD_cons_succ, getD_nil', List.set_cons_zero, List.set_cons_succ, List.map_cons, List.map_nil, Option.map_some, Option.map_none, want_x, bi_tt, bi_tf, bi_ft, bi_ff, pk_t, pk_f, beq_self_eq_true, ↓reduceIte, if_true, Bool.false_eq_true, if_false, Bool.not_true, Bool.not_false, Nat.reduceAdd, Nat.add_zero, Nat.zero_add, Nat.mul_one, Int.toNat_natCast, resO0, resO1, resO2, resO3, List.getElem?_cons_zero, List.getElem?_cons_succ, Nat.reduceEqDiff, true_and, and_true, false_and, e_sn, e_ss, e_pn, e_ps, e_bb, fill0, fill1, b_add, b_sub, b_mul, b_eql, b_neq, b_lss, b_leq, b_gtr, b_geq, b_and, b_or, b_xor, b_seql, b_sneq, b_slss, at_n, at_e, at_r, ib_n, ib_r, ib_e, ib_x, reduceCtorEq, Exit.exit.injEq, initFr, Bool.true_beq, Bool.false_beq, beq_true, beq_false, one_int, one_bool, one_str, one_sl, one_slc, one_ptr, one_pn, one_if, one_map, List.length_cons, List.length_nil, Nat.reduceLT, List.all_cons, List.all_nil, Bool.and_true, Bool.true_and, and_self, bnd_none, o_int, o_bool, o_str, o_sl, o_slc, o_ptr, o_pn, o_if, o_map, cellA_of h, RC]
  exact hq2 _ _ ⟨_, rfl, rfl, rfl⟩
theorem eq6n : eqA 6 .nilIface .nilIface = some true := rfl
theorem eq6i (t : Nat) (v : Value) : eqA 6 (.iface t v) .nilIface = some false := rfl
theorem a_assert1 (t : Nat) (z v : Value) (H : AHeap) : asem (.assert t z false (.iface t v)) H = some (v, H) := by simp [asem]
theorem t20 {H : AHeap} {r P : Nat} {t : St} (h : RS H r P t) (hv : Inv P t) : ARun Try.prog 0 20 [ptr r 0] H (.int .i64 t.cyc) H := by
  suffices q : ∃ v H', ARun Try.prog 0 20 [ptr r 0] H v H' ∧ v = .int .i64 t.cyc ∧ H' = H by
    obtain ⟨v, H', q, rfl, rfl⟩ := q; exact q
  refine walk2 f20_ok f20_n ?_
  intro Q hq1 hq2
  by_cases hcy : t.cyc < 0
  · have hlv : lastV t.cyc = .nilIface := by simp only [lastV, hcy, if_true]
    simp only [f20, W_skip, W_reg, W_seq, w_cond, cond_true, cond_false, W_block, W_exit, W_ret, W_dreg, r_nil, r_cons, r_consg, gd_true, gd_false, go_some, st_call, st_callv, d_nil, d_cons, d_consg, gdD_true, gdD_false, goD_some, goD_some', stD_call, st_mov, st_pick, st_new, st_box, st_build, st_bslice, st_load1, st_loadn, st_store1, st_storen, st_nilck, st_bin, st_eqv, st_un, st_i2i, st_s2s, st_s2b, st_b2s, st_iface, st_mkfn, st_mksl, st_slstr, st_slsl, st_faddr, st_fld1, st_fldn, st_iaddr, st_idxs, st_assert, st_extract, st_len, st_mark, sd_pick, sd_new, sd_box, sd_build, sd_bslice, sd_load1, sd_loadn, sd_store1, sd_storen, sd_nilck, sd_bin, sd_eqv, sd_un, sd_i2i, sd_s2s, sd_s2b, sd_b2s, sd_iface, sd_mkfn, sd_mksl, sd_slstr, sd_slsl, sd_faddr, sd_fld1, sd_fldn, sd_iaddr, sd_idxs, sd_assert, sd_extract, sd_len, sd_mark, sd_mov, a_mov, a_pick, a_new, a_box, a_build, a_load1, a_loadn, a_nilck, a_bin, a_eqv, a_not, a_neg, a_i2i, a_s2s, a_s2b, a_iface, a_mkfn, a_faddr, a_fld1, a_iaddr, a_assert, a_extract, a_len, a_lenc, a_lens, AOp.map, AX_fr, AX_tm, AX_c, AX_fn, AX_g, D_no, D_no', D_tm, D_tm', D_fr, D_fr', List.getD_cons_zero, List.getD_cons_succ, getD_nil', List.set_cons_zero, List.set_cons_succ, List.map_cons, List.map_nil, Option.map_some, Option.map_none, want_x, bi_tt, bi_tf, bi_ft, bi_ff, pk_t, pk_f, beq_self_eq_true, ↓reduceIte, if_true, Bool.false_eq_true, if_false, Bool.not_true, Bool.not_false, Nat.reduceAdd, Nat.add_zero, Nat.zero_add, Nat.mul_one, Int.toNat_natCast, resO0, resO1, resO2, resO3, List.getElem?_cons_zero, List.getElem?_cons_succ, Nat.reduceEqDiff, true_and, and_true, false_and, e_sn, e_ss, e_pn, e_ps, e_bb, fill0, fill1, b_add, b_sub, b_mul, b_eql, b_neq, b_lss, b_leq, b_gtr, b_geq, b_and, b_or, b_xor, b_seql, b_sneq, b_slss, at_n, at_e, at_r, ib_n, ib_r, ib_e, ib_x, reduceCtorEq, Exit.exit.injEq, initFr, Bool.true_beq, Bool.false_beq, beq_true, beq_false, one_int, one_bool, one_str, one_sl, one_slc, one_ptr, one_pn, one_if, one_map, List.length_cons, List.length_nil, Nat.reduceLT, List.all_cons, List.all_nil, Bool.and_true, Bool.true_and, and_self, bnd_none, o_int, o_bool, o_str, o_sl, o_slc, o_ptr, o_pn, o_if, o_map, cellA_of h, RC, hlv, eq6n]
    exact hq2 _ _ ⟨_, rfl, by rw [hv.hc hcy]; rfl, rfl⟩
  · have hlv : lastV t.cyc = .iface 2 (.int .i64 t.cyc) := by simp only [lastV, hcy, if_false]
    simp only [f20, W_skip, W_reg, W_seq, w_cond, cond_true, cond_false, W_block, W_exit, W_ret, W_dreg, r_nil, r_cons, r_consg, gd_true, gd_false, go_some, st_call, st_callv, d_nil, d_cons, d_consg, gdD_true, gdD_false, goD_some, goD_some', stD_call, st_mov, st_pick, st_new, st_box, st_build, st_bslice, st_load1, st_loadn, st_store1, st_storen, st_nilck, st_bin, st_eqv, st_un, st_i2i, st_s2s, st_s2b, st_b2s, st_iface, st_mkfn, st_mksl, st_slstr, st_slsl, st_faddr, st_fld1, st_fldn, st_iaddr, st_idxs, st_assert, st_extract, st_len, st_mark, sd_pick, sd_new, sd_box, sd_build, sd_bslice, sd_load1, sd_loadn, sd_store1, sd_storen, sd_nilck, sd_bin, sd_eqv, sd_un, sd_i2i, sd_s2s, sd_s2b, sd_b2s, sd_iface, sd_mkfn, sd_mksl, sd_slstr, sd_slsl, sd_faddr, sd_fld1, sd_fldn, sd_iaddr, sd_idxs, sd_assert, sd_extract, sd_len, sd_mark, sd_mov, a_mov, a_pick, a_new, a_box, a_build, a_load1, a_loadn, a_nilck, a_bin, a_eqv, a_not, a_neg, a_i2i, a_s2s, a_s2b, a_iface, a_mkfn, a_faddr, a_fld1, a_iaddr, a_assert, a_extract, a_len, a_lenc, a_lens, AOp.map, AX_fr, AX_tm, AX_c, AX_fn, AX_g, D_no, D_no', D_tm, D_tm', D_fr, D_fr', List.getD_cons_zero, List.getD_cons_succ, getD_nil', List.set_cons_zero, List.set_cons_succ, List.map_cons, List.map_nil, Option.map_some, Option.map_none, want_x, bi_tt, bi_tf, bi_ft, bi_ff, pk_t, pk_f, beq_self_eq_true, ↓reduceIte, if_true, Bool.false_eq_true, if_false, Bool.not_true, Bool.not_false, Nat.reduceAdd, Nat.add_zero, Nat.zero_add, Nat.mul_one, Int.toNat_natCast, resO0, resO1, resO2, resO3, List.getElem?_cons_zero, List.getElem?_cons_succ, Nat.reduceEqDiff, true_and, and_true, false_and, e_sn, e_ss, e_pn, e_ps, e_bb, fill0, fill1, b_add, b_sub, b_mul, b_eql, b_neq, b_lss, b_leq, b_gtr, b_geq, b_and, b_or, b_xor, b_seql, b_sneq, b_slss, at_n, at_e, at_r, ib_n, ib_r, ib_e, ib_x, reduceCtorEq, Exit.exit.injEq, initFr, Bool.true_beq, Bool.false_beq, beq_true, beq_false, one_int, one_bool, one_str, one_sl, one_slc, one_ptr, one_pn, one_if, one_map, List.length_cons, List.length_nil, Nat.reduceLT, List.all_cons, List.all_nil, Bool.and_true, Bool.true_and, and_self, bnd_none, o_int, o_bool, o_str, o_sl, o_slc, o_ptr, o_pn, o_if, o_map, cellA_of h, RC, hlv, eq6i, a_assert1]
    exact hq2 _ _ ⟨_, rfl, rfl, rfl⟩

theorem var2 (H : AHeap) (a b : Nat) : asem (.storen 2 (ptr H.n 0) (.agg [.int .u64 a, .int .u32 b].toArray)) (H.alloc (.cells true false 2 [.int .u64 0, .int .u32 0] 35)) = some (undef, H.alloc (.cells true false 2 [.int .u64 a, .int .u32 b] 35)) := by
  have := a_var (H := H) (n := 2) (room := false) (esz := 2) (e := 35) (c := [.int .u64 0, .int .u32 0]) (xs := [.int .u64 a, .int .u32 b].toArray) rfl rfl (by simp [one_int])
  simpa using this
theorem var70 (H : AHeap) (l : List Value) (hl : l.length = 70) (h1 : l.all Value.oneCell' = true) : asem (.storen 70 (ptr H.n 0) (.agg l.toArray)) (H.alloc (.cells true false 70 Z70 50)) = some (undef, H.alloc (.cells true false 70 l 50)) := by
  have := a_var (H := H) (n := 70) (room := false) (esz := 70) (e := 50) (c := Z70) (xs := l.toArray) rfl (by simp [hl]) (by simpa using h1)
  simpa using this

/-- Shown. -/
theorem t19 {H : AHeap} {r P : Nat} {t : St} (h : RS H r P t) : ∃ v H', ARun Try.prog 0 19 [ptr r 0] H v H' ∧ v = .tuple #[.agg [.int .u64 t.op, .int .u32 t.pt].toArray, .bool t.stop] ∧ Keeps H H' := by
  refine walk2 f19_ok f19_n ?_
  intro Q hq1 hq2
  have hr := AHeap.get_lt h
  have k1 := (Keeps.refl H).alloc (.cells true false 2 [.int .u64 0, .int .u32 0] 35)
  have h1 := k1.at_ h
  have rg : rangeA (H.alloc (.cells true false 2 [.int .u64 0, .int .u32 0] 35)) r 6 2 = some [.int .u64 t.op, .int .u32 t.pt] := by rw [rangeA_of h1]; rfl
  have k2 := (Keeps.refl H).alloc (.cells true false 2 [.int .u64 t.op, .int .u32 t.pt] 35)
  have e1 := k1.get r hr
  have e2 := k2.get r hr
  simp only [f19, W_skip, W_reg, W_seq, w_cond, cond_true, cond_false, W_block, W_exit, W_ret, W_dreg, r_nil, r_cons, r_consg, gd_true, gd_false, go_some, st_call, st_callv, d_nil, d_cons, d_consg, gdD_true, gdD_false, goD_some, goD_some', stD_call, st_mov, st_pick, st_new, st_box, st_build, st_bslice, st_load1, st_loadn, st_store1, st_storen, st_nilck, st_bin, st_eqv, st_un, st_i2i, st_s2s, st_s2b, st_b2s, st_iface, st_mkfn, st_mksl, st_slstr, st_slsl, st_faddr, st_fld1, st_fldn, st_iaddr, st_idxs, st_assert, st_extract, st_len, st_mark, sd_pick, sd_new, sd_box, sd_build, sd_bslice, sd_load1, sd_loadn, sd_store1, sd_storen, sd_nilck, sd_bin, sd_eqv, sd_un, sd_i2i, sd_s2s, sd_s2b, sd_b2s, sd_iface, sd_mkfn, sd_mksl, sd_slstr, sd_slsl, sd_faddr, sd_fld1, sd_fldn, sd_iaddr, sd_idxs, sd_assert, sd_extract, sd_len, sd_mark, sd_mov, a_mov, a_pick, a_new, a_box, a_build, a_load1, a_loadn, a_nilck, a_bin, a_eqv, a_not, a_neg, a_i2i, a_s2s, a_s2b, a_iface, a_mkfn, a_faddr, a_fld1, a_iaddr, a_assert, a_extract, a_len, a_lenc, a_lens, AOp.map, AX_fr, AX_tm, AX_c, AX_fn, AX_g, D_no, D_no', D_tm, D_tm', D_fr, D_fr', List.getD_cons_zero, List.getD_cons_succ, getD_nil', List.set_cons_zero, List.set_cons_succ, List.map_cons, List.map_nil, Option.map_some, Option.map_none, want_x, bi_tt, bi_tf, bi_ft, bi_ff, pk_t, pk_f, beq_self_eq_true, ↓reduceIte, if_true, Bool.false_eq_true, if_false, Bool.not_true, Bool.not_false, Nat.reduceAdd, Nat.add_zero, Nat.zero_add, Nat.mul_one, Int.toNat_natCast, resO0, resO1, resO2, resO3, List.getElem?_cons_zero, List.getElem?_cons_succ, Nat.reduceEqDiff, true_and, and_true, false_and, e_sn, e_ss, e_pn, e_ps, e_bb, fill0, fill1, b_add, b_sub, b_mul, b_eql, b_neq, b_lss, b_leq, b_gtr, b_geq, b_and, b_or, b_xor, b_seql, b_sneq, b_slss, at_n, at_e, at_r, ib_n, ib_r, ib_e, ib_x, reduceCtorEq, Exit.exit.injEq, initFr, Bool.true_beq, Bool.false_beq, beq_true, beq_false, one_int, one_bool, one_str, one_sl, one_slc, one_ptr, one_pn, one_if, one_map, List.length_cons, List.length_nil, Nat.reduceLT, List.all_cons, List.all_nil, Bool.and_true, Bool.true_and, and_self, bnd_none, o_int, o_bool, o_str, o_sl, o_slc, o_ptr, o_pn, o_if, o_map, rg, cellA_of h1, RC, var2]
  refine ⟨?_, hq2 _ _ ⟨_, resCn (b := H.n) (n := 2) (cs := [.int .u64 t.op, .int .u32 t.pt]) rfl (by rw [rangeA_of (AHeap.get_alloc_new H _)]; rfl), rfl, k2⟩⟩
  simp [oblA, clsA, touchA, readsA, ptr, keepsB, olderB, AOp.map]
  rw [e1, e2]

theorem asrt {P : Nat} {t : St} (hv : Inv P t) (H : AHeap) : asem (.assert 50 (.agg Z70.toArray) true (witV t)) H = some (.tuple #[.agg (WC t).toArray, .bool t.has], H) := by
  cases hh : t.has
  · obtain ⟨h1, h2, h3⟩ := hv.h0 hh
    have : witV t = .nilIface := by simp [witV, hh]
    rw [this, a_assertN]
    have : WC t = Z70 := by simp only [WC, h1, h2, h3]; rfl
    rw [this]
  · have : witV t = .iface 50 (.agg (WC t).toArray) := by simp [witV, hh, WC]
    rw [this, a_assert]; rfl
theorem WC_len {P : Nat} {t : St} (hv : Inv P t) : (WC t).length = 70 := by simp [WC, hv.hw]
theorem WC_one {P : Nat} {t : St} (hv : Inv P t) : (WC t).all Value.oneCell' = true := by
  simp only [WC, List.all_cons, hv.hi.one, one_int]; rfl
theorem full {H : AHeap} {b n e : Nat} {l : List Value} (h : H.get b = some (.cells true false n l e)) (hl : l.length = n) : rangeA H b 0 n = some l := by
  rw [rangeA_of h, if_pos (by omega), List.drop_zero, List.take_of_length_le (by omega)]
theorem z70 : Z70.all Value.oneCell' = true := rfl

/-- Witness. -/
theorem t18 {H : AHeap} {r P : Nat} {t : St} (h : RS H r P t) (hv : Inv P t) : ∃ v H', ARun Try.prog 0 18 [ptr r 0] H v H' ∧ v = .tuple #[.agg (WC t).toArray, .bool t.has] ∧ Keeps H H' := by
  refine walk2 f18_ok f18_n ?_
  intro Q hq1 hq2
  have hr := AHeap.get_lt h
  obtain ⟨H1, hH1⟩ : ∃ X, X = H.alloc (.cells true false 70 Z70 50) := ⟨_, rfl⟩
  have k1 := (Keeps.refl H).alloc (.cells true false 70 Z70 50)
  have g1 := AHeap.get_alloc_new H (.cells true false 70 Z70 50)
  rw [← hH1] at k1 g1
  have n1 : H1.n = H.n + 1 := by rw [hH1]; rfl
  have h1 := k1.at_ h
  have v70 := var70 H1 (WC t) (WC_len hv) (WC_one hv)
  obtain ⟨H2, hH2⟩ : ∃ X, X = H1.alloc (.cells true false 70 (WC t) 50) := ⟨_, rfl⟩
  have k2 := (Keeps.refl H1).alloc (.cells true false 70 (WC t) 50)
  have g2 := AHeap.get_alloc_new H1 (.cells true false 70 (WC t) 50)
  rw [← hH2] at k2 g2 v70
  have g12 := k2.at_ g1
  have st : asem (.storen 70 (ptr H.n 0) (.agg (WC t).toArray)) H2 = some (undef, H2.set H.n (.cells true false 70 (WC t) 50)) := by
    rw [a_storen g12, if_pos ⟨by rw [show Z70.length = 70 from rfl]; omega, by simp [Value.cells, WC_len hv], by simpa [Value.cells] using WC_one hv⟩]
    simp only [List.take_zero, List.nil_append, Nat.zero_add, Value.cells]
    rw [show Z70.drop 70 = [] from rfl]
    simp
  have n2 := k2.n
  simp only [f18, W_skip, W_reg, W_seq, w_cond, cond_true, cond_false, W_block, W_exit, W_ret, W_dreg, r_nil, r_cons, r_consg, gd_true, gd_false, go_some, st_call, st_callv, d_nil, d_cons, d_consg, gdD_true, gdD_false, goD_some, goD_some', stD_call, st_mov, st_pick, st_new, st_box, st_build, st_bslice, st_load1, st_loadn, st_store1, st_storen, st_nilck, st_bin, st_eqv, st_un, st_i2i, st_s2s, st_s2b, st_b2s, st_iface, st_mkfn, st_mksl, st_slstr, st_slsl, st_faddr, st_fld1, st_fldn, st_iaddr, st_idxs, st_assert, st_extract, st_len, st_mark, sd_pick, sd_new, sd_box, sd_build, sd_bslice, sd_load1, sd_loadn, sd_store1, sd_storen, sd_nilck, sd_bin, sd_eqv, sd_un, sd_i2i, sd_s2s, sd_s2b, sd_b2s, sd_iface, sd_mkfn, sd_mksl, sd_slstr, sd_slsl, sd_faddr, sd_fld1, sd_fldn, sd_iaddr, sd_idxs, sd_assert, sd_extract, sd_len, sd_mark, sd_mov, a_mov, a_pick, a_new, a_box, a_build, a_load1, a_loadn, a_nilck, a_bin, a_eqv, a_not, a_neg, a_i2i, a_s2s, a_s2b, a_iface, a_mkfn, a_faddr, a_fld1, a_iaddr, a_assert, a_extract, a_len, a_lenc, a_lens, AOp.map, AX_fr, AX_tm, AX_c, AX_fn, AX_g, D_no, D_no', D_tm, D_tm', D_fr, D_fr', List.getD_cons_zero, List.getD_cons_succ, getD_nil', List.set_cons_zero, List.set_cons_succ, List.map_cons, List.map_nil, Option.map_some, Option.map_none, want_x, bi_tt, bi_tf, bi_ft, bi_ff, pk_t, pk_f, beq_self_eq_true, ↓reduceIte, if_true, Bool.false_eq_true, if_false, Bool.not_true, Bool.not_false, Nat.reduceAdd, Nat.add_zero, Nat.zero_add, Nat.mul_one, Int.toNat_natCast, resO0, resO1, resO2, resO3, List.getElem?_cons_zero, List.getElem?_cons_succ, Nat.reduceEqDiff, true_and, and_true, false_and, e_sn, e_ss, e_pn, e_ps, e_bb, fill0, fill1, b_add, b_sub, b_mul, b_eql, b_neq, b_lss, b_leq, b_gtr, b_geq, b_and, b_or, b_xor, b_seql, b_sneq, b_slss, at_n, at_e, at_r, ib_n, ib_r, ib_e, ib_x, reduceCtorEq, Exit.exit.injEq, initFr, Bool.true_beq, Bool.false_beq, beq_true, beq_false, one_int, one_bool, one_str, one_sl, one_slc, one_ptr, one_pn, one_if, one_map, List.length_cons, List.length_nil, Nat.reduceLT, List.all_cons, List.all_nil, Bool.and_true, Bool.true_and, and_self, bnd_none, o_int, o_bool, o_str, o_sl, o_slc, o_ptr, o_pn, o_if, o_map, z70, ← hH1, cellA_of h1, RC, asrt hv, v70, full g2 (WC_len hv), st]
  exact hq2 _ _ ⟨_, resCn (b := H.n) (n := 70) (cs := WC t) rfl (full (get1 g12 _) (WC_len hv)), rfl, (k1.trans k2).chg_trans (Chg.set H2 (by omega) _) (by simp)⟩
end Go.AM.Rl
