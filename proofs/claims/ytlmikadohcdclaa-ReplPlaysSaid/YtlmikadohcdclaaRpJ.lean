/- Part of the proof: RpJ. -/
import Derived.Test.YtlmikadohcdclaaRpI
set_option linter.unusedSimpArgs false
set_option linter.unusedVariables false
namespace Go.AM.Rp
open Go.Proofs

/-! ### The plain law -/
theorem riseF_app : ∀ (l : List (Int × Int)) (p : Int) (x : Int × Int), riseF p l = true → (∀ y ∈ l, y.1 < x.1) → p < x.1 → x.1 < 64 → riseF p (l ++ [x]) = true
  | [], p, x, _, _, h1, h2 => by simp only [List.nil_append, riseF]; rw [if_neg (by omega)]
  | y :: l, p, x, h, h0, h1, h2 => by
    simp only [riseF] at h
    split at h
    · cases h
    · rename_i hc
      simp only [List.cons_append, riseF]
      rw [if_neg hc]
      exact riseF_app l y.1 x h (fun z hz => h0 z (by simp [hz])) (h0 y (by simp)) h2
theorem dp_lt (s t : List Int) : ∀ n, ∀ y ∈ dp s t n, y.1 < (n : Int)
  | 0, y, h => by simp [dp] at h
  | n + 1, y, h => by
    simp only [dp, List.mem_append] at h
    rcases h with h | h
    · have := dp_lt s t n y h; omega
    · split at h
      · simp at h
      · simp at h; subst h; simp; omega
theorem dp_rise (s t : List Int) : ∀ n, n ≤ 64 → riseF (-1) (dp s t n) = true
  | 0, _ => rfl
  | n + 1, h => by
    have ih := dp_rise s t n (by omega)
    simp only [dp]
    split
    · rw [List.append_nil]; exact ih
    · exact riseF_app _ _ _ ih (dp_lt s t n) (by simp; omega) (by simp; omega)
theorem dp_patch (s t : List Int) (hs : s.length = 64) (ht : t.length = 64) : ∀ n, n ≤ 64 → patchT s (dp s t n) = t.take n ++ s.drop n
  | 0, _ => by simp [dp, patchT]
  | n + 1, h => by
    have ih := dp_patch s t hs ht n (by omega)
    have hti : t.getD n 0 = t[n]'(by omega) := by rw [List.getD_eq_getElem?_getD, List.getElem?_eq_getElem (by omega)]; rfl
    have hsi : s.getD n 0 = s[n]'(by omega) := by rw [List.getD_eq_getElem?_getD, List.getElem?_eq_getElem (by omega)]; rfl
    have e1 : t.take (n + 1) = t.take n ++ [t[n]'(by omega)] := List.take_succ_eq_append_getElem (by omega)
    have e2 : s.drop n = s[n]'(by omega) :: s.drop (n + 1) := List.drop_eq_getElem_cons (by omega)
    have e3 : patchT s (dp s t (n + 1)) = patchT (patchT s (dp s t n)) (if t.getD n 0 = s.getD n 0 then [] else [((n : Int), t.getD n 0)]) := by
      simp only [dp, patchT, List.foldl_append]
    rw [e3, ih, hti, hsi]
    split
    · rename_i hc
      show t.take n ++ s.drop n = _
      rw [e1, e2, hc, List.append_assoc]; rfl
    · show (t.take n ++ s.drop n).set ((n : Int)).toNat (t[n]'(by omega)) = _
      rw [Int.toNat_natCast, List.set_append_right _ _ (by rw [List.length_take]; omega), List.length_take, Nat.min_eq_left (by omega), Nat.sub_self, e2, List.set_cons_zero, e1, List.append_assoc]
      rfl
theorem patch_diff {s t : S} (hs : s.t.length = 64) (h : SOK t) : patchR s (diffD s t) = (0, t) := by
  have h1 : riseF (-1) (diffD s t).l = true := dp_rise s.t t.t 64 (by omega)
  unfold patchR
  rw [if_pos h1]
  have h2 : patchT s.t (dp s.t t.t 64) = t.t := by
    rw [dp_patch s.t t.t hs h.ht 64 (by omega), List.take_of_length_le (by rw [h.ht]; omega), List.drop_of_length_le (by omega), List.append_nil]
  unfold patchS diffD
  simp only [h2]
  rw [xr_xr 64 s.a t.a h.ha, xr_xr 64 s.b t.b h.hb, xr_xr 64 s.c t.c h.hc, xr_xr 32 s.p t.p h.hp]

/-! ### Equal states -/
def Ints (l : List Value) : Prop := ∀ v ∈ l, ∃ k n, v = .int k n
theorem eqCs_self : ∀ (l : List Value), Ints l → eqCs (List.replicate l.length 1) l l = some true
  | [], _ => rfl
  | v :: l, h => by
    obtain ⟨k, n, rfl⟩ := h v (by simp)
    have := eqCs_self l (fun v hv => h v (by simp [hv]))
    simp [List.replicate, eqCs, eqC, this]
theorem SC_ints (s : S) : Ints (SC s) := by
  intro v hv
  simp only [SC, List.mem_cons, List.mem_append, List.mem_map, List.not_mem_nil, or_false] at hv
  rcases hv with rfl | rfl | rfl | ⟨n, _, rfl⟩ | rfl
  · exact ⟨_, _, rfl⟩
  · exact ⟨_, _, rfl⟩
  · exact ⟨_, _, rfl⟩
  · exact ⟨_, _, rfl⟩
  · exact ⟨_, _, rfl⟩
theorem a_eqS {s : S} (h : s.t.length = 64) (H : AHeap) : asem (.eqs O68 false (.agg (SC s).toArray) (.agg (SC s).toArray)) H = some (.bool true, H) := by
  have e := eqCs_self (SC s) (SC_ints s)
  rw [SC_len h] at e
  have e2 : eqCs O68 (SC s) (SC s) = some true := e
  simp only [asem, e2]
  rfl
theorem patchR_len {s : S} (h : s.t.length = 64) (d : D) : (patchR s d).2.t.length = 64 := by
  unfold patchR; split
  · exact (patchT_len d.l s.t).trans h
  · rfl

/-! ### Arguments -/
theorem take1 {l : List Value} {j : Nat} {x : Value} (h : (l.drop j).take 1 = [x]) : l[j]? = some x := by
  have := congrArg (fun l => l[0]?) h
  simpa using this
theorem ARstate {G : Gf} {s : List Value} (h : AR Try.prog G 26 s) : ∃ x : S, s = SC x ∧ SOK x := by
  have z22 : Try.prog.cellsOf 22 = 1 := by kernel_rfl
  have z24 : Try.prog.cellsOf 24 = 1 := by kernel_rfl
  have z5 : Try.prog.cellsOf 5 = 1 := by kernel_rfl
  have z23 : Try.prog.cellsOf 23 = 64 := by kernel_rfl
  have z26 : Try.prog.cellsOf 26 = 68 := by kernel_rfl
  obtain ⟨hl, hf⟩ := h.struct_inv Try.underlying26
  rw [z26] at hl
  have f0 : AR Try.prog G 22 ((s.drop 0).take (Try.prog.cellsOf 22)) := hf 0 _ rfl
  have f1 : AR Try.prog G 22 ((s.drop 1).take (Try.prog.cellsOf 22)) := hf 1 _ rfl
  have f2 : AR Try.prog G 22 ((s.drop 2).take (Try.prog.cellsOf 22)) := hf 2 _ rfl
  have f3 : AR Try.prog G 23 ((s.drop 3).take (Try.prog.cellsOf 23)) := hf 3 _ rfl
  have f4 : AR Try.prog G 24 ((s.drop 67).take (Try.prog.cellsOf 24)) := hf 4 _ rfl
  rw [z22] at f0 f1 f2
  rw [z23] at f3
  rw [z24] at f4
  obtain ⟨n0, g0, w0⟩ := f0.int_inv Try.underlying22
  obtain ⟨n1, g1, w1⟩ := f1.int_inv Try.underlying22
  obtain ⟨n2, g2, w2⟩ := f2.int_inv Try.underlying22
  obtain ⟨n4, g4, w4⟩ := f4.int_inv Try.underlying24
  obtain ⟨_, hA⟩ := f3.array_inv Try.underlying23
  rw [z5] at hA
  simp only [Lit.wf, Bool.and_eq_true, decide_eq_true_eq, IntKind.min, IntKind.max, IntKind.signed, IntKind.bits] at w0 w1 w2 w4
  obtain ⟨n0, rfl⟩ : ∃ m : Nat, n0 = m := ⟨n0.toNat, by simp at w0; omega⟩
  obtain ⟨n1, rfl⟩ : ∃ m : Nat, n1 = m := ⟨n1.toNat, by simp at w1; omega⟩
  obtain ⟨n2, rfl⟩ : ∃ m : Nat, n2 = m := ⟨n2.toNat, by simp at w2; omega⟩
  obtain ⟨n4, rfl⟩ : ∃ m : Nat, n4 = m := ⟨n4.toNat, by simp at w4; omega⟩
  have each : ∀ j, j < 64 → ∃ n, s[3 + j]? = some (tv n) := by
    intro j hj
    obtain ⟨n, g, _⟩ := (hA j hj).int_inv Try.underlying5
    have := take1 g
    rw [List.getElem?_take_of_lt (by omega), List.getElem?_drop, Nat.mul_one] at this
    exact ⟨n, this⟩
  obtain ⟨f, hf⟩ : ∃ f : Nat → Int, ∀ j, j < 64 → s[3 + j]? = some (tv (f j)) :=
    ⟨fun j => if h : j < 64 then (each j h).choose else 0, fun j hj => by simp only [hj, dif_pos]; exact (each j hj).choose_spec⟩
  refine ⟨⟨n0, n1, n2, (List.range 64).map f, n4⟩, ?_, ⟨by simp, (show n0 < 18446744073709551616 by simp at w0; omega), (show n1 < 18446744073709551616 by simp at w1; omega), (show n2 < 18446744073709551616 by simp at w2; omega), (show n4 < 4294967296 by simp at w4; omega)⟩⟩
  apply List.ext_getElem?
  intro i
  by_cases hi : i < 68
  · have c : i = 0 ∨ i = 1 ∨ i = 2 ∨ (3 ≤ i ∧ i < 67) ∨ i = 67 := by omega
    rcases c with rfl | rfl | rfl | ⟨c1, c2⟩ | rfl
    · rw [take1 g0]; rfl
    · rw [take1 g1]; rfl
    · rw [take1 g2]; rfl
    · obtain ⟨j, rfl⟩ : ∃ j, i = 3 + j := ⟨i - 3, by omega⟩
      rw [hf j (by omega), SC_t (by simp; omega)]
      simp
    · rw [take1 g4, SC_67 (by simp)]
  · rw [List.getElem?_eq_none (by omega), List.getElem?_eq_none (by rw [SC_len (by simp)]; omega)]
theorem two {x y : Value} {ch : List Value} (hl : ch.length = 2) (h0 : (ch.drop 0).take 1 = [x]) (h1 : (ch.drop 1).take 1 = [y]) : ch = [x, y] := by
  match ch, hl with
  | [a, b], _ => simp at h0 h1; rw [h0, h1]
theorem five {x y z w v : Value} {ch : List Value} (hl : ch.length = 5) (h0 : (ch.drop 0).take 1 = [x]) (h1 : (ch.drop 1).take 1 = [y]) (h2 : (ch.drop 2).take 1 = [z]) (h3 : (ch.drop 3).take 1 = [w]) (h4 : (ch.drop 4).take 1 = [v]) : ch = [x, y, z, w, v] := by
  match ch, hl with
  | [a, b, c, d, e], _ => simp at h0 h1 h2 h3 h4; rw [h0, h1, h2, h3, h4]
theorem ARdelta {H : AHeap} {s : List Value} (h : AR Try.prog H.get 29 s) : ∃ (d : D) (v : Value), s = D5 d.a d.b d.c d.p v ∧ TB H v d.l := by
  have z22 : Try.prog.cellsOf 22 = 1 := by kernel_rfl
  have z24 : Try.prog.cellsOf 24 = 1 := by kernel_rfl
  have z27 : Try.prog.cellsOf 27 = 1 := by kernel_rfl
  have z29 : Try.prog.cellsOf 29 = 5 := by kernel_rfl
  have z90 : Try.prog.cellsOf 90 = 2 := by kernel_rfl
  have z3 : Try.prog.cellsOf 3 = 1 := by kernel_rfl
  have z5 : Try.prog.cellsOf 5 = 1 := by kernel_rfl
  obtain ⟨hl, hf⟩ := h.struct_inv Try.underlying29
  rw [z29] at hl
  have f0 : AR Try.prog H.get 22 ((s.drop 0).take (Try.prog.cellsOf 22)) := hf 0 _ rfl
  have f1 : AR Try.prog H.get 22 ((s.drop 1).take (Try.prog.cellsOf 22)) := hf 1 _ rfl
  have f2 : AR Try.prog H.get 22 ((s.drop 2).take (Try.prog.cellsOf 22)) := hf 2 _ rfl
  have f3 : AR Try.prog H.get 24 ((s.drop 3).take (Try.prog.cellsOf 24)) := hf 3 _ rfl
  have f4 : AR Try.prog H.get 27 ((s.drop 4).take (Try.prog.cellsOf 27)) := hf 4 _ rfl
  rw [z22] at f0 f1 f2
  rw [z24] at f3
  rw [z27] at f4
  obtain ⟨n0, g0, w0⟩ := f0.int_inv Try.underlying22
  obtain ⟨n1, g1, w1⟩ := f1.int_inv Try.underlying22
  obtain ⟨n2, g2, w2⟩ := f2.int_inv Try.underlying22
  obtain ⟨n4, g4, w4⟩ := f3.int_inv Try.underlying24
  simp only [Lit.wf, Bool.and_eq_true, decide_eq_true_eq, IntKind.min, IntKind.max, IntKind.signed, IntKind.bits] at w0 w1 w2 w4
  obtain ⟨n0, rfl⟩ : ∃ m : Nat, n0 = m := ⟨n0.toNat, by simp at w0; omega⟩
  obtain ⟨n1, rfl⟩ : ∃ m : Nat, n1 = m := ⟨n1.toNat, by simp at w1; omega⟩
  obtain ⟨n2, rfl⟩ : ∃ m : Nat, n2 = m := ⟨n2.toNat, by simp at w2; omega⟩
  obtain ⟨n4, rfl⟩ : ∃ m : Nat, n4 = m := ⟨n4.toNat, by simp at w4; omega⟩
  clear w0 w1 w2 w4
  obtain ⟨v, l, hv, htb⟩ : ∃ v l, (s.drop 4).take 1 = [v] ∧ TB H v l := by
    rcases f4.slice_inv Try.underlying27 with h2 | ⟨x, hx, h2⟩ | ⟨b, n, k, c, u, h2, h3, h4, h5, h6, h7, h8⟩
    · exact ⟨_, [], h2, none, 0, rfl, fun h => absurd rfl h⟩
    · exact ⟨_, [], h2, some x, 0, rfl, fun h => absurd rfl h⟩
    · rw [z90] at h6 h7 h8
      have each : ∀ i, i < k → ∃ x : Int × Int, (c.drop (i * 2)).take 2 = [.int .i64 x.1, .int .u8 x.2] := by
        intro i hi
        obtain ⟨e1, e2⟩ := (h8 i hi).struct_inv Try.underlying90
        rw [z90] at e1
        have a0 : AR Try.prog H.get 3 ((((c.drop (i * 2)).take 2).drop 0).take (Try.prog.cellsOf 3)) := e2 0 _ rfl
        have a1 : AR Try.prog H.get 5 ((((c.drop (i * 2)).take 2).drop 1).take (Try.prog.cellsOf 5)) := e2 1 _ rfl
        rw [z3] at a0
        rw [z5] at a1
        obtain ⟨m0, b0, _⟩ := a0.int_inv Try.underlying3
        obtain ⟨m1, b1, _⟩ := a1.int_inv Try.underlying5
        exact ⟨(m0, m1), two e1 b0 b1⟩
      obtain ⟨f, hf⟩ : ∃ f : Nat → Int × Int, ∀ i, i < k → (c.drop (i * 2)).take 2 = [.int .i64 (f i).1, .int .u8 (f i).2] :=
        ⟨fun i => if h : i < k then (each i h).choose else (0, 0), fun i hi => by simp only [hi, dif_pos]; exact (each i hi).choose_spec⟩
      refine ⟨_, (List.range n).map f, h2, some ⟨b, 0, none⟩, k, by simp [slc], fun _ => ⟨b, false, false, c, u, rfl, h6, ?_⟩⟩
      have pre : ∀ m, m ≤ k → c.take (2 * m) = TC ((List.range m).map f) := by
        intro m
        induction m with
        | zero => intro _; rfl
        | succ m ih =>
          intro hm
          have h1 := ih (by omega)
          have h2 := hf m (by omega)
          rw [List.range_succ, List.map_append, TC_app, ← h1, show 2 * (m + 1) = 2 * m + 2 by omega, List.take_add, show 2 * m = m * 2 by omega, h2]
          rfl
      have := pre n h4
      simpa using this
  exact ⟨⟨n0, n1, n2, n4, l⟩, v, five hl g0 g1 g2 g4 hv, htb⟩
end Go.AM.Rp
