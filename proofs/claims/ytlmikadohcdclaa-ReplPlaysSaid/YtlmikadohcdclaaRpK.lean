/- Part of the proof: RpK. -/
import Derived.Test.YtlmikadohcdclaaRpJ
import Derived.Test.YtlmikadohcdclaaRpW
set_option linter.unusedSimpArgs false
set_option linter.unusedVariables false
namespace Go.AM.Rp
open Go.Proofs

theorem works_ev : runF RpT.tab 100000 8 [] 0 .leaf isTrue = true := by kernel_rfl
theorem works_any (H : AHeap) : ARun Try.prog 0 8 [] H (.bool true) H := closed_any RpT.tab_ok works_ev H

theorem var5 (H : AHeap) (x y z w : Nat) {v : Value} (h : v.oneCell' = true) : asem (.storen 5 (ptr H.n 0) (.agg (D5 x y z w v).toArray)) (H.alloc (.cells true false 5 [.int .u64 0, .int .u64 0, .int .u64 0, .int .u32 0, .slice none 0 0] 29)) = some (undef, H.alloc (.cells true false 5 (D5 x y z w v) 29)) := by
  have := a_var (H := H) (n := 5) (room := false) (esz := 5) (e := 29) (c := [.int .u64 0, .int .u64 0, .int .u64 0, .int .u32 0, .slice none 0 0]) (xs := (D5 x y z w v).toArray) rfl rfl (by simp [D5, one_int, h])
  simpa using this
theorem var68 (H : AHeap) {s : S} (h : s.t.length = 64) : asem (.storen 68 (ptr H.n 0) (.agg (SC s).toArray)) (H.alloc (.cells true false 68 Z68 26)) = some (undef, H.alloc (.cells true false 68 (SC s) 26)) := by
  have := a_var (H := H) (n := 68) (room := false) (esz := 68) (e := 26) (c := Z68) (xs := (SC s).toArray) rfl (by simp [SC_len h]) (by simpa using SC_one s)
  simpa using this
theorem fl78 (x y z w : Nat) (l : List (Int × Int)) (v : Value) : fillA Z78 [(73, 5, .agg (D5 x y z w v).toArray)] = some (MC ⟨x, y, z, w, l⟩ v) := rfl
theorem fl78n : fillA Z78 [] = some Z78 := rfl
theorem z68 : Z68.all Value.oneCell' = true := rfl
theorem D5_one (x y z w : Nat) {v : Value} (h : v.oneCell' = true) : (D5 x y z w v).all Value.oneCell' = true := by simp [D5, one_int, h]

theorem t3 {H : AHeap} {s t : S} {d : D} {v : Value} (hs : SOK s) (ht : SOK t) (h : TB H v d.l) : ∃ r H', ARun Try.prog 0 3 [.agg (SC s).toArray, .agg (SC t).toArray, .agg (D5 d.a d.b d.c d.p v).toArray] H r H' ∧ r = .bool true := by
  refine walk2 f3_ok f3_n ?_
  intro Q hq1 hq2
  have hc1 : (Value.agg (SC s).toArray).cells.toList = SC s := by simp [Value.cells]
  have hc2 : (Value.agg (SC t).toArray).cells.toList = SC t := by simp [Value.cells]
  have hc3 : (Value.agg (D5 d.a d.b d.c d.p v).toArray).cells.toList = D5 d.a d.b d.c d.p v := by simp [Value.cells]
  obtain ⟨Ha, hHa⟩ : ∃ X, X = H.alloc (.cells true false 68 (SC s) 26) := ⟨_, rfl⟩
  have ka := (Keeps.refl H).alloc (.cells true false 68 (SC s) 26)
  have ga := AHeap.get_alloc_new H (.cells true false 68 (SC s) 26)
  rw [← hHa] at ka ga
  obtain ⟨Hb, hHb⟩ : ∃ X, X = Ha.alloc (.cells true false 68 (SC t) 26) := ⟨_, rfl⟩
  have kb := (Keeps.refl Ha).alloc (.cells true false 68 (SC t) 26)
  have gb := AHeap.get_alloc_new Ha (.cells true false 68 (SC t) 26)
  rw [← hHb] at kb gb
  obtain ⟨Hc, hHc⟩ : ∃ X, X = Hb.alloc (.cells true false 5 (D5 d.a d.b d.c d.p v) 29) := ⟨_, rfl⟩
  have kc := (Keeps.refl Hb).alloc (.cells true false 5 (D5 d.a d.b d.c d.p v) 29)
  have gc := AHeap.get_alloc_new Hb (.cells true false 5 (D5 d.a d.b d.c d.p v) 29)
  rw [← hHc] at kc gc
  have ga := kc.at_ (kb.at_ ga)
  have gb := kc.at_ gb
  have kAll := (ka.trans kb).trans kc
  have c4 : cellA Hc Hb.n 4 = some v := by rw [cellA_of gc]; rfl
  have hlen : ∀ X, asem (.len false v) X = some (.int .i64 d.l.length, X) := by obtain ⟨a, k, hv, _⟩ := h; intro X; rw [hv]; rfl
  simp only [f3, W_block, ANs, AOp.map, ↓reduceIte, Nat.reduceAdd, Nat.reduceEqDiff, reduceCtorEq, initFr, Nat.reduceLT, ANc, hc1, hc2, hc3, SC_one, D5_one _ _ _ _ h.one, ← hHa, ← hHb, ← hHc, c4, hlen]
  by_cases hl : (200 : Int) < (d.l.length : Int)
  · simp only [W_block, ANs, AOp.map, ↓reduceIte, Nat.reduceAdd, Nat.reduceEqDiff, reduceCtorEq, initFr, Nat.reduceLT, ANc, hl, decide_true]
    refine ⟨_, _, works_any _, ?_⟩
    simp only [W_block, ANs, AOp.map, ↓reduceIte, Nat.reduceAdd, Nat.reduceEqDiff, reduceCtorEq, initFr, Nat.reduceLT, ANc]
    exact hq2 _ _ ⟨_, rfl, rfl⟩
  have ls := SC_len hs.ht
  have lt := SC_len ht.ht
  simp only [W_block, ANs, AOp.map, ↓reduceIte, Nat.reduceAdd, Nat.reduceEqDiff, reduceCtorEq, initFr, Nat.reduceLT, ANc, hl, decide_false, full ga ls, full gb lt]
  obtain ⟨_, H1, r1, k1, w, rfl, tw, _⟩ := t9 (H := Hc) (s := s) (t := t) hs.ht ht.ht
  refine ⟨_, _, r1, ?_⟩
  -- what Diff told
  have v5 := var5 H1 (xr 64 s.a t.a) (xr 64 s.b t.b) (xr 64 s.c t.c) (xr 32 s.p t.p) tw.one
  obtain ⟨H2, hH2⟩ : ∃ X, X = H1.alloc (.cells true false 5 (D5 (xr 64 s.a t.a) (xr 64 s.b t.b) (xr 64 s.c t.c) (xr 32 s.p t.p) w) 29) := ⟨_, rfl⟩
  have k2 := (Keeps.refl H1).alloc (.cells true false 5 (D5 (xr 64 s.a t.a) (xr 64 s.b t.b) (xr 64 s.c t.c) (xr 32 s.p t.p) w) 29)
  have g2 := AHeap.get_alloc_new H1 (.cells true false 5 (D5 (xr 64 s.a t.a) (xr 64 s.b t.b) (xr 64 s.c t.c) (xr 32 s.p t.p) w) 29)
  rw [← hH2] at k2 g2 v5
  have k12 := k1.trans k2
  have ga2 := k12.at_ ga
  have gb2 := k12.at_ gb
  have gc2 := k12.at_ gc
  have tw2 := tw.keeps k2
  simp only [W_block, ANs, AOp.map, ↓reduceIte, Nat.reduceAdd, Nat.reduceEqDiff, reduceCtorEq, initFr, Nat.reduceLT, ANc, v5, full ga2 ls, full g2 (show (D5 (xr 64 s.a t.a) (xr 64 s.b t.b) (xr 64 s.c t.c) (xr 32 s.p t.p) w).length = 5 from rfl)]
  have hdl : (diffD s t).l.length ≤ 64 := dp_le s.t t.t 64
  have hdl' : (dp s.t t.t 64).length ≤ 100000 := Nat.le_trans (dp_le s.t t.t 64) (by omega)
  obtain ⟨_, H3, r3, rfl, k3⟩ := t10 (H := H2) (s := s) (d := diffD s t) (v := w) hs.ht tw2 (by omega)
  rw [patch_diff hs.ht ht] at r3
  refine ⟨_, _, r3, ?_⟩
  have v68 := var68 H3 ht.ht
  obtain ⟨H4, hH4⟩ : ∃ X, X = H3.alloc (.cells true false 68 (SC t) 26) := ⟨_, rfl⟩
  have k4 := (Keeps.refl H3).alloc (.cells true false 68 (SC t) 26)
  have g4 := AHeap.get_alloc_new H3 (.cells true false 68 (SC t) 26)
  rw [← hH4] at k4 g4 v68
  have k34 := k3.trans k4
  have ga4 := k34.at_ ga2
  have gb4 := k34.at_ gb2
  have gc4 := k34.at_ gc2
  have g24 := k34.at_ g2
  have tw4 := tw2.keeps k34
  have h4 := h.keeps (((kAll.trans k12).trans k34))
  simp only [W_block, ANs, AOp.map, ↓reduceIte, Nat.reduceAdd, Nat.reduceEqDiff, reduceCtorEq, initFr, Nat.reduceLT, ANc, z68, v68, full ga4 ls, full gc4 (show (D5 d.a d.b d.c d.p v).length = 5 from rfl)]
  obtain ⟨_, H5, r5, rfl, k5⟩ := t10 (H := H4) (s := s) (d := d) (v := v) hs.ht h4 (by omega)
  refine ⟨_, _, r5, ?_⟩
  have pl := patchR_len hs.ht d
  generalize hu : (patchR s d).2 = u at *
  generalize he : (patchR s d).1 = e at *
  have v68u := var68 H5 pl
  obtain ⟨H6, hH6⟩ : ∃ X, X = H5.alloc (.cells true false 68 (SC u) 26) := ⟨_, rfl⟩
  have k6 := (Keeps.refl H5).alloc (.cells true false 68 (SC u) 26)
  have g6 := AHeap.get_alloc_new H5 (.cells true false 68 (SC u) 26)
  rw [← hH6] at k6 g6 v68u
  have k56 := k5.trans k6
  have ga6 := k56.at_ ga4
  have gb6 := k56.at_ gb4
  have gc6 := k56.at_ gc4
  have g26 := k56.at_ g24
  have g46 := k56.at_ g4
  have tw6 := tw4.keeps k56
  have h6 := h4.keeps k56
  simp only [W_block, ANs, AOp.map, ↓reduceIte, Nat.reduceAdd, Nat.reduceEqDiff, reduceCtorEq, initFr, Nat.reduceLT, ANc, z68, v68u, full ga6 ls, full gc6 (show (D5 d.a d.b d.c d.p v).length = 5 from rfl), fl78 d.a d.b d.c d.p d.l v]
  obtain ⟨_, H7, r7, k7, w', rfl, tw'⟩ := t12 (H := H6) (d := d) (v := v) h6 (by omega)
  refine ⟨_, _, r7, ?_⟩
  refine ⟨by simp [oblA, clsA, touchA, readsA, ptr, keepsB]; exact k7.get _ (AHeap.get_lt ga6), ?_⟩
  simp only [W_block, ANs, AOp.map, ↓reduceIte, Nat.reduceAdd, Nat.reduceEqDiff, reduceCtorEq, initFr, Nat.reduceLT, ANc]
  obtain ⟨_, H8, r8, rfl, k8⟩ := t11 (H := H7) (s := s) (d := d) (v := w') hs.ht tw' (by omega)
  rw [hu, he] at r8
  refine ⟨_, _, r8, trivial, ?_⟩
  have v68v := var68 H8 pl
  obtain ⟨H9, hH9⟩ : ∃ X, X = H8.alloc (.cells true false 68 (SC u) 26) := ⟨_, rfl⟩
  have k9 := (Keeps.refl H8).alloc (.cells true false 68 (SC u) 26)
  have g9 := AHeap.get_alloc_new H8 (.cells true false 68 (SC u) 26)
  rw [← hH9] at k9 g9 v68v
  have k789 := (k7.trans k8).trans k9
  have ga9 := k789.at_ ga6
  have gb9 := k789.at_ gb6
  have g29 := k789.at_ g26
  have g49 := k789.at_ g46
  have g69 := k789.at_ g6
  have tw9 := tw6.keeps k789
  simp only [W_block, ANs, AOp.map, ↓reduceIte, Nat.reduceAdd, Nat.reduceEqDiff, reduceCtorEq, initFr, Nat.reduceLT, ANc, z68, v68v, full g29 (show (D5 (xr 64 s.a t.a) (xr 64 s.b t.b) (xr 64 s.c t.c) (xr 32 s.p t.p) w).length = 5 from rfl), fl78 (xr 64 s.a t.a) (xr 64 s.b t.b) (xr 64 s.c t.c) (xr 32 s.p t.p) (dp s.t t.t 64) w]
  obtain ⟨_, H10, r10, k10, w2, rfl, tw2'⟩ := t12 (H := H9) (d := diffD s t) (v := w) tw9 (by omega)
  refine ⟨_, _, r10, trivial, ?_⟩
  have ga10 := k10.at_ ga9
  have gb10 := k10.at_ gb9
  have la10 := AHeap.get_lt ga9
  have lb10 := AHeap.get_lt gb9
  simp only [W_block, ANs, AOp.map, ↓reduceIte, Nat.reduceAdd, Nat.reduceEqDiff, reduceCtorEq, initFr, Nat.reduceLT, ANc, fl78n, full ga10 ls, full gb10 lt]
  refine ⟨?_, ?_, ?_⟩
  · simp [oblA, clsA, touchA, readsA, ptr, keepsB, olderB, AOp.map]; exact ⟨la10, k10.get _ la10⟩
  · simp [oblA, clsA, touchA, readsA, ptr, keepsB, olderB, AOp.map]; exact ⟨lb10, k10.get _ lb10⟩
  obtain ⟨_, H11, r11, k11, w3, rfl, tw3⟩ := t14 (H := H10) (s := s) (t := t) hs.ht ht.ht
  refine ⟨_, _, r11, trivial, ?_⟩
  simp only [W_block, ANs, AOp.map, ↓reduceIte, Nat.reduceAdd, Nat.reduceEqDiff, reduceCtorEq, initFr, Nat.reduceLT, ANc]
  obtain ⟨_, H12, r12, rfl, k12'⟩ := t13 (H := H11) (d := diffD s t) (tw2'.keeps k11) tw3 hdl'
  refine ⟨_, _, r12, trivial, ?_⟩
  have kz := (k10.trans k11).trans k12'
  have gb12 := kz.at_ gb9
  have g412 := kz.at_ g49
  have g612 := kz.at_ g69
  have g912 := kz.at_ g9
  have lu := SC_len pl
  simp only [W_block, ANs, AOp.map, ↓reduceIte, Nat.reduceAdd, Nat.reduceEqDiff, reduceCtorEq, initFr, Nat.reduceLT, ANc, full gb12 lt, full g412 lt, full g612 lu, full g912 lu, sd_eqs, a_eqS ht.ht, a_eqS pl, show ((0 : Int) == 0) = true by rfl, beq_self_eq_true]
  refine ⟨_, _, works_any _, trivial, ?_⟩
  simp only [W_block, ANs, AOp.map, ↓reduceIte, Nat.reduceAdd, Nat.reduceEqDiff, reduceCtorEq, initFr, Nat.reduceLT, ANc]
  exact hq2 _ _ ⟨_, rfl, rfl⟩

theorem lawDiffs : ∀ H args, NoOwn H → AVs Try.prog H.get [26, 26, 29] args → ∃ H', ARun Try.prog 0 3 args H (.bool true) H' := by
  intro H args _ h
  match args, h with
  | [v0, v1, v2], ⟨h0, h1, h2, _⟩ =>
    obtain ⟨c0, rfl⟩ := h0.2.1 (by unfold isAggT; rw [Try.underlying26]; rfl)
    obtain ⟨c1, rfl⟩ := h1.2.1 (by unfold isAggT; rw [Try.underlying26]; rfl)
    obtain ⟨c2, rfl⟩ := h2.2.1 (by unfold isAggT; rw [Try.underlying29]; rfl)
    obtain ⟨s, e0, hs⟩ := ARstate h0.1
    obtain ⟨t, e1, ht⟩ := ARstate h1.1
    obtain ⟨d, v, e2, hd⟩ := ARdelta h2.1
    simp only [Value.cells] at e0 e1 e2
    have e0' : c0 = (SC s).toArray := by rw [← e0]
    have e1' : c1 = (SC t).toArray := by rw [← e1]
    have e2' : c2 = (D5 d.a d.b d.c d.p v).toArray := by rw [← e2]
    subst e0' e1' e2'
    obtain ⟨v, H', r, rfl⟩ := t3 hs ht hd
    exact ⟨H', r⟩
end Go.AM.Rp
