/- Part of the proof. -/
import Derived.Test.YtlmikadohcdclaaGBytes05
set_option linter.unusedSimpArgs false
set_option linter.unusedVariables false
set_option linter.unusedSimpArgs false
set_option linter.unusedVariables false
namespace Go.AM.Rg
open Nat (reduceAdd reduceEqDiff reduceLT reduceLeDiff reduceMul reduceSub)
open Go.Proofs Go.AM.F Go.AM.Fd
section
variable {P : Program} {ng : Nat} {KF : List Value → AHeap → Prop} {fr tm : List Value} {tr : List TE} {K H : AHeap}
theorem OB.appC {d : D} {r : List AOper} {e : Nat} {s x : Value} {l m : List UInt8} {b : Nat} {o : AO} (h : OB e H K s l) (g : K.get b = some o) (gb : blk s ≠ some b) (hx : BS K x m) (hs : l.length + m.length ≤ 1000000000)
    (hk : ∀ v' K', OB e H K' v' (l ++ m) → K'.get b = some o → blk v' ≠ some b → RW P ng r (d.frame v' fr) (d.temps v' tm) K' KF) : goR P ng (asem (.app e 1 1 s x) K) d r fr tm KF :=
  appG h.ap hx.sh hx.el (by rw [cellsOf_length, Nat.mul_one]) (by omega) (fun v' K' a c hb => hk v' K' (h.grow a c hb)
    (by rw [c.get _ (AHeap.get_lt g) (fun hm => gb (mem_blkL.1 hm))]; exact g)
    (by
      have := AHeap.get_lt g
      rcases hb with e1 | e1
      · rw [e1]; exact gb
      · rw [e1]; intro e2; cases e2; omega))
end
theorem t62o (n w : Nat) (hw : w ≤ 8) (H : AHeap) : ∃ v H', ARun Try.prog 0 62 [.int .u64 n, .int .i64 w] H v H' ∧ OB 5 H H' v (be w n) := by
  obtain ⟨v, H', r, a, k, f⟩ := t62 n w hw H
  exact ⟨v, H', r, by rw [be_length]; exact a, k, f⟩
theorem t28 {H : AHeap} {x : Ms} {v : Value} (hx : rgM x) (h : Rp.TB H v x.d.l) (hl : x.d.l.length ≤ 100000) : ∃ w H', ARun Try.prog 0 28 [.agg (cM x v).toArray] H w H' ∧ OB 5 H H' w (pM x) := by
  refine walk2 f28_ok f28_n ?_
  intro Q hq1 hq2
  have ht := hx.s.ht
  have lM := cM_len v ht
  have oM := cM_one x h.one
  have kB := (Keeps.refl H).alloc (.cells true false 78 (cM x v) 38)
  simp (disch := first | assumption | omega | (simp only [LN] <;> omega) | (simp (disch := first | assumption | omega | (simp only [LN] <;> omega)) only [row_alloc, row_set]; assumption)) only [f28, W_block, P3, ↓reduceIte, reduceAdd, reduceEqDiff, reduceCtorEq, initFr, reduceLT, clsA, reduceLeDiff, reduceMul, reduceSub, reduceIte, oM]
  obtain ⟨B, hB⟩ : ∃ X, X = H.alloc (.cells true false 78 (cM x v) 38) := ⟨_, rfl⟩
  have gB : B.get H.n = some (.cells true false 78 (cM x v) 38) := by rw [hB]; exact AHeap.get_alloc_new _ _
  have pB := AHeap.get_lt gB
  rw [← hB] at kB ⊢
  refine callK (Rp.t61 (m := M x) (toS_len ht) (h.keeps kB) hl) ?_
  rintro _ K1 ⟨rfl, k1⟩
  cases hm : Rp.mayB (M x) with
  | false =>
    simp (disch := first | assumption | omega | (simp only [LN] <;> omega) | (simp (disch := first | assumption | omega | (simp only [LN] <;> omega)) only [row_alloc, row_set]; assumption)) only [W_block, P3, ↓reduceIte, reduceAdd, reduceEqDiff, reduceCtorEq, initFr, reduceLT, clsA, reduceLeDiff, reduceMul, reduceSub, reduceIte]
    refine hq2 _ _ ⟨_, rfl, ?_⟩
    rw [show pM x = [] by unfold pM; rw [hm]; rfl]
    exact ⟨.inl ⟨rfl, rfl, rfl⟩, kB.trans k1, fun b hb => by cases hb⟩
  | true =>
    obtain ⟨m1, m2, m3, m4, m5, m6, m7, m8⟩ := may_inv hm
    have ep : pM x = enM x := by unfold pM; rw [hm]; rfl
    rw [ep] at hq2
    have g1 := k1.at_ gB
    have hk := hx.k
    simp (disch := first | assumption | omega | (simp only [LN] <;> omega) | (simp (disch := first | assumption | omega | (simp only [LN] <;> omega)) only [row_alloc, row_set]; assumption)) only [W_block, P3, ↓reduceIte, reduceAdd, reduceEqDiff, reduceCtorEq, initFr, reduceLT, clsA, reduceLeDiff, reduceMul, reduceSub, reduceIte, g1, cM_0, fillu1]
    obtain ⟨K2, hK2⟩ : ∃ X, X = K1.alloc (.cells true false 1 [.int .u8 (x.k : Nat)] 5) := ⟨_, rfl⟩
    have o2 : OB 5 B K2 (slc K1.n 0 1 1) [UInt8.ofNat x.k] := by rw [hK2]; exact OB.lit k1 (cells1 hk) rfl rfl false
    rw [← hK2]
    have g2 := o2.k.at_ gB
    simp (disch := first | assumption | omega | (simp only [LN] <;> omega) | (simp (disch := first | assumption | omega | (simp only [LN] <;> omega)) only [row_alloc, row_set]; assumption)) only [W_block, P3, ↓reduceIte, reduceAdd, reduceEqDiff, reduceCtorEq, initFr, reduceLT, clsA, reduceLeDiff, reduceMul, reduceSub, reduceIte, g2, cM_0, cM_1, cM_2, cM_3, cM_4, fill4i]
    obtain ⟨L, hL⟩ : ∃ L, L = [x.e, x.c, x.be, x.b] := ⟨_, rfl⟩
    have lL : L.length = 4 := by rw [hL]; rfl
    have cL : ∀ n ∈ L, cyB n = true := by rw [hL]; simp [m3, m4, m5, m6]
    have eL : ([.int .i64 x.e, .int .i64 x.c, .int .i64 x.be, .int .i64 x.b] : List Value) = L.map (Value.int .i64) := by rw [hL]; rfl
    rw [eL]
    obtain ⟨K3, hK3⟩ : ∃ X, X = K2.alloc (.cells true false 1 (L.map (Value.int .i64)) 2) := ⟨_, rfl⟩
    have k3 : Keeps K2 K3 := by rw [hK3]; exact (Keeps.refl K2).alloc _
    have gL : K3.get K2.n = some (.cells true false 1 (L.map (Value.int .i64)) 2) := by rw [hK3]; exact AHeap.get_alloc_new _ _
    have n2 : K2.n = K1.n + 1 := by rw [hK2, alloc_n]
    have o3 : OB 5 B K3 (slc K1.n 0 1 1) (be 1 x.k) := by rw [be1]; exact o2.keeps k3
    rw [← hK3]
    refine W_loop2 (fun q fr K => ∃ (i : Nat) (w e8 : Value), i ≤ 4 ∧ q = 4 - i ∧ OB 5 B K w (be 1 x.k ++ nsB (L.take i)) ∧ K.get K2.n = some (.cells true false 1 (L.map (Value.int .i64)) 2) ∧ blk w ≠ some K2.n ∧ fr = [.agg (cM x v).toArray, ptr H.n 0, .slice none 0 0, w, slc K2.n 0 4 4, .int .i64 i, undef, .bool false, e8, undef, undef, undef]) 4 ⟨0, _, _, by omega, rfl, by simpa [nsB] using o3, gL, by rw [n2]; intro e; have e : K1.n = K1.n + 1 := Option.some.inj e; omega, rfl⟩ ?_
    rintro Q' q fr K ⟨i, w, e8, hi, rfl, ow, gK, bw, rfl⟩ hnx hex hrt
    by_cases hc : i < 4
    · have hn := cL _ (List.getElem_mem (show i < L.length by omega))
      have eLi : (List.map (Value.int .i64) L)[i]? = some (.int .i64 L[i]) := by simp [lL, hc]
      simp (disch := first | assumption | omega | (simp only [LN] <;> omega) | (simp (disch := first | assumption | omega | (simp only [LN] <;> omega)) only [row_alloc, row_set]; assumption)) only [W_block, P3, ↓reduceIte, reduceAdd, reduceEqDiff, reduceCtorEq, initFr, reduceLT, clsA, reduceLeDiff, reduceMul, reduceSub, reduceIte, gK, cy_nat hn, eLi]
      refine callK (t62o _ 8 (by omega) K) ?_
      rintro w1 K4 o4
      have g4 := o4.k.at_ gK
      simp (disch := first | assumption | omega | (simp only [LN] <;> omega) | (simp (disch := first | assumption | omega | (simp only [LN] <;> omega)) only [row_alloc, row_set]; assumption)) only [W_block, P3, ↓reduceIte, reduceAdd, reduceEqDiff, reduceCtorEq, initFr, reduceLT, clsA, reduceLeDiff, reduceMul, reduceSub, reduceIte]
      refine OB.appC (ow.keeps o4.k) g4 bw o4.bs (by rw [List.length_append, nsB_len, List.length_take, be_length, be_length]; omega) ?_
      intro w5 K5 o5 g5 b5
      simp (disch := first | assumption | omega | (simp only [LN] <;> omega) | (simp (disch := first | assumption | omega | (simp only [LN] <;> omega)) only [row_alloc, row_set]; assumption)) only [W_block, P3, ↓reduceIte, reduceAdd, reduceEqDiff, reduceCtorEq, initFr, reduceLT, clsA, reduceLeDiff, reduceMul, reduceSub, reduceIte, wrap_succ (n := i) (by omega)]
      refine hnx _ _ _ ⟨i + 1, _, _, by omega, rfl, ?_, g5, b5, rfl⟩ (by omega)
      rw [List.take_succ_eq_append_getElem (by omega), nsB_app]
      simpa [nsB, List.append_assoc] using o5
    have hi4 : i = 4 := by omega
    subst hi4
    simp (disch := first | assumption | omega | (simp only [LN] <;> omega) | (simp (disch := first | assumption | omega | (simp only [LN] <;> omega)) only [row_alloc, row_set]; assumption)) only [W_block, P3, ↓reduceIte, reduceAdd, reduceEqDiff, reduceCtorEq, initFr, reduceLT, clsA, reduceLeDiff, reduceMul, reduceSub, reduceIte]
    refine hex _ _ _ ?_
    rw [List.take_of_length_le (by omega), hL] at ow
    have ow : OB 5 B K w (hdM x) := ow
    have g4 := ow.k.at_ gB
    simp (disch := first | assumption | omega | (simp only [LN] <;> omega) | (simp (disch := first | assumption | omega | (simp only [LN] <;> omega)) only [row_alloc, row_set]; assumption)) only [W_block, P3, ↓reduceIte, reduceAdd, reduceEqDiff, reduceCtorEq, initFr, reduceLT, clsA, reduceLeDiff, reduceMul, reduceSub, reduceIte, g4, cM_0]
    by_cases h1 : x.k = 1
    · have ee : enM x = hdM x ++ fSt x.s := by unfold enM; rw [if_pos h1]
      rw [ee] at hq2
      simp (disch := first | assumption | omega | (simp only [LN] <;> omega) | (simp (disch := first | assumption | omega | (simp only [LN] <;> omega)) only [row_alloc, row_set]; assumption)) only [W_block, P3, ↓reduceIte, reduceAdd, reduceEqDiff, reduceCtorEq, initFr, reduceLT, clsA, reduceLeDiff, reduceMul, reduceSub, reduceIte, h1, g4, cM_s]
      refine callK (t63 x.s hx.s K) ?_
      rintro w5 K5 o5
      simp (disch := first | assumption | omega | (simp only [LN] <;> omega) | (simp (disch := first | assumption | omega | (simp only [LN] <;> omega)) only [row_alloc, row_set]; assumption)) only [W_block, P3, ↓reduceIte, reduceAdd, reduceEqDiff, reduceCtorEq, initFr, reduceLT, clsA, reduceLeDiff, reduceMul, reduceSub, reduceIte]
      refine (ow.keeps o5.k).appR o5.bs (by rw [hdM_len, fSt_len ht]; omega) ?_
      intro w6 K6 o6
      have g6 := o6.k.at_ gB
      simp (disch := first | assumption | omega | (simp only [LN] <;> omega) | (simp (disch := first | assumption | omega | (simp only [LN] <;> omega)) only [row_alloc, row_set]; assumption)) only [W_block, P3, ↓reduceIte, reduceAdd, reduceEqDiff, reduceCtorEq, initFr, reduceLT, clsA, reduceLeDiff, reduceMul, reduceSub, reduceIte, g6, cM_0, h1]
      exact hq2 _ _ ⟨_, rfl, o6.base kB⟩
    by_cases h2 : x.k = 2
    · have ee : enM x = hdM x ++ dB x.d := by unfold enM; rw [if_neg h1, if_pos h2]
      rw [ee] at hq2
      simp (disch := first | assumption | omega | (simp only [LN] <;> omega) | (simp (disch := first | assumption | omega | (simp only [LN] <;> omega)) only [row_alloc, row_set]; assumption)) only [W_block, P3, ↓reduceIte, reduceAdd, reduceEqDiff, reduceCtorEq, initFr, reduceLT, clsA, reduceLeDiff, reduceMul, reduceSub, reduceIte, h2, g4, cM_0, cM_73]
      refine callK (t62o _ 8 (by omega) K) ?_
      rintro w5 L5 p5
      simp (disch := first | assumption | omega | (simp only [LN] <;> omega) | (simp (disch := first | assumption | omega | (simp only [LN] <;> omega)) only [row_alloc, row_set]; assumption)) only [W_block, P3, ↓reduceIte, reduceAdd, reduceEqDiff, reduceCtorEq, initFr, reduceLT, clsA, reduceLeDiff, reduceMul, reduceSub, reduceIte]
      refine (ow.keeps p5.k).appR p5.bs (by simp only [List.length_append, hdM_len, be_length]; omega) ?_
      intro v5 K5 o5
      have g5 := o5.k.at_ gB
      simp (disch := first | assumption | omega | (simp only [LN] <;> omega) | (simp (disch := first | assumption | omega | (simp only [LN] <;> omega)) only [row_alloc, row_set]; assumption)) only [W_block, P3, ↓reduceIte, reduceAdd, reduceEqDiff, reduceCtorEq, initFr, reduceLT, clsA, reduceLeDiff, reduceMul, reduceSub, reduceIte, g5, cM_74]
      refine callK (t62o _ 8 (by omega) K5) ?_
      rintro w6 L6 p6
      simp (disch := first | assumption | omega | (simp only [LN] <;> omega) | (simp (disch := first | assumption | omega | (simp only [LN] <;> omega)) only [row_alloc, row_set]; assumption)) only [W_block, P3, ↓reduceIte, reduceAdd, reduceEqDiff, reduceCtorEq, initFr, reduceLT, clsA, reduceLeDiff, reduceMul, reduceSub, reduceIte]
      refine (o5.keeps p6.k).appR p6.bs (by simp only [List.length_append, hdM_len, be_length]; omega) ?_
      intro v6 K6 o6
      have g6 := o6.k.at_ gB
      simp (disch := first | assumption | omega | (simp only [LN] <;> omega) | (simp (disch := first | assumption | omega | (simp only [LN] <;> omega)) only [row_alloc, row_set]; assumption)) only [W_block, P3, ↓reduceIte, reduceAdd, reduceEqDiff, reduceCtorEq, initFr, reduceLT, clsA, reduceLeDiff, reduceMul, reduceSub, reduceIte, g6, cM_75]
      refine callK (t62o _ 8 (by omega) K6) ?_
      rintro w7 L7 p7
      simp (disch := first | assumption | omega | (simp only [LN] <;> omega) | (simp (disch := first | assumption | omega | (simp only [LN] <;> omega)) only [row_alloc, row_set]; assumption)) only [W_block, P3, ↓reduceIte, reduceAdd, reduceEqDiff, reduceCtorEq, initFr, reduceLT, clsA, reduceLeDiff, reduceMul, reduceSub, reduceIte]
      refine (o6.keeps p7.k).appR p7.bs (by simp only [List.length_append, hdM_len, be_length]; omega) ?_
      intro v7 K7 o7
      have g7 := o7.k.at_ gB
      have hp := hx.dp
      simp (disch := first | assumption | omega | (simp only [LN] <;> omega) | (simp (disch := first | assumption | omega | (simp only [LN] <;> omega)) only [row_alloc, row_set]; assumption)) only [W_block, P3, ↓reduceIte, reduceAdd, reduceEqDiff, reduceCtorEq, initFr, reduceLT, clsA, reduceLeDiff, reduceMul, reduceSub, reduceIte, g7, cM_76, u64w (show x.d.p < 18446744073709551616 by omega)]
      refine callK (t62o _ 4 (by omega) K7) ?_
      rintro w8 L8 p8
      simp (disch := first | assumption | omega | (simp only [LN] <;> omega) | (simp (disch := first | assumption | omega | (simp only [LN] <;> omega)) only [row_alloc, row_set]; assumption)) only [W_block, P3, ↓reduceIte, reduceAdd, reduceEqDiff, reduceCtorEq, initFr, reduceLT, clsA, reduceLeDiff, reduceMul, reduceSub, reduceIte]
      refine (o7.keeps p8.k).appR p8.bs (by simp only [List.length_append, hdM_len, be_length]; omega) ?_
      intro v8 K8 o8
      have g8 := o8.k.at_ gB
      have hv6 := TB_len h
      have hv61 := hv6.1
      have hv62 := hv6.2
      have wl : IntKind.u8.wrap (x.d.l.length : Nat) = (x.d.l.length : Nat) := by rw [wrap_u8]; omega
      simp (disch := first | assumption | omega | (simp only [LN] <;> omega) | (simp (disch := first | assumption | omega | (simp only [LN] <;> omega)) only [row_alloc, row_set]; assumption)) only [W_block, P3, ↓reduceIte, reduceAdd, reduceEqDiff, reduceCtorEq, initFr, reduceLT, clsA, reduceLeDiff, reduceMul, reduceSub, reduceIte, g8, cM_77, hv62, wl, fillu1]
      have o9 : OB 5 B (K8.alloc (.cells true false 1 [.int .u8 (x.d.l.length : Nat)] 5)) (slc K8.n 0 1 1) [UInt8.ofNat x.d.l.length] := OB.lit o8.k (cells1 (show x.d.l.length < 256 by omega)) rfl rfl false
      refine (o8.keeps ((Keeps.refl K8).alloc _)).appR o9.bs (by simp only [List.length_append, List.length_cons, List.length_nil, hdM_len, be_length]; omega) ?_
      intro v10 K10 o10
      simp (disch := first | assumption | omega | (simp only [LN] <;> omega) | (simp (disch := first | assumption | omega | (simp only [LN] <;> omega)) only [row_alloc, row_set]; assumption)) only [W_block, P3, ↓reduceIte, reduceAdd, reduceEqDiff, reduceCtorEq, initFr, reduceLT, clsA, reduceLeDiff, reduceMul, reduceSub, reduceIte]
      have hr := Rp.rise_in x.d.l (-1) (by omega) m7
      obtain ⟨Z, hZ⟩ : ∃ Z, Z = hdM x ++ be 8 x.d.a ++ be 8 x.d.b ++ be 8 x.d.c ++ be 4 x.d.p ++ [UInt8.ofNat x.d.l.length] := ⟨_, rfl⟩
      rw [← hZ] at o10
      have lZ : Z.length = 62 := by rw [hZ]; simp only [List.length_append, hdM_len, be_length, List.length_cons, List.length_nil]
      refine W_loop2 (fun q fr K => ∃ (i : Nat) (w e11 : Value), i ≤ x.d.l.length ∧ q = x.d.l.length - i ∧ OB 5 B K w (Z ++ tB (x.d.l.take i)) ∧ fr = [.agg (cM x v).toArray, ptr H.n 0, .slice none 0 0, w, slc K2.n 0 4 4, .int .i64 4, .int .i64 i, .bool false, .bool false, .bool false, .bool true, e11]) x.d.l.length ⟨0, _, _, by omega, rfl, by simpa [tB] using o10, rfl⟩ ?_
      rintro Q2 q fr K ⟨i, w, e11, hi, rfl, ot, rfl⟩ hnx2 hex2 hrt2
      have gt := ot.k.at_ gB
      by_cases hc2 : i < x.d.l.length
      · have hsl := TB_sl (h.keeps (kB.trans ot.k)) (by intro e; rw [e] at hc2; simp at hc2)
        obtain ⟨hnn, hrow⟩ := hsl.at_ (by omega) (i := i) (by rw [List.length_map]; exact hc2)
        rw [List.getElem_map] at hrow
        have hm1 := hr _ (List.getElem_mem hc2)
        have hm2 := hx.l _ (List.getElem_mem hc2)
        have w1 : IntKind.u8.wrap (x.d.l[i]).1 = ((x.d.l[i]).1.toNat : Nat) := by rw [wrap_u8]; omega
        have w2' : (x.d.l[i]).2 = ((x.d.l[i]).2.toNat : Nat) := by omega
        unfold tR at hrow
        simp (disch := first | assumption | omega | (simp only [LN] <;> omega) | (simp (disch := first | assumption | omega | (simp only [LN] <;> omega)) only [row_alloc, row_set]; assumption)) only [W_block, P3, ↓reduceIte, reduceAdd, reduceEqDiff, reduceCtorEq, initFr, reduceLT, clsA, reduceLeDiff, reduceMul, reduceSub, reduceIte, gt, cM_77, hv62, hrow, w1, fillu2]
        have o5 : OB 5 B (K.alloc (.cells true false 1 [.int .u8 ((x.d.l[i]).1.toNat : Nat), .int .u8 ((x.d.l[i]).2.toNat : Nat)] 5)) (slc K.n 0 2 2) [UInt8.ofNat (x.d.l[i]).1.toNat, UInt8.ofNat (x.d.l[i]).2.toNat] := OB.lit ot.k (cells2 (by omega) (by omega)) rfl rfl false
        rw [w2']
        refine (ot.keeps ((Keeps.refl K).alloc _)).appD o5.bs (by simp only [List.length_append, List.length_cons, List.length_nil, lZ, tB_len, List.length_take]; omega) ?_
        intro v6 K6 o6
        simp (disch := first | assumption | omega | (simp only [LN] <;> omega) | (simp (disch := first | assumption | omega | (simp only [LN] <;> omega)) only [row_alloc, row_set]; assumption)) only [W_block, P3, ↓reduceIte, reduceAdd, reduceEqDiff, reduceCtorEq, initFr, reduceLT, clsA, reduceLeDiff, reduceMul, reduceSub, reduceIte, wrap_succ (n := i) (by omega)]
        refine hnx2 _ _ _ ⟨i + 1, _, _, by omega, rfl, ?_, rfl⟩ (by omega)
        rw [List.take_succ_eq_append_getElem hc2, tB_app]
        simpa [tB, be1, List.append_assoc] using o6
      · have hil : i = x.d.l.length := by omega
        subst hil
        simp (disch := first | assumption | omega | (simp only [LN] <;> omega) | (simp (disch := first | assumption | omega | (simp only [LN] <;> omega)) only [row_alloc, row_set]; assumption)) only [W_block, P3, ↓reduceIte, reduceAdd, reduceEqDiff, reduceCtorEq, initFr, reduceLT, clsA, reduceLeDiff, reduceMul, reduceSub, reduceIte, gt, cM_77, hv62]
        refine hex2 _ _ _ ?_
        rw [List.take_of_length_le (Nat.le_refl _)] at ot
        simp (disch := first | assumption | omega | (simp only [LN] <;> omega) | (simp (disch := first | assumption | omega | (simp only [LN] <;> omega)) only [row_alloc, row_set]; assumption)) only [W_block, P3, ↓reduceIte, reduceAdd, reduceEqDiff, reduceCtorEq, initFr, reduceLT, clsA, reduceLeDiff, reduceMul, reduceSub, reduceIte]
        refine hq2 _ _ ⟨_, rfl, ?_⟩
        have ez : hdM x ++ dB x.d = Z ++ tB x.d.l := by
          rw [hZ]
          simp only [dB, be1, List.append_assoc]
        rw [ez]
        exact ot.base kB
    · have ee : enM x = hdM x := by unfold enM; rw [if_neg h1, if_neg h2, List.append_nil]
      rw [ee] at hq2
      simp (disch := first | assumption | omega | (simp only [LN] <;> omega) | (simp (disch := first | assumption | omega | (simp only [LN] <;> omega)) only [row_alloc, row_set]; assumption)) only [W_block, P3, ↓reduceIte, reduceAdd, reduceEqDiff, reduceCtorEq, initFr, reduceLT, clsA, reduceLeDiff, reduceMul, reduceSub, reduceIte, g4, cM_0, show ¬ ((x.k : Nat) : Int) = 1 by omega, show ¬ ((x.k : Nat) : Int) = 2 by omega]
      exact hq2 _ _ ⟨_, rfl, ow.base kB⟩
end Go.AM.Rg

set_option linter.unusedSimpArgs false
set_option linter.unusedVariables false
namespace Go.AM.Rg
open Nat (reduceAdd reduceEqDiff reduceLT reduceLeDiff reduceMul reduceSub)
open Go.Proofs Go.AM.F Go.AM.Fd
def tmL (b : List UInt8) (n : Nat) : List (Int × Int) := (List.range n).map fun i => ((na b (62 + 2 * i) 1 : Nat), (na b (62 + 2 * i + 1) 1 : Nat))
theorem tmL_len (b : List UInt8) (n : Nat) : (tmL b n).length = n := by simp [tmL]
theorem tmL_succ (b : List UInt8) (n : Nat) : tmL b (n + 1) = tmL b n ++ [(((na b (62 + 2 * n) 1 : Nat) : Int), ((na b (62 + 2 * n + 1) 1 : Nat) : Int))] := by
  unfold tmL; rw [List.range_succ, List.map_append]; rfl
theorem tmL_in {b : List UInt8} {n : Nat} {t : Int × Int} (h : t ∈ tmL b n) : 0 ≤ t.1 ∧ t.1 < 256 ∧ 0 ≤ t.2 ∧ t.2 < 256 := by
  simp only [tmL, List.mem_map] at h
  obtain ⟨i, _, rfl⟩ := h
  have h1 := na1 b (62 + 2 * i)
  have h2 := na1 b (62 + 2 * i + 1)
  exact ⟨by show (0 : Int) ≤ _; omega, by show _ < (256 : Int); omega, by show (0 : Int) ≤ _; omega, by show _ < (256 : Int); omega⟩
def iw (n : Nat) : Int := IntKind.i64.wrap (n : Nat)
theorem iw_b (n : Nat) : i64B (iw n) := by
  unfold i64B iw
  simp only [IntKind.wrap, IntKind.bits, IntKind.signed]
  simp
  split <;> omega
def D0 : Rp.D := ⟨0, 0, 0, 0, []⟩
def hM (b : List UInt8) : Ms := ⟨na b 0 1, iw (na b 1 8), iw (na b 9 8), iw (na b 17 8), iw (na b 25 8), St0, D0⟩
def nT (b : List UInt8) : Nat := na b 61 1
def dM (b : List UInt8) : Rp.D := ⟨na b 33 8, na b 41 8, na b 49 8, na b 57 4, tmL b (nT b)⟩
def gS (b : List UInt8) : Option St := geSt (b.drop 33)
def rdM (b : List UInt8) : Ms := if (hM b).k = 1 then { hM b with s := (gS b).getD St0 } else if (hM b).k = 2 then { hM b with d := dM b } else hM b
def zz (x y : Int) : Bool := decide (x = 0) && decide (y = 0)
def okM (b : List UInt8) : Bool :=
  (decide ((hM b).k = 1) && ((gS b).isSome && zz (hM b).be (hM b).b)) || decide ((hM b).k = 2) || (decide ((hM b).k = 3) && zz (hM b).be (hM b).b) || (decide ((hM b).k = 4) && (zz (hM b).be (hM b).b && zz (hM b).e (hM b).c))
def geM (b : List UInt8) : Option Ms := if 33 ≤ b.length ∧ okM b = true ∧ pM (rdM b) = b then some (rdM b) else none
theorem rgD0 : ∀ t ∈ D0.l, i64B t.1 ∧ 0 ≤ t.2 ∧ t.2 < 256 := fun t h => by cases h
theorem rgSt0 : rgSt St0 := ⟨rfl, by decide, by decide, by decide, by decide⟩
theorem gS_rg (b : List UInt8) : rgSt ((gS b).getD St0) := by
  unfold gS
  cases h : geSt (b.drop 33) with
  | none => exact rgSt0
  | some y => exact (geSt_some h).2.1
theorem rdM_rg (b : List UInt8) : rgM (rdM b) := by
  unfold rdM
  split
  · exact ⟨na1 b 0, iw_b _, iw_b _, iw_b _, iw_b _, gS_rg b, (by decide : 0 < 18446744073709551616), (by decide : 0 < 18446744073709551616), (by decide : 0 < 18446744073709551616), (by decide : 0 < 4294967296), rgD0⟩
  split
  · refine ⟨na1 b 0, iw_b _, iw_b _, iw_b _, iw_b _, rgSt0, na8 b 33, na8 b 41, na8 b 49, na4 b 57, fun t ht => ?_⟩
    have := tmL_in ht
    exact ⟨⟨by omega, by omega⟩, by omega, by omega⟩
  · exact ⟨na1 b 0, iw_b _, iw_b _, iw_b _, iw_b _, rgSt0, (by decide : 0 < 18446744073709551616), (by decide : 0 < 18446744073709551616), (by decide : 0 < 18446744073709551616), (by decide : 0 < 4294967296), rgD0⟩
theorem rdM_len (b : List UInt8) : (rdM b).d.l.length ≤ 255 := by
  have h1 := na1 b 61
  unfold rdM
  split
  · exact Nat.zero_le _
  split
  · show (tmL b (nT b)).length ≤ 255
    rw [tmL_len]; unfold nT; omega
  · exact Nat.zero_le _
section
variable {x : Ms} (h : x.s.t.length = 64) (v : Value)
include h
theorem cM_sets (s : St) : (cM x v).take 5 ++ cSt s ++ (cM x v).drop 73 = cM { x with s := s } v := by
  rw [← toS_c s]
  have h1 : (Rp.SC (toS x.s)).length = 68 := Rp.SC_len (toS_len h)
  simp only [cM, Rp.GC, M, List.take_succ_cons, List.take_zero, List.drop_succ_cons, List.cons_append, List.nil_append]
  rw [List.drop_append_of_le_length (by omega), List.drop_of_length_le (by omega)]
  rfl
theorem cM_MP : ∃ p : Rp.Pre, ∀ (d : Rp.D) (v : Value), cM { x with d := d } v = Rp.MP p d v := ⟨Rp.pre (M x) (toS_len h), fun d v => rfl⟩
theorem cM_set73 (n : Nat) : (cM x v).set 73 (.int .u64 n) = cM { x with d := { x.d with a := n } } v := by
  obtain ⟨p, hp⟩ := cM_MP h; have h1 : cM x v = _ := hp x.d v; rw [h1, hp]; exact Rp.MP_set73 p _ _ _
theorem cM_set74 (n : Nat) : (cM x v).set 74 (.int .u64 n) = cM { x with d := { x.d with b := n } } v := by
  obtain ⟨p, hp⟩ := cM_MP h; have h1 : cM x v = _ := hp x.d v; rw [h1, hp]; exact Rp.MP_set74 p _ _ _
theorem cM_set75 (n : Nat) : (cM x v).set 75 (.int .u64 n) = cM { x with d := { x.d with c := n } } v := by
  obtain ⟨p, hp⟩ := cM_MP h; have h1 : cM x v = _ := hp x.d v; rw [h1, hp]; exact Rp.MP_set75 p _ _ _
theorem cM_set76 (n : Nat) : (cM x v).set 76 (.int .u32 n) = cM { x with d := { x.d with p := n } } v := by
  obtain ⟨p, hp⟩ := cM_MP h; have h1 : cM x v = _ := hp x.d v; rw [h1, hp]; exact Rp.MP_set76 p _ _ _
theorem cM_set77 (w : Value) : (cM x v).set 77 w = cM x w := by
  obtain ⟨p, hp⟩ := cM_MP h
  have h1 : cM x v = _ := hp x.d v
  have h2 : cM x w = _ := hp x.d w
  rw [h1, h2]; exact Rp.MP_set77 p _ _ _
theorem cM_set5 (d : Rp.D) (w : Value) : (cM x v).take 73 ++ [.int .u64 d.a, .int .u64 d.b, .int .u64 d.c, .int .u32 d.p, w] ++ (cM x v).drop 78 = cM { x with d := d } w := by
  obtain ⟨p, hp⟩ := cM_MP h
  have h1 : cM x v = _ := hp x.d v
  rw [h1, hp]
  unfold Rp.MP
  rw [List.take_append_of_le_length (by rw [p.len]; omega), List.take_of_length_le (by rw [p.len]; omega), List.drop_of_length_le (by simp [p.len]), List.append_nil]
end
theorem fillM (k : Nat) (e c be b : Int) : fillA Z78 [(0, 1, .int .u8 k), (1, 1, .int .i64 e), (2, 1, .int .i64 c), (3, 1, .int .i64 be), (4, 1, .int .i64 b)] = some (cM ⟨k, e, c, be, b, St0, D0⟩ (.slice none 0 0)) := rfl
theorem Z78_M : Z78 = cM M0 (.slice none 0 0) := rfl
theorem t52 {H : AHeap} {u v : Value} {l m : List UInt8} (hu : BS H u l) (hv : BS H v m) : ∃ w H', ARun Try.prog 0 52 [u, v] H w H' ∧ w = .bool (decide (l = m)) ∧ H' = H := by
  refine walk2 f52_ok f52_n ?_
  intro Q hq1 hq2
  simp (disch := first | assumption | omega | (simp only [LN] <;> omega) | (simp (disch := first | assumption | omega | (simp only [LN] <;> omega)) only [row_alloc, row_set]; assumption)) only [f52, W_block, P3, ↓reduceIte, reduceAdd, reduceEqDiff, reduceCtorEq, initFr, reduceLT, clsA, reduceLeDiff, reduceMul, reduceSub, reduceIte, a_b2sB hu, a_b2sB hv, bytes_eq]
  exact hq2 _ _ ⟨_, rfl, rfl, rfl⟩
theorem t53 {H : AHeap} {v : Value} {b : List UInt8} (hb : BQ H v b) (i w : Nat) (hi : i ≤ 1000000000) (hw : w ≤ 8) (hl : b.length ≤ 1000000000) :
    ∃ u H', ARun Try.prog 0 53 [v, .int .i64 (i : Nat), .int .i64 (w : Nat)] H u H' ∧ u = .int .u64 (na b i w : Nat) ∧ H' = H := by
  refine walk2 f53_ok f53_n ?_
  intro Q hq1 hq2
  have hs := hb.bs.sl
  have his := hs.is
  have hlen := hs.len
  rw [List.length_map] at hlen
  have hw1 : IntKind.i64.wrap ((i : Int) + (w : Int)) = ((i + w : Nat) : Int) := by rw [wrap_i64 (by omega) (by omega)]; push_cast; rfl
  by_cases hc : b.length < i + w
  · simp (disch := first | assumption | omega | (simp only [LN] <;> omega) | (simp (disch := first | assumption | omega | (simp only [LN] <;> omega)) only [row_alloc, row_set]; assumption)) only [f53, W_block, P3, ↓reduceIte, reduceAdd, reduceEqDiff, reduceCtorEq, initFr, reduceLT, clsA, reduceLeDiff, reduceMul, reduceSub, reduceIte, hlen, hw1]
    exact hq2 _ _ ⟨_, rfl, by unfold na seg; rw [if_pos hc]; rfl, rfl⟩
  · obtain ⟨u, s1, q1⟩ := hb.mid (k := .i64) (k' := .i64) i (i + w) (by omega) (by omega)
    simp (disch := first | assumption | omega | (simp only [LN] <;> omega) | (simp (disch := first | assumption | omega | (simp only [LN] <;> omega)) only [row_alloc, row_set]; assumption)) only [f53, W_block, P3, ↓reduceIte, reduceAdd, reduceEqDiff, reduceCtorEq, initFr, reduceLT, clsA, reduceLeDiff, reduceMul, reduceSub, reduceIte, hlen, hw1, s1]
    refine ⟨_, _, t77 q1.bs (by rw [List.length_take]; omega), ?_⟩
    simp (disch := first | assumption | omega | (simp only [LN] <;> omega) | (simp (disch := first | assumption | omega | (simp only [LN] <;> omega)) only [row_alloc, row_set]; assumption)) only [W_block, P3, ↓reduceIte, reduceAdd, reduceEqDiff, reduceCtorEq, initFr, reduceLT, clsA, reduceLeDiff, reduceMul, reduceSub, reduceIte]
    exact hq2 _ _ ⟨_, rfl, by unfold na seg; rw [if_neg hc, show i + w - i = w by omega]; rfl, rfl⟩
end Go.AM.Rg

set_option linter.unusedSimpArgs false
set_option linter.unusedVariables false
namespace Go.AM
def cpre : Nat → ACode → ACode
  | 0, _ => .skip
  | 1, .seq a _ => a
  | n + 2, .seq a b => .seq a (cpre (n + 1) b)
  | _ + 1, c => c
def cpost : Nat → ACode → ACode
  | 0, c => c
  | n + 1, .seq _ b => cpost n b
  | _ + 1, _ => .skip
def cok : Nat → ACode → Bool
  | 0, _ => false
  | 1, .seq _ _ => true
  | n + 2, .seq _ b => cok (n + 1) b
  | _ + 1, _ => false
variable {P : Program} {ng : Nat} {H : AHeap} {Q : AQ} {fr : List Value}
theorem andThen2 (Q : AQ) (K K' : List Value → AHeap → Prop) : (Q.andThen K).andThen K' = Q.andThen K' := by
  funext e fr H
  cases e <;> rfl
theorem W_pp : ∀ (n : Nat) (c : ACode) (Q : AQ) (fr : List Value) (H : AHeap), cok n c = true → W P ng c Q fr H = W P ng (cpre n c) (Q.andThen (W P ng (cpost n c) Q)) fr H
  | 0, c, Q, fr, H, h => by simp [cok] at h
  | 1, c, Q, fr, H, h => by
    cases c <;> simp [cok] at h
    rfl
  | n + 2, c, Q, fr, H, h => by
    cases c <;> simp [cok] at h
    rename_i a b
    simp only [cpre, cpost, W_seq]
    rw [andThen2]
    congr 1
    funext e fr H
    cases e
    · exact W_pp (n + 1) b Q fr H h
    all_goals rfl
theorem W_part {c : ACode} (n : Nat) (M : List Value → AHeap → Prop) (hok : cok n c = true)
    (h1 : ∀ Q' : AQ, (∀ fr H, M fr H → Q' .normal fr H) → (∀ i fr H, Q (.exit i) fr H → Q' (.exit i) fr H) → (∀ fr H, Q .ret fr H → Q' .ret fr H) → W P ng (cpre n c) Q' fr H)
    (h2 : ∀ fr H, M fr H → W P ng (cpost n c) Q fr H) : W P ng c Q fr H := by
  rw [W_pp n c Q fr H hok]
  exact h1 _ (fun fr H h => h2 fr H h) (fun _ _ _ h => h) (fun _ _ h => h)
end Go.AM

set_option linter.unusedSimpArgs false
set_option linter.unusedVariables false
namespace Go.AM.Rg
open Nat (reduceAdd reduceEqDiff reduceLT reduceLeDiff reduceMul reduceSub)
open Go.Proofs Go.AM.F Go.AM.Fd
def G26 (H' : AHeap) (w : Value) (b : List UInt8) : Prop := match geM b with
  | some x => ∃ u, w = .tuple #[.agg (cM x u).toArray, .bool true] ∧ Rp.TB H' u x.d.l
  | none => w = .tuple #[.agg (cM M0 (.slice none 0 0)).toArray, .bool false]
def M26 (v : Value) (b : List UInt8) (H : AHeap) (fr : List Value) (K : AHeap) : Prop :=
  ∃ (m : Nat) (u : Value) (e4 e5 e6 e7 e8 e9 e10 e11 e12 e13 : Value), fr = [v, ptr H.n 0, .bool false, ptr m 0, e4, e5, e6, e7, e8, e9, e10, e11, e12, e13] ∧
    33 ≤ b.length ∧ (na b 0 1 = 1 → (gS b).isSome = true ∧ (hM b).be = 0 ∧ (hM b).b = 0) ∧ K.get m = some (.cells true false 78 (cM (rdM b) u) 38) ∧ H.n < m ∧ Rp.TB K u (rdM b).d.l ∧ Keeps (H.alloc (.cells true false 78 (cM M0 (.slice none 0 0)) 38)) K
theorem fillT (x y : Int) : fillA [.int .i64 0, .int .u8 0] [(0, 1, .int .i64 x), (1, 1, .int .u8 y)] = some [.int .i64 x, .int .u8 y] := rfl
theorem fillT2 (x y : Int) : fillA [.int .i64 0, .int .u8 0] [(0, 2, .agg #[.int .i64 x, .int .u8 y])] = some [.int .i64 x, .int .u8 y] := rfl
set_option maxHeartbeats 1000000 in
theorem p26 {H : AHeap} {v : Value} {b : List UInt8} (hb : BQ H v b) (hl : b.length ≤ 100000) (Q' : AQ) (h0 : ∀ fr K, M26 v b H fr K → Q' .normal fr K)
    (hr : ∀ fr K, resO f26.res fr K = some (.tuple #[.agg (cM M0 (.slice none 0 0)).toArray, .bool false]) → Keeps H K → geM b = none → Q' .ret fr K) : W Try.prog 0 (cpre 5 f26.body) Q' (initFr f26.sl [v]) H := by
  have z78 : Z78.all Value.oneCell' = true := rfl
  have z68 : Z68.all Value.oneCell' = true := rfl
  have l68 : Z68.length = 68 := rfl
  have hs := hb.bs.sl
  have his := hs.is
  have hlen := hs.len
  rw [List.length_map] at hlen
  simp (disch := first | assumption | omega | (simp only [LN] <;> omega) | (simp (disch := first | assumption | omega | (simp only [LN] <;> omega)) only [row_alloc, row_set]; assumption)) only [f26, cpre, W_block, P3, ↓reduceIte, reduceAdd, reduceEqDiff, reduceCtorEq, initFr, reduceLT, clsA, reduceLeDiff, reduceMul, reduceSub, reduceIte, z78, hlen]
  have lz : Z78.length = 78 := rfl
  obtain ⟨H1, hH1⟩ : ∃ X, X = H.alloc (.cells true false 78 Z78 38) := ⟨_, rfl⟩
  have k1 : Keeps H H1 := by rw [hH1]; exact (Keeps.refl H).alloc _
  have g1 : H1.get H.n = some (.cells true false 78 Z78 38) := by rw [hH1]; exact AHeap.get_alloc_new _ _
  have p1 := AHeap.get_lt g1
  have n1 : H1.n = H.n + 1 := by rw [hH1, alloc_n]
  rw [← hH1]
  have st0 : ∀ K : AHeap, K.get H.n = some (.cells true false 78 Z78 38) → ∀ fr : List Value, fr.getD 1 undef = ptr H.n 0 → fr.getD 2 undef = .bool false → resO f26.res fr K = some (.tuple #[.agg (cM M0 (.slice none 0 0)).toArray, .bool false]) := by
    intro K gK fr e1 e2
    rw [show resO f26.res fr K = (celln 78 (fr.getD 1 undef) K).map fun c => .tuple #[c, fr.getD 2 undef] from resCT 78 1 2 fr, e1, e2]
    simp (disch := first | assumption | omega | (simp only [LN] <;> omega) | (simp (disch := first | assumption | omega | (simp only [LN] <;> omega)) only [row_alloc, row_set]; assumption)) only [W_block, P3, ↓reduceIte, reduceAdd, reduceEqDiff, reduceCtorEq, initFr, reduceLT, clsA, reduceLeDiff, reduceMul, reduceSub, reduceIte, gK, lz]
    rfl
  have kS : ∀ K, Keeps H1 K → Keeps H (K.set H.n (.cells true false 78 Z78 38)) := fun K k => (k1.trans k).set (Nat.le_refl _) (by have := k.n; omega) _
  by_cases h33 : b.length < 33
  · have hd : decide ((b.length : Int) < 33) = true := by simp; omega
    rw [hd]
    simp (disch := first | assumption | omega | (simp only [LN] <;> omega) | (simp (disch := first | assumption | omega | (simp only [LN] <;> omega)) only [row_alloc, row_set]; assumption)) only [W_block, P3, ↓reduceIte, reduceAdd, reduceEqDiff, reduceCtorEq, initFr, reduceLT, clsA, reduceLeDiff, reduceMul, reduceSub, reduceIte, g1, z78, lz]
    refine hr _ _ (st0 _ (AHeap.get_set_same g1 _) _ rfl rfl) (kS _ (Keeps.refl _)) ?_
    unfold geM; rw [if_neg (by omega)]
  have hd : decide ((b.length : Int) < 33) = false := by simp; omega
  rw [hd]
  obtain ⟨hn0, hr0⟩ := hs.at_ (by omega) (i := 0) (by rw [List.length_map]; omega)
  have hb1 := hb.keeps k1
  obtain ⟨hn0, hr0⟩ := hb1.bs.sl.at_ (by omega) (i := 0) (by rw [List.length_map]; omega)
  rw [List.getElem_map, ← na_one (by omega)] at hr0
  simp (disch := first | assumption | omega | (simp only [LN] <;> omega) | (simp (disch := first | assumption | omega | (simp only [LN] <;> omega)) only [row_alloc, row_set]; assumption)) only [W_block, P3, ↓reduceIte, reduceAdd, reduceEqDiff, reduceCtorEq, initFr, reduceLT, clsA, reduceLeDiff, reduceMul, reduceSub, reduceIte, hlen, hr0]
  refine callP (t53 hb1 1 8 (by omega) (by omega) (by omega)) ?_
  simp (disch := first | assumption | omega | (simp only [LN] <;> omega) | (simp (disch := first | assumption | omega | (simp only [LN] <;> omega)) only [row_alloc, row_set]; assumption)) only [W_block, P3, ↓reduceIte, reduceAdd, reduceEqDiff, reduceCtorEq, initFr, reduceLT, clsA, reduceLeDiff, reduceMul, reduceSub, reduceIte, ite_self]
  refine callP (t53 hb1 9 8 (by omega) (by omega) (by omega)) ?_
  simp (disch := first | assumption | omega | (simp only [LN] <;> omega) | (simp (disch := first | assumption | omega | (simp only [LN] <;> omega)) only [row_alloc, row_set]; assumption)) only [W_block, P3, ↓reduceIte, reduceAdd, reduceEqDiff, reduceCtorEq, initFr, reduceLT, clsA, reduceLeDiff, reduceMul, reduceSub, reduceIte, ite_self]
  refine callP (t53 hb1 17 8 (by omega) (by omega) (by omega)) ?_
  simp (disch := first | assumption | omega | (simp only [LN] <;> omega) | (simp (disch := first | assumption | omega | (simp only [LN] <;> omega)) only [row_alloc, row_set]; assumption)) only [W_block, P3, ↓reduceIte, reduceAdd, reduceEqDiff, reduceCtorEq, initFr, reduceLT, clsA, reduceLeDiff, reduceMul, reduceSub, reduceIte, ite_self]
  refine callP (t53 hb1 25 8 (by omega) (by omega) (by omega)) ?_
  have fM := fillM (na b 0 1) (IntKind.i64.wrap (na b 1 8 : Nat)) (IntKind.i64.wrap (na b 9 8 : Nat)) (IntKind.i64.wrap (na b 17 8 : Nat)) (IntKind.i64.wrap (na b 25 8 : Nat))
  have eM : (⟨na b 0 1, IntKind.i64.wrap (na b 1 8 : Nat), IntKind.i64.wrap (na b 9 8 : Nat), IntKind.i64.wrap (na b 17 8 : Nat), IntKind.i64.wrap (na b 25 8 : Nat), St0, D0⟩ : Ms) = hM b := rfl
  rw [eM] at fM
  have ht : (hM b).s.t.length = 64 := rfl
  have lM := cM_len (.slice none 0 0) ht
  have oM := cM_one (hM b) (v := .slice none 0 0) rfl
  simp (disch := first | assumption | omega | (simp only [LN] <;> omega) | (simp (disch := first | assumption | omega | (simp only [LN] <;> omega)) only [row_alloc, row_set]; assumption)) only [W_block, P3, ↓reduceIte, reduceAdd, reduceEqDiff, reduceCtorEq, initFr, reduceLT, clsA, reduceLeDiff, reduceMul, reduceSub, reduceIte, ite_self, fM, z78, lz, lM, oM]
  obtain ⟨H2, hH2⟩ : ∃ X, X = H1.alloc (.cells true false 78 (cM (hM b) (.slice none 0 0)) 38) := ⟨_, rfl⟩
  have k2 : Keeps H1 H2 := by rw [hH2]; exact (Keeps.refl H1).alloc _
  have g2 : H2.get H1.n = some (.cells true false 78 (cM (hM b) (.slice none 0 0)) 38) := by rw [hH2]; exact AHeap.get_alloc_new _ _
  have g12 := k2.at_ g1
  have n2 : H2.n = H1.n + 1 := by rw [hH2, alloc_n]
  rw [← hH2]
  have hb2 := hb1.keeps k2
  have ek : (hM b).k = na b 0 1 := rfl
  have kb := na1 b 0
  have kOut : ∀ K o, Keeps H2 K → Keeps H1 (K.set H1.n o) := fun K o k => (k2.trans k).set (Nat.le_refl _) (by have := k.n; omega) _
  by_cases hk1 : na b 0 1 = 1
  · have e1 : (((na b 0 1 : Nat) : Int) == 1) = true := by simp [hk1]
    have rd1 : rdM b = { hM b with s := (gS b).getD St0 } := by unfold rdM; rw [if_pos (by rw [ek]; exact hk1)]
    have hoM : okM b = ((gS b).isSome && zz (hM b).be (hM b).b) := by unfold okM; rw [ek, hk1]; simp
    obtain ⟨u3, s3, q3⟩ := hb2.from_ (k := .i64) 33 (by omega)
    have s3 : asem (.slsl 1 v (some (.int .i64 33)) none none) H2 = some (u3, H2) := s3
    simp (disch := first | assumption | omega | (simp only [LN] <;> omega) | (simp (disch := first | assumption | omega | (simp only [LN] <;> omega)) only [row_alloc, row_set]; assumption)) only [W_block, P3, ↓reduceIte, reduceAdd, reduceEqDiff, reduceCtorEq, initFr, reduceLT, clsA, reduceLeDiff, reduceMul, reduceSub, reduceIte, cM_0, ek, hk1, s3]
    refine callP (t54 q3 (by rw [List.length_drop]; omega)) ?_
    cases hgs : geSt (b.drop 33) with
    | none =>
      have gn : geM b = none := by unfold geM; rw [if_neg]; rintro ⟨_, h2, _⟩; rw [hoM] at h2; unfold gS at h2; rw [hgs] at h2; cases h2
      have o0 := cSt_one St0
      have l0 : (cSt St0).length = 68 := rfl
      simp (disch := first | assumption | omega | (simp only [LN] <;> omega) | (simp (disch := first | assumption | omega | (simp only [LN] <;> omega)) only [row_alloc, row_set]; assumption)) only [W_block, P3, ↓reduceIte, reduceAdd, reduceEqDiff, reduceCtorEq, initFr, reduceLT, clsA, reduceLeDiff, reduceMul, reduceSub, reduceIte, tSt, GotB, z68, l68, o0, l0, g12, z78, lz]
      exact hr _ _ (st0 _ (((Keeps.refl _).alloc _).at_ (AHeap.get_set_same g12 _)) _ rfl rfl) ((kS _ k2).alloc _) gn
    | some y =>
      have oy := cSt_one y
      have hy := (geSt_some hgs).2.1.ht
      have ly := cSt_len hy
      have gs2 := ((Keeps.refl H2).alloc (.cells true false 68 (cSt y) 26)).at_ g2
      by_cases c1 : (hM b).be = 0
      · by_cases c2 : (hM b).b = 0
        · have cs := cM_sets (x := hM b) rfl (.slice none 0 0) y
          have er : rdM b = { hM b with s := y } := by rw [rd1]; unfold gS; rw [hgs]; rfl
          rw [← er] at cs
          have k0 : (cM (rdM b) (.slice none 0 0))[0]? = some (.int .u8 1) := by rw [cM_0, er]; show some (Value.int .u8 ((hM b).k : Nat)) = _; rw [ek, hk1]; rfl
          simp (disch := first | assumption | omega | (simp only [LN] <;> omega) | (simp (disch := first | assumption | omega | (simp only [LN] <;> omega)) only [row_alloc, row_set]; assumption)) only [W_block, P3, ↓reduceIte, reduceAdd, reduceEqDiff, reduceCtorEq, initFr, reduceLT, clsA, reduceLeDiff, reduceMul, reduceSub, reduceIte, tSt, GotB, z68, l68, oy, ly, g2, cM_3, cM_4, c1, c2, cs, k0]
          refine h0 _ _ ⟨H1.n, .slice none 0 0, _, _, _, _, _, _, _, _, _, _, rfl, by omega, fun _ => ⟨by unfold gS; rw [hgs]; rfl, c1, c2⟩, ((Keeps.refl _).alloc _).at_ (AHeap.get_set_same g2 _), by omega, ?_, ?_⟩
          · rw [er]; exact ⟨none, 0, rfl, fun h => absurd rfl h⟩
          · rw [← Z78_M, ← hH1]; exact (kOut _ _ (Keeps.refl _)).alloc _
        · have gn : geM b = none := by unfold geM; rw [if_neg]; rintro ⟨_, h2, _⟩; rw [hoM] at h2; simp [zz, c2] at h2
          simp (disch := first | assumption | omega | (simp only [LN] <;> omega) | (simp (disch := first | assumption | omega | (simp only [LN] <;> omega)) only [row_alloc, row_set]; assumption)) only [W_block, P3, ↓reduceIte, reduceAdd, reduceEqDiff, reduceCtorEq, initFr, reduceLT, clsA, reduceLeDiff, reduceMul, reduceSub, reduceIte, tSt, GotB, z68, l68, oy, ly, g2, cM_3, cM_4, c1, c2, g12, z78, lz]
          exact hr _ _ (st0 _ (((Keeps.refl _).alloc _).at_ (AHeap.get_set_same g12 _)) _ rfl rfl) ((kS _ k2).alloc _) gn
      · have gn : geM b = none := by unfold geM; rw [if_neg]; rintro ⟨_, h2, _⟩; rw [hoM] at h2; simp [zz, c1] at h2
        simp (disch := first | assumption | omega | (simp only [LN] <;> omega) | (simp (disch := first | assumption | omega | (simp only [LN] <;> omega)) only [row_alloc, row_set]; assumption)) only [W_block, P3, ↓reduceIte, reduceAdd, reduceEqDiff, reduceCtorEq, initFr, reduceLT, clsA, reduceLeDiff, reduceMul, reduceSub, reduceIte, tSt, GotB, z68, l68, oy, ly, g2, cM_3, cM_4, c1, g12, z78, lz]
        exact hr _ _ (st0 _ (((Keeps.refl _).alloc _).at_ (AHeap.get_set_same g12 _)) _ rfl rfl) ((kS _ k2).alloc _) gn
  have n1k : ¬ ((na b 0 1 : Nat) : Int) = 1 := by omega
  by_cases hk2 : na b 0 1 = 2
  · have rd2 : rdM b = { hM b with d := dM b } := by unfold rdM; rw [if_neg (by rw [ek]; omega), if_pos (by rw [ek]; exact hk2)]
    obtain ⟨x1, hx1⟩ : ∃ x : Ms, x = { hM b with d := ⟨na b 33 8, 0, 0, 0, []⟩ } := ⟨_, rfl⟩
    obtain ⟨x2, hx2⟩ : ∃ x : Ms, x = { hM b with d := ⟨na b 33 8, na b 41 8, 0, 0, []⟩ } := ⟨_, rfl⟩
    obtain ⟨x3, hx3⟩ : ∃ x : Ms, x = { hM b with d := ⟨na b 33 8, na b 41 8, na b 49 8, 0, []⟩ } := ⟨_, rfl⟩
    obtain ⟨x4, hx4⟩ : ∃ x : Ms, x = { hM b with d := ⟨na b 33 8, na b 41 8, na b 49 8, na b 57 4, []⟩ } := ⟨_, rfl⟩
    have s1 : (cM (hM b) (.slice none 0 0)).set 73 (.int .u64 (na b 33 8 : Nat)) = cM x1 (.slice none 0 0) := by rw [hx1]; exact cM_set73 rfl _ _
    have s2 : (cM x1 (.slice none 0 0)).set 74 (.int .u64 (na b 41 8 : Nat)) = cM x2 (.slice none 0 0) := by rw [hx1, hx2]; exact cM_set74 rfl _ _
    have s3 : (cM x2 (.slice none 0 0)).set 75 (.int .u64 (na b 49 8 : Nat)) = cM x3 (.slice none 0 0) := by rw [hx2, hx3]; exact cM_set75 rfl _ _
    have s4 : (cM x3 (.slice none 0 0)).set 76 (.int .u32 (na b 57 4 : Nat)) = cM x4 (.slice none 0 0) := by rw [hx3, hx4]; exact cM_set76 rfl _ _
    have ln : ∀ {x : Ms}, x.s.t.length = 64 → (cM x (.slice none 0 0)).length = 78 := fun h => cM_len _ h
    have l1 : (cM x1 (.slice none 0 0)).length = 78 := by rw [hx1]; exact ln rfl
    have l2 : (cM x2 (.slice none 0 0)).length = 78 := by rw [hx2]; exact ln rfl
    have l3 : (cM x3 (.slice none 0 0)).length = 78 := by rw [hx3]; exact ln rfl
    have l4 : (cM x4 (.slice none 0 0)).length = 78 := by rw [hx4]; exact ln rfl
    simp (disch := first | assumption | omega | (simp only [LN] <;> omega) | (simp (disch := first | assumption | omega | (simp only [LN] <;> omega)) only [row_alloc, row_set]; assumption)) only [W_block, P3, ↓reduceIte, reduceAdd, reduceEqDiff, reduceCtorEq, initFr, reduceLT, clsA, reduceLeDiff, reduceMul, reduceSub, reduceIte, g2, cM_0, ek, hk2, n1k]
    refine callP (t53 hb2 33 8 (by omega) (by omega) (by omega)) ?_
    simp (disch := first | assumption | omega | (simp only [LN] <;> omega) | (simp (disch := first | assumption | omega | (simp only [LN] <;> omega)) only [row_alloc, row_set]; assumption)) only [W_block, P3, ↓reduceIte, reduceAdd, reduceEqDiff, reduceCtorEq, initFr, reduceLT, clsA, reduceLeDiff, reduceMul, reduceSub, reduceIte, g2, s1, lM]
    refine callP (t53 (hb1.keeps (kOut _ _ (Keeps.refl H2))) 41 8 (by omega) (by omega) (by omega)) ?_
    simp (disch := first | assumption | omega | (simp only [LN] <;> omega) | (simp (disch := first | assumption | omega | (simp only [LN] <;> omega)) only [row_alloc, row_set]; assumption)) only [W_block, P3, ↓reduceIte, reduceAdd, reduceEqDiff, reduceCtorEq, initFr, reduceLT, clsA, reduceLeDiff, reduceMul, reduceSub, reduceIte, g2, s2, l1]
    refine callP (t53 (hb1.keeps (kOut _ _ (Keeps.refl H2))) 49 8 (by omega) (by omega) (by omega)) ?_
    simp (disch := first | assumption | omega | (simp only [LN] <;> omega) | (simp (disch := first | assumption | omega | (simp only [LN] <;> omega)) only [row_alloc, row_set]; assumption)) only [W_block, P3, ↓reduceIte, reduceAdd, reduceEqDiff, reduceCtorEq, initFr, reduceLT, clsA, reduceLeDiff, reduceMul, reduceSub, reduceIte, g2, s3, l2]
    refine callP (t53 (hb1.keeps (kOut _ _ (Keeps.refl H2))) 57 4 (by omega) (by omega) (by omega)) ?_
    have w57 : IntKind.u32.wrap (na b 57 4 : Nat) = (na b 57 4 : Nat) := by have := na4 b 57; rw [wrap_u32]; omega
    simp (disch := first | assumption | omega | (simp only [LN] <;> omega) | (simp (disch := first | assumption | omega | (simp only [LN] <;> omega)) only [row_alloc, row_set]; assumption)) only [W_block, P3, ↓reduceIte, reduceAdd, reduceEqDiff, reduceCtorEq, initFr, reduceLT, clsA, reduceLeDiff, reduceMul, reduceSub, reduceIte, g2, s4, l3, w57]
    refine callP (t53 (hb1.keeps (kOut _ _ (Keeps.refl H2))) 61 1 (by omega) (by omega) (by omega)) ?_
    have n61 := na1 b 61
    have w61 : IntKind.i64.wrap (na b 61 1 : Nat) = (na b 61 1 : Nat) := wrap_i64 (by omega) (by omega)
    simp (disch := first | assumption | omega | (simp only [LN] <;> omega) | (simp (disch := first | assumption | omega | (simp only [LN] <;> omega)) only [row_alloc, row_set]; assumption)) only [W_block, P3, ↓reduceIte, reduceAdd, reduceEqDiff, reduceCtorEq, initFr, reduceLT, clsA, reduceLeDiff, reduceMul, reduceSub, reduceIte, w61]
    obtain ⟨n, hn⟩ : ∃ n, n = na b 61 1 := ⟨_, rfl⟩
    rw [← hn] at n61 ⊢
    have hx4l : ∀ l u, cM { x4 with d := { x4.d with l := l } } u = cM x4 u := fun _ _ => rfl
    have ht4 : x4.s.t.length = 64 := by rw [hx4]; rfl
    refine W_loop2 (fun q fr K => ∃ (i : Nat) (u e12 : Value), i ≤ n ∧ q = n - i ∧ K.get H1.n = some (.cells true false 78 (cM x4 u) 38) ∧ AP K 92 2 u (tmL b i).length (Rp.TC (tmL b i)) ∧ Fresh (H1.n + 1) u ∧ Keeps H1 K ∧
      fr = [v, ptr H.n 0, .bool false, ptr H1.n 0, undef, undef, .int .i64 n, .int .i64 i, .bool false, .bool false, undef, .bool true, e12, undef]) n ⟨0, .slice none 0 0, _, by omega, rfl, AHeap.get_set_same g2 _, .inl ⟨rfl, rfl, rfl⟩, fun b hb => (by cases hb), kOut _ _ (Keeps.refl H2), rfl⟩ ?_
    rintro Q2 q fr K ⟨i, u, e12, hi, rfl, gK, ap, fu, kK, rfl⟩ hnx hex hrt
    have pK := AHeap.get_lt gK
    have nK := kK.n
    by_cases hc : i < n
    · have l4u := cM_len u ht4
      have m77 := cM_77 u ht4
      have m1 : IntKind.i64.wrap (2 * (i : Int)) = ((2 * i : Nat) : Int) := by rw [wrap_i64 (by omega) (by omega)]; push_cast; rfl
      have m2 : IntKind.i64.wrap (62 + ((2 * i : Nat) : Int)) = ((62 + 2 * i : Nat) : Int) := by rw [wrap_i64 (by omega) (by omega)]; push_cast; rfl
      have m3 : IntKind.i64.wrap (63 + ((2 * i : Nat) : Int)) = ((62 + 2 * i + 1 : Nat) : Int) := by rw [wrap_i64 (by omega) (by omega)]; push_cast; omega
      simp (disch := first | assumption | omega | (simp only [LN] <;> omega) | (simp (disch := first | assumption | omega | (simp only [LN] <;> omega)) only [row_alloc, row_set]; assumption)) only [W_block, P3, ↓reduceIte, reduceAdd, reduceEqDiff, reduceCtorEq, initFr, reduceLT, clsA, reduceLeDiff, reduceMul, reduceSub, reduceIte, gK, m77, m1, m2]
      refine callP (t53 (hb1.keeps kK) (62 + 2 * i) 1 (by omega) (by omega) (by omega)) ?_
      have c1 := na1 b (62 + 2 * i)
      have c2 := na1 b (62 + 2 * i + 1)
      have v1 : IntKind.i64.wrap (na b (62 + 2 * i) 1 : Nat) = (na b (62 + 2 * i) 1 : Nat) := wrap_i64 (by omega) (by omega)
      have v2 : IntKind.u8.wrap (na b (62 + 2 * i + 1) 1 : Nat) = (na b (62 + 2 * i + 1) 1 : Nat) := by rw [wrap_u8]; omega
      simp (disch := first | assumption | omega | (simp only [LN] <;> omega) | (simp (disch := first | assumption | omega | (simp only [LN] <;> omega)) only [row_alloc, row_set]; assumption)) only [W_block, P3, ↓reduceIte, reduceAdd, reduceEqDiff, reduceCtorEq, initFr, reduceLT, clsA, reduceLeDiff, reduceMul, reduceSub, reduceIte, gK, m77, m1, m3, ite_self, v1]
      refine callP (t53 (hb1.keeps kK) (62 + 2 * i + 1) 1 (by omega) (by omega) (by omega)) ?_
      simp (disch := first | assumption | omega | (simp only [LN] <;> omega) | (simp (disch := first | assumption | omega | (simp only [LN] <;> omega)) only [row_alloc, row_set]; assumption)) only [W_block, P3, ↓reduceIte, reduceAdd, reduceEqDiff, reduceCtorEq, initFr, reduceLT, clsA, reduceLeDiff, reduceMul, reduceSub, reduceIte, gK, ite_self, v2, fillT, fillT2]
      obtain ⟨e7, he7⟩ : ∃ e7 : List Value, e7 = [.int .i64 (na b (62 + 2 * i) 1 : Nat), .int .u8 (na b (62 + 2 * i + 1) 1 : Nat)] := ⟨_, rfl⟩
      rw [← he7]
      have apn := ap.keeps ((Keeps.refl K).alloc (.cells true false 2 e7 92))
      refine appGD apn ⟨_, _, rfl⟩ (elems_new rfl (by rw [he7]; rfl)) (by rw [he7]; rfl) (by rw [tmL_len]; omega) ?_
      intro v9 K9 ap9 c9 hb9
      have n9 := c9.n
      simp only [alloc_n] at n9 hb9
      have fv9 : Fresh (H1.n + 1) v9 := fun y hy => by
        rcases hb9 with e | e
        · exact fu y (by rw [← e]; exact hy)
        · rw [e] at hy; cases hy; omega
      have k9 : Keeps H1 K9 := ⟨by omega, fun y hy => by
        rw [c9.get _ (by rw [alloc_n]; omega) (fun hz => by have := fu y (mem_blkL.1 hz); omega), AHeap.get_alloc_old _ _ (by omega)]; exact kK.get _ hy⟩
      have gk9 : K9.get H1.n = some (.cells true false 78 (cM x4 u) 38) := by
        rw [c9.get _ (by rw [alloc_n]; omega) (fun hz => by have := fu _ (mem_blkL.1 hz); omega), AHeap.get_alloc_old _ _ (by omega)]; exact gK
      have ho9 : v9.oneCell' = true := by obtain ⟨a, e⟩ := ap9.shape; rw [e]; rfl
      have s77 := cM_set77 ht4 u v9
      simp (disch := first | assumption | omega | (simp only [LN] <;> omega) | (simp (disch := first | assumption | omega | (simp only [LN] <;> omega)) only [row_alloc, row_set]; assumption)) only [W_block, P3, ↓reduceIte, reduceAdd, reduceEqDiff, reduceCtorEq, initFr, reduceLT, clsA, reduceLeDiff, reduceMul, reduceSub, reduceIte, gk9, l4u, ho9, s77, wrap_succ (n := i) (by omega)]
      refine hnx _ _ _ ⟨i + 1, v9, _, by omega, rfl, AHeap.get_set_same gk9 _, ?_, fv9, k9.set (Nat.le_refl _) (by omega) _, rfl⟩ (by omega)
      have e9 : Rp.TC (tmL b (i + 1)) = Rp.TC (tmL b i) ++ e7 := by rw [tmL_succ, Rp.TC_app, he7]; rfl
      rw [e9, tmL_len, ← tmL_len b i, tmL_len]
      rw [tmL_len] at ap9
      exact ap9.chg (Chg.set K9 (by omega) _) (fun y hy => by have := fv9 y (mem_blkL.1 hy); simp; omega)
    · have hin : i = n := by omega
      subst hin
      simp (disch := first | assumption | omega | (simp only [LN] <;> omega) | (simp (disch := first | assumption | omega | (simp only [LN] <;> omega)) only [row_alloc, row_set]; assumption)) only [W_block, P3, ↓reduceIte, reduceAdd, reduceEqDiff, reduceCtorEq, initFr, reduceLT, clsA, reduceLeDiff, reduceMul, reduceSub, reduceIte]
      refine hex _ _ _ ?_
      have er : cM (rdM b) u = cM x4 u := by rw [rd2, hx4]; rfl
      have el : (rdM b).d.l = tmL b i := by rw [rd2]; show tmL b (nT b) = _; rw [show nT b = i from hn.symm]
      refine h0 _ _ ⟨H1.n, u, _, _, _, _, _, _, _, _, _, _, rfl, by omega, fun h => by omega, by rw [er]; exact gK, by omega, by rw [el]; exact Rp.TB.of_ap ap, ?_⟩
      rw [← Z78_M, ← hH1]; exact kK
  · have rd3 : rdM b = hM b := by unfold rdM; rw [if_neg (by rw [ek]; omega), if_neg (by rw [ek]; omega)]
    simp (disch := first | assumption | omega | (simp only [LN] <;> omega) | (simp (disch := first | assumption | omega | (simp only [LN] <;> omega)) only [row_alloc, row_set]; assumption)) only [W_block, P3, ↓reduceIte, reduceAdd, reduceEqDiff, reduceCtorEq, initFr, reduceLT, clsA, reduceLeDiff, reduceMul, reduceSub, reduceIte, g2, cM_0, ek, n1k, show ¬ ((na b 0 1 : Nat) : Int) = 2 by omega]
    refine h0 _ _ ⟨H1.n, _, _, _, _, _, _, _, _, _, _, _, rfl, by omega, fun h => by omega, by rw [rd3]; exact g2, by omega, by rw [rd3]; exact ⟨none, 0, rfl, fun h => absurd rfl h⟩, ?_⟩
    rw [← Z78_M, ← hH1]; exact k2
end Go.AM.Rg

set_option linter.unusedSimpArgs false
set_option linter.unusedVariables false
namespace Go.AM.Rg
open Nat (reduceAdd reduceEqDiff reduceLT reduceLeDiff reduceMul reduceSub)
open Go.Proofs Go.AM.F Go.AM.Fd
theorem rd_k (b : List UInt8) : (rdM b).k = na b 0 1 ∧ (rdM b).e = (hM b).e ∧ (rdM b).c = (hM b).c ∧ (rdM b).be = (hM b).be ∧ (rdM b).b = (hM b).b := by
  unfold rdM
  split
  · exact ⟨rfl, rfl, rfl, rfl, rfl⟩
  split
  · exact ⟨rfl, rfl, rfl, rfl, rfl⟩
  · exact ⟨rfl, rfl, rfl, rfl, rfl⟩
theorem TB.off {K : AHeap} {u : Value} {l : List (Int × Int)} {b z e : Nat} {c : List Value} (h : Rp.TB K u l) (g : K.get b = some (.cells true false (z + 3) c e)) (o : AO) : Rp.TB (K.set b o) u l := by
  refine h.chgL (fun hne y hy => ?_)
  obtain ⟨a, k, rfl, h1⟩ := h
  obtain ⟨b1, own, room, cs, e1, rfl, h2, h3⟩ := h1 hne
  rw [mem_blkL] at hy
  cases hy
  refine AHeap.get_set_other _ ?_ (AHeap.get_lt g) _
  intro e2
  have e2 : b1 = b := e2
  rw [e2, g] at h2
  cases h2
set_option maxHeartbeats 1000000 in
theorem t26 {H : AHeap} {v : Value} {b : List UInt8} (hb : BQ H v b) (hl : b.length ≤ 100000) : ∃ w H', ARun Try.prog 0 26 [v] H w H' ∧ Keeps H H' ∧ G26 H' w b := by
  refine walk2 f26_ok f26_n ?_
  intro Q hq1 hq2
  refine W_part 5 (M26 v b H) (by kernel_rfl) (fun Q' h1 _ h3 => p26 hb hl Q' h1 (fun fr K e k g => h3 _ _ (hq2 _ _ ⟨_, e, k, by unfold G26; rw [g]⟩))) ?_
  rintro fr K ⟨m, u, e4, e5, e6, e7, e8, e9, e10, e11, e12, e13, rfl, h33, hg1, gm, hm, tb, kk⟩
  obtain ⟨x, hx⟩ : ∃ x, x = rdM b := ⟨_, rfl⟩
  have hrg := rdM_rg b
  have hln := rdM_len b
  obtain ⟨q0, q1, q2, q3, q4⟩ := rd_k b
  rw [← hx] at gm tb hrg hln q0 q1 q2 q3 q4
  have ht := hrg.s.ht
  have lx := cM_len u ht
  have ox := cM_one x tb.one
  have z78 : Z78.all Value.oneCell' = true := rfl
  have lz : Z78.length = 78 := rfl
  have hz := kk.at_ (AHeap.get_alloc_new H _)
  rw [← Z78_M] at hz
  have pm := AHeap.get_lt gm
  have kH : Keeps H K := ((Keeps.refl H).alloc _).trans kk
  have nH := kk.n
  rw [alloc_n] at nH
  have res : ∀ (K : AHeap) (c : List Value) (o : Bool), K.get H.n = some (.cells true false 78 c 38) → c.length = 78 → ∀ fr : List Value, fr.getD 1 undef = ptr H.n 0 → fr.getD 2 undef = .bool o → resO f26.res fr K = some (.tuple #[.agg c.toArray, .bool o]) := by
    intro K c o gK lc fr e1 e2
    rw [show resO f26.res fr K = (celln 78 (fr.getD 1 undef) K).map fun c => .tuple #[c, fr.getD 2 undef] from resCT 78 1 2 fr, e1, e2]
    simp (disch := first | assumption | omega | (simp only [LN] <;> omega) | (simp (disch := first | assumption | omega | (simp only [LN] <;> omega)) only [row_alloc, row_set]; assumption)) only [W_block, P3, ↓reduceIte, reduceAdd, reduceEqDiff, reduceCtorEq, initFr, reduceLT, clsA, reduceLeDiff, reduceMul, reduceSub, reduceIte, gK, lc]
  have fin0 : ∀ K' : AHeap, Keeps K K' → geM b = none → ∀ fr : List Value, fr.getD 1 undef = ptr H.n 0 → fr.getD 2 undef = .bool false → Q .ret fr (K'.set H.n (.cells true false 78 Z78 38)) := by
    intro K' k g fr e1 e2
    have := k.n
    refine hq2 _ _ ⟨_, res _ _ false (AHeap.get_set_same (k.at_ hz) _) lz fr e1 e2, (kH.trans k).set (Nat.le_refl _) (by omega) _, ?_⟩
    unfold G26; rw [g]; rfl
  have hno : okM b = false → geM b = none := fun h => by unfold geM; rw [if_neg]; rintro ⟨_, h2, _⟩; rw [h] at h2; cases h2
  have hok : okM b = ((decide (x.k = 1) && ((gS b).isSome && zz x.be x.b)) || decide (x.k = 2) || (decide (x.k = 3) && zz x.be x.b) || (decide (x.k = 4) && (zz x.be x.b && zz x.e x.c))) := by
    unfold okM; rw [q0, q1, q2, q3, q4]; rfl
  by_cases A : x.k = 3 ∧ ¬ (x.be = 0 ∧ x.b = 0)
  · obtain ⟨a1, a2⟩ := A
    have g : geM b = none := hno (by rw [hok, a1]; simp [zz]; omega)
    by_cases c1 : x.be = 0
    · have c2 : ¬ x.b = 0 := fun h => a2 ⟨c1, h⟩
      simp (disch := first | assumption | omega | (simp only [LN] <;> omega) | (simp (disch := first | assumption | omega | (simp only [LN] <;> omega)) only [row_alloc, row_set]; assumption)) only [f26, cpost, W_block, P3, ↓reduceIte, reduceAdd, reduceEqDiff, reduceCtorEq, initFr, reduceLT, clsA, reduceLeDiff, reduceMul, reduceSub, reduceIte, gm, cM_0, cM_3, cM_4, a1, c1, c2, hz, z78, lz]
      exact fin0 K (Keeps.refl K) g _ rfl rfl
    · simp (disch := first | assumption | omega | (simp only [LN] <;> omega) | (simp (disch := first | assumption | omega | (simp only [LN] <;> omega)) only [row_alloc, row_set]; assumption)) only [f26, cpost, W_block, P3, ↓reduceIte, reduceAdd, reduceEqDiff, reduceCtorEq, initFr, reduceLT, clsA, reduceLeDiff, reduceMul, reduceSub, reduceIte, gm, cM_0, cM_3, cM_4, a1, c1, hz, z78, lz]
      exact fin0 K (Keeps.refl K) g _ rfl rfl
  by_cases B : x.k = 4 ∧ ¬ (x.e = 0 ∧ x.c = 0 ∧ x.be = 0 ∧ x.b = 0)
  · obtain ⟨a1, a2⟩ := B
    have g : geM b = none := hno (by rw [hok, a1]; simp [zz]; omega)
    have a3 : ¬ ((4 : Int) = 3) := by omega
    by_cases c1 : x.e = 0
    · by_cases c2 : x.c = 0
      · by_cases c3 : x.be = 0
        · have c4 : ¬ x.b = 0 := fun h => a2 ⟨c1, c2, c3, h⟩
          simp (disch := first | assumption | omega | (simp only [LN] <;> omega) | (simp (disch := first | assumption | omega | (simp only [LN] <;> omega)) only [row_alloc, row_set]; assumption)) only [f26, cpost, W_block, P3, ↓reduceIte, reduceAdd, reduceEqDiff, reduceCtorEq, initFr, reduceLT, clsA, reduceLeDiff, reduceMul, reduceSub, reduceIte, gm, cM_0, cM_1, cM_2, cM_3, cM_4, a1, c1, c2, c3, c4, hz, z78, lz]
          exact fin0 K (Keeps.refl K) g _ rfl rfl
        · simp (disch := first | assumption | omega | (simp only [LN] <;> omega) | (simp (disch := first | assumption | omega | (simp only [LN] <;> omega)) only [row_alloc, row_set]; assumption)) only [f26, cpost, W_block, P3, ↓reduceIte, reduceAdd, reduceEqDiff, reduceCtorEq, initFr, reduceLT, clsA, reduceLeDiff, reduceMul, reduceSub, reduceIte, gm, cM_0, cM_1, cM_2, cM_3, cM_4, a1, c1, c2, c3, hz, z78, lz]
          exact fin0 K (Keeps.refl K) g _ rfl rfl
      · simp (disch := first | assumption | omega | (simp only [LN] <;> omega) | (simp (disch := first | assumption | omega | (simp only [LN] <;> omega)) only [row_alloc, row_set]; assumption)) only [f26, cpost, W_block, P3, ↓reduceIte, reduceAdd, reduceEqDiff, reduceCtorEq, initFr, reduceLT, clsA, reduceLeDiff, reduceMul, reduceSub, reduceIte, gm, cM_0, cM_1, cM_2, cM_3, cM_4, a1, c1, c2, hz, z78, lz]
        exact fin0 K (Keeps.refl K) g _ rfl rfl
    · simp (disch := first | assumption | omega | (simp only [LN] <;> omega) | (simp (disch := first | assumption | omega | (simp only [LN] <;> omega)) only [row_alloc, row_set]; assumption)) only [f26, cpost, W_block, P3, ↓reduceIte, reduceAdd, reduceEqDiff, reduceCtorEq, initFr, reduceLT, clsA, reduceLeDiff, reduceMul, reduceSub, reduceIte, gm, cM_0, cM_1, cM_2, cM_3, cM_4, a1, c1, hz, z78, lz]
      exact fin0 K (Keeps.refl K) g _ rfl rfl
  have D : (x.k = 3 ∧ x.be = 0 ∧ x.b = 0) ∨ (x.k = 4 ∧ x.e = 0 ∧ x.c = 0 ∧ x.be = 0 ∧ x.b = 0) ∨ (x.k ≠ 3 ∧ x.k ≠ 4) := by omega
  have gok : pM x = b → geM b = some x := by
    intro h
    have hmay : Rp.mayB (M x) = true := by
      cases hm : Rp.mayB (M x) with
      | true => rfl
      | false => unfold pM at h; rw [hm] at h; rw [← h] at h33; simp at h33
    have hk := may_inv hmay
    have h2 : okM b = true := by
      rw [hok]
      rcases D with ⟨d1, d2, d3⟩ | ⟨d1, d2, d3, d4, d5⟩ | ⟨d1, d2⟩
      · simp [zz, d1, d2, d3]
      · simp [zz, d1, d2, d3, d4, d5]
      · have : x.k = 1 ∨ x.k = 2 := by omega
        rcases this with d | d
        · have h1 := hg1 (by omega)
          rw [q3, q4]
          simp [zz, d, h1.1, h1.2.1, h1.2.2]
        · simp [d]
    unfold geM
    rw [← hx, if_pos ⟨h33, h2, h⟩]
  rcases D with ⟨d1, d2, d3⟩ | ⟨d1, d2, d3, d4, d5⟩ | ⟨d1, d2⟩
  simp (disch := first | assumption | omega | (simp only [LN] <;> omega) | (simp (disch := first | assumption | omega | (simp only [LN] <;> omega)) only [row_alloc, row_set]; assumption)) only [f26, cpost, W_block, P3, ↓reduceIte, reduceAdd, reduceEqDiff, reduceCtorEq, initFr, reduceLT, clsA, reduceLeDiff, reduceMul, reduceSub, reduceIte, gm, cM_0, cM_1, cM_2, cM_3, cM_4, d1, d2, d3, lx]
  rotate_left
  simp (disch := first | assumption | omega | (simp only [LN] <;> omega) | (simp (disch := first | assumption | omega | (simp only [LN] <;> omega)) only [row_alloc, row_set]; assumption)) only [f26, cpost, W_block, P3, ↓reduceIte, reduceAdd, reduceEqDiff, reduceCtorEq, initFr, reduceLT, clsA, reduceLeDiff, reduceMul, reduceSub, reduceIte, gm, cM_0, cM_1, cM_2, cM_3, cM_4, d1, d2, d3, d4, d5, lx]
  rotate_left
  simp (disch := first | assumption | omega | (simp only [LN] <;> omega) | (simp (disch := first | assumption | omega | (simp only [LN] <;> omega)) only [row_alloc, row_set]; assumption)) only [f26, cpost, W_block, P3, ↓reduceIte, reduceAdd, reduceEqDiff, reduceCtorEq, initFr, reduceLT, clsA, reduceLeDiff, reduceMul, reduceSub, reduceIte, gm, cM_0, cM_1, cM_2, cM_3, cM_4, show ¬ ((x.k : Nat) : Int) = 3 by omega, show ¬ ((x.k : Nat) : Int) = 4 by omega, lx]
  rotate_left
  all_goals
    refine callK (t28 hrg tb (by omega)) ?_
    rintro w2 K2 o2
    have k2 := o2.k
    have hb2 := hb.bs.keeps (kH.trans k2)
    have tk := tbk (hb.bs.keeps kH) k2
    by_cases heq : pM x = b
    · have e1 : decide (pM x = b) = true := by simp [heq]
      simp (disch := first | assumption | omega | (simp only [LN] <;> omega) | (simp (disch := first | assumption | omega | (simp only [LN] <;> omega)) only [row_alloc, row_set, Keeps.row k2]; assumption)) only [Keeps.get k2, Keeps.row k2, W_block, P3, ↓reduceIte, reduceAdd, reduceEqDiff, reduceCtorEq, initFr, reduceLT, clsA, reduceLeDiff, reduceMul, reduceSub, reduceIte, a_b2sB o2.bs, a_b2sB hb2, touch_b2s, ite_self, bytes_eq, e1, gm, lx, ox, hz, lz]
      refine ⟨tk, hq2 _ _ ⟨_, res _ _ true (AHeap.get_set_same (k2.at_ hz) _) lx _ rfl rfl, (kH.trans k2).set (Nat.le_refl _) (by have := k2.n; omega) _, ?_⟩⟩
      unfold G26
      rw [gok heq]
      exact ⟨u, rfl, TB.off (tb.keeps k2) (k2.at_ hz) _⟩
    · have e1 : decide (pM x = b) = false := by simp [heq]
      simp (disch := first | assumption | omega | (simp only [LN] <;> omega) | (simp (disch := first | assumption | omega | (simp only [LN] <;> omega)) only [row_alloc, row_set, Keeps.row k2]; assumption)) only [Keeps.get k2, Keeps.row k2, W_block, P3, ↓reduceIte, reduceAdd, reduceEqDiff, reduceCtorEq, initFr, reduceLT, clsA, reduceLeDiff, reduceMul, reduceSub, reduceIte, a_b2sB o2.bs, a_b2sB hb2, touch_b2s, ite_self, bytes_eq, e1, gm, lx, ox, hz, lz, z78]
      refine ⟨tk, fin0 K2 k2 ?_ _ rfl rfl⟩
      unfold geM; rw [if_neg]; rintro ⟨_, _, h3⟩; rw [← hx] at h3; exact heq h3
end Go.AM.Rg

set_option linter.unusedSimpArgs false
set_option linter.unusedVariables false
namespace Go.AM.Rg
open Nat (reduceAdd reduceEqDiff reduceLT reduceLeDiff reduceMul reduceSub)
open Go.Proofs Go.AM.F Go.AM.Fd
def ok0 (b : List UInt8) : Bool := decide (na b 0 1 = 2) || zz (hM b).be (hM b).b
def M4 (v : Value) (b : List UInt8) (H : AHeap) (fr : List Value) (K : AHeap) : Prop :=
  ∃ m r hi : Nat, fr = [v, ptr H.n 0, .int .i64 0, ptr r 0, ptr m 0, .bool (ok0 b), undef, undef, undef, undef, undef, undef, undef, undef, undef, undef] ∧
    K.get m = some (.cells true false 78 (cM (hM b) (.slice none 0 0)) 41) ∧ hi ≤ m ∧ RR K (H.n + 1) hi r b 33 ∧ Keeps (H.alloc (.cells true false 78 (cM M0 (.slice none 0 0)) 41)) K
set_option maxHeartbeats 1000000 in
theorem p25a {H : AHeap} {v : Value} {b : List UInt8} (hb : BQ H v b) (hl : b.length ≤ 100000) (Q' : AQ) (h0 : ∀ fr K, M4 v b H fr K → Q' .normal fr K) : W Try.prog 0 (cpre 4 f25.body) Q' (initFr f25.sl [v]) H := by
  have z78 : Z78.all Value.oneCell' = true := rfl
  have lz : Z78.length = 78 := rfl
  have hl9 : b.length ≤ 1000000000 := by omega
  simp (disch := first | assumption | omega | (simp only [LN] <;> omega) | (simp (disch := first | assumption | omega | (simp only [LN] <;> omega)) only [row_alloc, row_set]; assumption)) only [f25, cpre, W_block, P3, ↓reduceIte, reduceAdd, reduceEqDiff, reduceCtorEq, initFr, reduceLT, clsA, reduceLeDiff, reduceMul, reduceSub, reduceIte, z78]
  have k1 := (Keeps.refl H).alloc (.cells true false 78 Z78 41)
  refine callK (t44 (hb.keeps k1).bs hl9) ?_
  rintro _ K0 ⟨r, bv, rfl, rs, hr, hbv, k0⟩
  rw [alloc_n] at hr hbv
  have r0 : RR K0 (H.n + 1) K0.n r b 0 := ⟨hr, rs.lt.1, Nat.le_refl _, bv, hbv, rs.lt.2, by rw [List.drop_zero, show decide (b.length < 0) = false by simp]; exact rs⟩
  have hrk := r0.2.1
  simp (disch := first | assumption | omega | (simp only [LN] <;> omega) | (simp (disch := first | assumption | omega | (simp only [LN] <;> omega)) only [row_alloc, row_set]; assumption)) only [W_block, P3, ↓reduceIte, reduceAdd, reduceEqDiff, reduceCtorEq, initFr, reduceLT, clsA, reduceLeDiff, reduceMul, reduceSub, reduceIte]
  refine callK (e45 r0 hl9) ?_
  rintro _ _ ⟨rfl, o1, rfl, r1⟩
  simp (disch := first | assumption | omega | (simp only [LN] <;> omega) | (simp (disch := first | assumption | omega | (simp only [LN] <;> omega)) only [row_alloc, row_set]; assumption)) only [W_block, P3, ↓reduceIte, reduceAdd, reduceEqDiff, reduceCtorEq, initFr, reduceLT, clsA, reduceLeDiff, reduceMul, reduceSub, reduceIte]
  refine callK (e46 r1 hl9) ?_
  rintro _ _ ⟨rfl, o2, rfl, r2⟩
  rw [set_set] at r2
  simp (disch := first | assumption | omega | (simp only [LN] <;> omega) | (simp (disch := first | assumption | omega | (simp only [LN] <;> omega)) only [row_alloc, row_set]; assumption)) only [W_block, P3, ↓reduceIte, reduceAdd, reduceEqDiff, reduceCtorEq, initFr, reduceLT, clsA, reduceLeDiff, reduceMul, reduceSub, reduceIte]
  refine callK (e46 r2 hl9) ?_
  rintro _ _ ⟨rfl, o3, rfl, r3⟩
  rw [set_set] at r3
  simp (disch := first | assumption | omega | (simp only [LN] <;> omega) | (simp (disch := first | assumption | omega | (simp only [LN] <;> omega)) only [row_alloc, row_set]; assumption)) only [W_block, P3, ↓reduceIte, reduceAdd, reduceEqDiff, reduceCtorEq, initFr, reduceLT, clsA, reduceLeDiff, reduceMul, reduceSub, reduceIte]
  refine callK (e46 r3 hl9) ?_
  rintro _ _ ⟨rfl, o4, rfl, r4⟩
  rw [set_set] at r4
  simp (disch := first | assumption | omega | (simp only [LN] <;> omega) | (simp (disch := first | assumption | omega | (simp only [LN] <;> omega)) only [row_alloc, row_set]; assumption)) only [W_block, P3, ↓reduceIte, reduceAdd, reduceEqDiff, reduceCtorEq, initFr, reduceLT, clsA, reduceLeDiff, reduceMul, reduceSub, reduceIte]
  refine callK (e46 r4 hl9) ?_
  rintro _ _ ⟨rfl, o5, rfl, r5⟩
  rw [set_set] at r5
  have fM := fillM (na b 0 1) (IntKind.i64.wrap (na b 1 8 : Nat)) (IntKind.i64.wrap (na b 9 8 : Nat)) (IntKind.i64.wrap (na b 17 8 : Nat)) (IntKind.i64.wrap (na b 25 8 : Nat))
  have eM : (⟨na b 0 1, IntKind.i64.wrap (na b 1 8 : Nat), IntKind.i64.wrap (na b 9 8 : Nat), IntKind.i64.wrap (na b 17 8 : Nat), IntKind.i64.wrap (na b 25 8 : Nat), St0, D0⟩ : Ms) = hM b := rfl
  rw [eM] at fM
  have ht : (hM b).s.t.length = 64 := rfl
  have lM := cM_len (.slice none 0 0) ht
  have oM := cM_one (hM b) (v := .slice none 0 0) rfl
  have e0 : ∀ o, ((K0.set r o5).alloc o).get K0.n = some o := fun o => by have := AHeap.get_alloc_new (K0.set r o5) o; rwa [set_n] at this
  have kF : ∀ o, Keeps (H.alloc (.cells true false 78 (cM M0 (.slice none 0 0)) 41)) ((K0.set r o5).alloc o) := fun o => by
    rw [← Z78_M]; exact (k0.set (by rw [alloc_n]; omega) hrk _).alloc o
  have hQ : ∀ o, ok0 b = o → Q' .normal [v, ptr H.n 0, .int .i64 0, ptr r 0, ptr K0.n 0, .bool o, undef, undef, undef, undef, undef, undef, undef, undef, undef, undef] ((K0.set r o5).alloc (.cells true false 78 (cM (hM b) (.slice none 0 0)) 41)) := by
    rintro _ rfl
    exact h0 _ _ ⟨K0.n, r, K0.n, rfl, e0 _, Nat.le_refl _, r5.alloc _, kF _⟩
  have ek : (hM b).k = na b 0 1 := rfl
  have hrn : K0.n ≠ r := by omega
  simp (disch := first | assumption | omega | (simp only [LN] <;> omega) | (simp (disch := first | assumption | omega | (simp only [LN] <;> omega)) only [row_alloc, row_set]; assumption)) only [W_block, P3, ↓reduceIte, reduceAdd, reduceEqDiff, reduceCtorEq, initFr, reduceLT, clsA, reduceLeDiff, reduceMul, reduceSub, reduceIte, fM, z78, lz, lM, oM]
  by_cases c0 : na b 0 1 = 2
  · simp (disch := first | assumption | omega | (simp only [LN] <;> omega) | (simp (disch := first | assumption | omega | (simp only [LN] <;> omega)) only [row_alloc, row_set]; assumption)) only [W_block, P3, ↓reduceIte, reduceAdd, reduceEqDiff, reduceCtorEq, initFr, reduceLT, clsA, reduceLeDiff, reduceMul, reduceSub, reduceIte, cM_0, cM_3, cM_4, ek, c0]
    exact hQ true (by unfold ok0; simp [c0])
  have n0 : ¬ ((na b 0 1 : Nat) : Int) = 2 := by omega
  by_cases c1 : (hM b).be = 0
  · by_cases c2 : (hM b).b = 0
    · simp (disch := first | assumption | omega | (simp only [LN] <;> omega) | (simp (disch := first | assumption | omega | (simp only [LN] <;> omega)) only [row_alloc, row_set]; assumption)) only [W_block, P3, ↓reduceIte, reduceAdd, reduceEqDiff, reduceCtorEq, initFr, reduceLT, clsA, reduceLeDiff, reduceMul, reduceSub, reduceIte, cM_0, cM_3, cM_4, ek, n0, c1, c2]
      exact hQ true (by unfold ok0 zz; simp [c1, c2])
    · simp (disch := first | assumption | omega | (simp only [LN] <;> omega) | (simp (disch := first | assumption | omega | (simp only [LN] <;> omega)) only [row_alloc, row_set]; assumption)) only [W_block, P3, ↓reduceIte, reduceAdd, reduceEqDiff, reduceCtorEq, initFr, reduceLT, clsA, reduceLeDiff, reduceMul, reduceSub, reduceIte, cM_0, cM_3, cM_4, ek, n0, c1, c2]
      exact hQ false (by unfold ok0 zz; simp [c0, c1, c2])
  · simp (disch := first | assumption | omega | (simp only [LN] <;> omega) | (simp (disch := first | assumption | omega | (simp only [LN] <;> omega)) only [row_alloc, row_set]; assumption)) only [W_block, P3, ↓reduceIte, reduceAdd, reduceEqDiff, reduceCtorEq, initFr, reduceLT, clsA, reduceLeDiff, reduceMul, reduceSub, reduceIte, cM_0, cM_3, cM_4, ek, n0, c1]
    exact hQ false (by unfold ok0 zz; simp [c0, c1])
def okC (b : List UInt8) : Bool := if na b 0 1 = 1 then ok0 b && (gS b).isSome else if na b 0 1 = 4 then ok0 b && zz (hM b).e (hM b).c else ok0 b
def posM (b : List UInt8) : Nat := if na b 0 1 = 1 then 33 + (b.length - 33) else if na b 0 1 = 2 then 62 + 2 * nT b else 33
def M5 (v : Value) (b : List UInt8) (H : AHeap) (fr : List Value) (K : AHeap) : Prop :=
  ∃ (m r hi : Nat) (u e6 e7 e8 e9 e10 e11 e12 e13 e14 e15 : Value), fr = [v, ptr H.n 0, .int .i64 0, ptr r 0, ptr m 0, .bool (okC b), e6, e7, e8, e9, e10, e11, e12, e13, e14, e15] ∧
    K.get m = some (.cells true false 78 (cM (rdM b) u) 41) ∧ H.n < m ∧ RR K (H.n + 1) hi r b (posM b) ∧ Rp.TB K u (rdM b).d.l ∧ Keeps (H.alloc (.cells true false 78 (cM M0 (.slice none 0 0)) 41)) K
theorem seg_all (b : List UInt8) : seg b 33 (b.length - 33) = b.drop 33 := by
  unfold seg
  split
  · rw [List.drop_of_length_le (by omega)]
  · rw [List.take_of_length_le (by rw [List.length_drop]; omega)]
set_option maxHeartbeats 1000000 in
theorem p25b {H K : AHeap} {v : Value} {b : List UInt8} {fr : List Value} (hl : b.length ≤ 100000) (h : M4 v b H fr K) (Q' : AQ) (h0 : ∀ fr K, M5 v b H fr K → Q' .normal fr K) : W Try.prog 0 (cpre 1 (cpost 4 f25.body)) Q' fr K := by
  obtain ⟨m, r, hi, rfl, gm, hm, rr, kk⟩ := h
  have hl9 : b.length ≤ 1000000000 := by omega
  have pm := AHeap.get_lt gm
  have ek : (hM b).k = na b 0 1 := rfl
  have hrm : r < m := Nat.lt_of_lt_of_le rr.2.1 hm
  have hrH : H.n + 1 ≤ r := rr.1
  have nK := kk.n
  rw [alloc_n] at nK
  have nilTB : ∀ K, Rp.TB K (.slice none 0 0) [] := fun K => ⟨none, 0, rfl, fun h => absurd rfl h⟩
  have kset : ∀ {X : AHeap} {y : Nat} (o : AO), Keeps (H.alloc (.cells true false 78 (cM M0 (.slice none 0 0)) 41)) X → H.n + 1 ≤ y → y < X.n → Keeps (H.alloc (.cells true false 78 (cM M0 (.slice none 0 0)) 41)) (X.set y o) := fun o k h1 h2 => k.set (by rw [alloc_n]; omega) h2 o
  by_cases c1 : na b 0 1 = 1
  · simp (disch := first | assumption | omega | (simp only [LN] <;> omega) | (simp (disch := first | assumption | omega | (simp only [LN] <;> omega)) only [row_alloc, row_set]; assumption)) only [f25, cpre, cpost, W_block, P3, ↓reduceIte, reduceAdd, reduceEqDiff, reduceCtorEq, initFr, reduceLT, clsA, reduceLeDiff, reduceMul, reduceSub, reduceIte, gm, cM_0, ek, c1]
    refine callP (q49 rr) ?_
    simp (disch := first | assumption | omega | (simp only [LN] <;> omega) | (simp (disch := first | assumption | omega | (simp only [LN] <;> omega)) only [row_alloc, row_set]; assumption)) only [W_block, P3, ↓reduceIte, reduceAdd, reduceEqDiff, reduceCtorEq, initFr, reduceLT, clsA, reduceLeDiff, reduceMul, reduceSub, reduceIte]
    refine callK (q48q rr (b.length - 33) hl9) ?_
    rintro w1 K1 ⟨bq, r1, ch1⟩
    simp (disch := first | assumption | omega | (simp only [LN] <;> omega) | (simp (disch := first | assumption | omega | (simp only [LN] <;> omega)) only [row_alloc, row_set]; assumption)) only [W_block, P3, ↓reduceIte, reduceAdd, reduceEqDiff, reduceCtorEq, initFr, reduceLT, clsA, reduceLeDiff, reduceMul, reduceSub, reduceIte]
    refine callK (t47 bq (by rw [seg_all]; rw [List.length_drop]; omega)) ?_
    rintro _ K2 ⟨k2, rfl⟩
    have n1 := ch1.n
    have n2 := k2.n
    have gm2 : K2.get m = some (.cells true false 78 (cM (hM b) (.slice none 0 0)) 41) := by rw [k2.get _ (by omega), Chg1.get ch1 pm (by omega)]; exact gm
    have r2 := r1.keeps k2
    have k02 : Keeps (H.alloc (.cells true false 78 (cM M0 (.slice none 0 0)) 41)) K2 := (kk.chg_trans ch1 (by simp [alloc_n]; omega)).trans k2
    rw [seg_all]
    have rd1 : rdM b = { hM b with s := (gS b).getD St0 } := by unfold rdM; rw [if_pos (by rw [ek]; exact c1)]
    have z68 : Z68.all Value.oneCell' = true := rfl
    have l68 : Z68.length = 68 := rfl
    have lM := cM_len (.slice none 0 0) (show (hM b).s.t.length = 64 from rfl)
    have fin : ∀ (y : St) (e : Int) (ok : Bool), y.t.length = 64 → (gS b).getD St0 = y → okC b = ok → ∀ (e9 e10 e11 e12 e13 e14 e15 : Value), Q' .normal [v, ptr H.n 0, .int .i64 0, ptr r 0, ptr m 0, .bool ok, ptr K2.n 0, .int .i64 e, .int .u8 1, e9, e10, e11, e12, e13, e14, e15] ((K2.set m (.cells true false 78 (cM { hM b with s := y } (.slice none 0 0)) 41)).alloc (.cells true false 68 (cSt y) 26)) := by
      rintro y e _ hy h1 rfl e9 e10 e11 e12 e13 e14 e15
      refine h0 _ _ ⟨m, r, hi, .slice none 0 0, _, _, _, e9, e10, e11, e12, e13, e14, e15, rfl, ?_, by omega, ?_, ?_, ?_⟩
      · rw [rd1, h1]; exact ((Keeps.refl _).alloc _).at_ (AHeap.get_set_same gm2 _)
      · unfold posM; rw [if_pos c1]; exact (r2.set hm (by omega) _).alloc _
      · rw [rd1]; exact nilTB _
      · exact (kset _ k02 (by omega) (by omega)).alloc _
    cases hgs : geSt (b.drop 33) with
    | none =>
      have o0 := cSt_one St0
      have l0 : (cSt St0).length = 68 := rfl
      have cs := cM_sets (x := hM b) rfl (.slice none 0 0) St0
      have hok : okC b = false := by unfold okC; rw [if_pos c1]; unfold gS; rw [hgs]; simp
      have hg0 : (gS b).getD St0 = St0 := by unfold gS; rw [hgs]; rfl
      cases hb0 : ok0 b with
      | true =>
        simp (disch := first | assumption | omega | (simp only [LN] <;> omega) | (simp (disch := first | assumption | omega | (simp only [LN] <;> omega)) only [row_alloc, row_set]; assumption)) only [W_block, P3, ↓reduceIte, reduceAdd, reduceEqDiff, reduceCtorEq, initFr, reduceLT, clsA, reduceLeDiff, reduceMul, reduceSub, reduceIte, GotV, z68, l68, o0, l0, gm2, cs, lM]
        exact fin St0 130 false rfl hg0 hok _ _ _ _ _ _ _
      | false =>
        simp (disch := first | assumption | omega | (simp only [LN] <;> omega) | (simp (disch := first | assumption | omega | (simp only [LN] <;> omega)) only [row_alloc, row_set]; assumption)) only [W_block, P3, ↓reduceIte, reduceAdd, reduceEqDiff, reduceCtorEq, initFr, reduceLT, clsA, reduceLeDiff, reduceMul, reduceSub, reduceIte, GotV, z68, l68, o0, l0, gm2, cs, lM]
        exact fin St0 130 false rfl hg0 hok _ _ _ _ _ _ _
    | some y =>
      have o0 := cSt_one y
      have hy := (geSt_some hgs).2.1.ht
      have l0 := cSt_len hy
      have cs := cM_sets (x := hM b) rfl (.slice none 0 0) y
      have hg0 : (gS b).getD St0 = y := by unfold gS; rw [hgs]; rfl
      cases hb0 : ok0 b with
      | true =>
        have hok : okC b = true := by unfold okC; rw [if_pos c1]; unfold gS; rw [hgs, hb0]; rfl
        simp (disch := first | assumption | omega | (simp only [LN] <;> omega) | (simp (disch := first | assumption | omega | (simp only [LN] <;> omega)) only [row_alloc, row_set]; assumption)) only [W_block, P3, ↓reduceIte, reduceAdd, reduceEqDiff, reduceCtorEq, initFr, reduceLT, clsA, reduceLeDiff, reduceMul, reduceSub, reduceIte, GotV, z68, l68, o0, l0, gm2, cs, lM]
        exact fin y 0 true hy hg0 hok _ _ _ _ _ _ _
      | false =>
        have hok : okC b = false := by unfold okC; rw [if_pos c1]; unfold gS; rw [hgs, hb0]; rfl
        simp (disch := first | assumption | omega | (simp only [LN] <;> omega) | (simp (disch := first | assumption | omega | (simp only [LN] <;> omega)) only [row_alloc, row_set]; assumption)) only [W_block, P3, ↓reduceIte, reduceAdd, reduceEqDiff, reduceCtorEq, initFr, reduceLT, clsA, reduceLeDiff, reduceMul, reduceSub, reduceIte, GotV, z68, l68, o0, l0, gm2, cs, lM]
        exact fin y 0 false hy hg0 hok _ _ _ _ _ _ _
  have n1k : ¬ ((na b 0 1 : Nat) : Int) = 1 := by omega
  by_cases c2 : na b 0 1 = 2
  · simp (disch := first | assumption | omega | (simp only [LN] <;> omega) | (simp (disch := first | assumption | omega | (simp only [LN] <;> omega)) only [row_alloc, row_set]; assumption)) only [f25, cpre, cpost, W_block, P3, ↓reduceIte, reduceAdd, reduceEqDiff, reduceCtorEq, initFr, reduceLT, clsA, reduceLeDiff, reduceMul, reduceSub, reduceIte, gm, cM_0, ek, n1k, c2]
    refine callK (e46 rr hl9) ?_
    rintro _ _ ⟨rfl, o1, rfl, r1⟩
    simp (disch := first | assumption | omega | (simp only [LN] <;> omega) | (simp (disch := first | assumption | omega | (simp only [LN] <;> omega)) only [row_alloc, row_set]; assumption)) only [W_block, P3, ↓reduceIte, reduceAdd, reduceEqDiff, reduceCtorEq, initFr, reduceLT, clsA, reduceLeDiff, reduceMul, reduceSub, reduceIte]
    refine callK (e46 r1 hl9) ?_
    rintro _ _ ⟨rfl, o2, rfl, r2⟩
    rw [set_set] at r2
    simp (disch := first | assumption | omega | (simp only [LN] <;> omega) | (simp (disch := first | assumption | omega | (simp only [LN] <;> omega)) only [row_alloc, row_set]; assumption)) only [W_block, P3, ↓reduceIte, reduceAdd, reduceEqDiff, reduceCtorEq, initFr, reduceLT, clsA, reduceLeDiff, reduceMul, reduceSub, reduceIte]
    refine callK (e46 r2 hl9) ?_
    rintro _ _ ⟨rfl, o3, rfl, r3⟩
    rw [set_set] at r3
    simp (disch := first | assumption | omega | (simp only [LN] <;> omega) | (simp (disch := first | assumption | omega | (simp only [LN] <;> omega)) only [row_alloc, row_set]; assumption)) only [W_block, P3, ↓reduceIte, reduceAdd, reduceEqDiff, reduceCtorEq, initFr, reduceLT, clsA, reduceLeDiff, reduceMul, reduceSub, reduceIte]
    refine callK (e50 r3 hl9) ?_
    rintro _ _ ⟨rfl, o4, rfl, r4⟩
    rw [set_set] at r4
    have hrK : r < K.n := by omega
    have gm4 : (K.set r o4).get m = some (.cells true false 78 (cM (hM b) (.slice none 0 0)) 41) := by rw [AHeap.get_set_other _ (by omega) hrK]; exact gm
    obtain ⟨d4, hd4⟩ : ∃ d : Rp.D, d = ⟨na b 33 8, na b 41 8, na b 49 8, na b 57 4, []⟩ := ⟨_, rfl⟩
    obtain ⟨x4, hx4⟩ : ∃ x : Ms, x = { hM b with d := d4 } := ⟨_, rfl⟩
    have f5 : fillA [.int .u64 0, .int .u64 0, .int .u64 0, .int .u32 0, .slice none 0 0] [(0, 1, .int .u64 (na b 33 8 : Nat)), (1, 1, .int .u64 (na b 41 8 : Nat)), (2, 1, .int .u64 (na b 49 8 : Nat)), (3, 1, .int .u32 (na b 57 4 : Nat))] = some [.int .u64 d4.a, .int .u64 d4.b, .int .u64 d4.c, .int .u32 d4.p, .slice none 0 0] := by rw [hd4]; rfl
    have lM := cM_len (.slice none 0 0) (show (hM b).s.t.length = 64 from rfl)
    have s5 := cM_set5 (x := hM b) rfl (.slice none 0 0) d4 (.slice none 0 0)
    rw [← hx4] at s5
    simp (disch := first | assumption | omega | (simp only [LN] <;> omega) | (simp (disch := first | assumption | omega | (simp only [LN] <;> omega)) only [row_alloc, row_set]; assumption)) only [W_block, P3, ↓reduceIte, reduceAdd, reduceEqDiff, reduceCtorEq, initFr, reduceLT, clsA, reduceLeDiff, reduceMul, reduceSub, reduceIte, f5, gm4, lM, s5]
    have r5 := r4.set hm (by rw [set_n]; omega) (.cells true false 78 (cM x4 (.slice none 0 0)) 41)
    refine callK (e45 r5 hl9) ?_
    rintro _ _ ⟨rfl, o6, rfl, r6⟩
    simp (disch := first | assumption | omega | (simp only [LN] <;> omega) | (simp (disch := first | assumption | omega | (simp only [LN] <;> omega)) only [row_alloc, row_set]; assumption)) only [W_block, P3, ↓reduceIte, reduceAdd, reduceEqDiff, reduceCtorEq, initFr, reduceLT, clsA, reduceLeDiff, reduceMul, reduceSub, reduceIte]
    have hn256 := na1 b (33 + 8 + 8 + 8 + 4)
    obtain ⟨n, hn⟩ : ∃ n, n = na b (33 + 8 + 8 + 8 + 4) 1 := ⟨_, rfl⟩
    rw [← hn] at hn256 ⊢
    have ht4 : x4.s.t.length = 64 := by rw [hx4]; rfl
    have hmK : m < (K.set r o4).n := by rw [set_n]; omega
    have eN : ((K.set r o4).set m (.cells true false 78 (cM x4 (.slice none 0 0)) 41)).n = K.n := by rw [set_n, set_n]
    refine W_loop2 (fun q fr X => ∃ (i : Nat) (u e13 : Value), i ≤ n ∧ q = n - i ∧ RR X (H.n + 1) hi r b (62 + 2 * i) ∧ X.get m = some (.cells true false 78 (cM x4 u) 41) ∧ AP X 90 2 u (tmL b i).length (Rp.TC (tmL b i)) ∧ Fresh (m + 1) u ∧ Keeps (H.alloc (.cells true false 78 (cM M0 (.slice none 0 0)) 41)) X ∧
      fr = [v, ptr H.n 0, .int .i64 0, ptr r 0, ptr m 0, .bool (ok0 b), undef, undef, .int .u8 2, .bool false, .bool true, .int .u8 n, .int .u8 i, e13, undef, undef]) n ⟨0, .slice none 0 0, undef, by omega, rfl, r6, ?_, .inl ⟨rfl, rfl, rfl⟩, fun b hb => (by cases hb), ?_, rfl⟩ ?_
    · rw [AHeap.get_set_other _ (by omega) (by rw [eN]; exact hrK)]; exact AHeap.get_set_same gm4 _
    · exact kset _ (kset _ (kset _ kk hrH hrK) (by omega) (by rw [set_n]; omega)) hrH (by rw [eN]; exact hrK)
    rintro Q2 q fr X ⟨i, u, e13, hi2, rfl, rx, gX, ap, fu, kX, rfl⟩ hnx hex hrt
    have pX := AHeap.get_lt gX
    have hrX := rx.lt
    by_cases hc : i < n
    · have l4u := cM_len u ht4
      have m77 := cM_77 u ht4
      simp (disch := first | assumption | omega | (simp only [LN] <;> omega) | (simp (disch := first | assumption | omega | (simp only [LN] <;> omega)) only [row_alloc, row_set]; assumption)) only [W_block, P3, ↓reduceIte, reduceAdd, reduceEqDiff, reduceCtorEq, initFr, reduceLT, clsA, reduceLeDiff, reduceMul, reduceSub, reduceIte, gX, m77]
      refine callK (e45 rx hl9) ?_
      rintro _ _ ⟨rfl, o7, rfl, r7⟩
      simp (disch := first | assumption | omega | (simp only [LN] <;> omega) | (simp (disch := first | assumption | omega | (simp only [LN] <;> omega)) only [row_alloc, row_set]; assumption)) only [W_block, P3, ↓reduceIte, reduceAdd, reduceEqDiff, reduceCtorEq, initFr, reduceLT, clsA, reduceLeDiff, reduceMul, reduceSub, reduceIte, gX, m77, ite_self]
      refine callK (e45 r7 hl9) ?_
      rintro _ _ ⟨rfl, o8, rfl, r8⟩
      rw [set_set] at r8
      have c1 := na1 b (62 + 2 * i)
      have v1 : IntKind.i64.wrap (na b (62 + 2 * i) 1 : Nat) = (na b (62 + 2 * i) 1 : Nat) := wrap_i64 (by omega) (by omega)
      simp (disch := first | assumption | omega | (simp only [LN] <;> omega) | (simp (disch := first | assumption | omega | (simp only [LN] <;> omega)) only [row_alloc, row_set]; assumption)) only [W_block, P3, ↓reduceIte, reduceAdd, reduceEqDiff, reduceCtorEq, initFr, reduceLT, clsA, reduceLeDiff, reduceMul, reduceSub, reduceIte, gX, m77, ite_self, v1, fillT, fillT2]
      obtain ⟨e7, he7⟩ : ∃ e7 : List Value, e7 = [.int .i64 (na b (62 + 2 * i) 1 : Nat), .int .u8 (na b (62 + 2 * i + 1) 1 : Nat)] := ⟨_, rfl⟩
      rw [← he7]
      have apn : AP ((X.set r o8).alloc (.cells true false 2 e7 90)) 90 2 u (tmL b i).length (Rp.TC (tmL b i)) :=
        ap.chg ((Chg.set X hrX o8).trans (((Keeps.refl _).alloc (.cells true false 2 e7 90)).chg [r]) (fun x hx => .inl hx)) (fun y hy => by have := fu y (mem_blkL.1 hy); simp; omega)
      refine appGD apn ⟨_, _, rfl⟩ (elems_new rfl (by rw [he7]; rfl)) (by rw [he7]; rfl) (by rw [tmL_len]; omega) ?_
      intro v9 X9 ap9 c9 hb9
      have n9 := c9.n
      simp only [alloc_n, set_n] at n9 hb9
      have fv9 : Fresh (m + 1) v9 := fun y hy => by
        rcases hb9 with e | e
        · exact fu y (by rw [← e]; exact hy)
        · rw [e] at hy; cases hy; omega
      have g9 : ∀ y, y < m + 1 → X9.get y = (X.set r o8).get y := fun y hy => by
        rw [c9.get _ (by rw [alloc_n, set_n]; omega) (fun hz => by have := fu y (mem_blkL.1 hz); omega), AHeap.get_alloc_old _ _ (by rw [set_n]; omega)]
      have gm9 := g9 m (by omega)
      rw [AHeap.get_set_other _ (by omega) hrX, gX] at gm9
      have k9 : Keeps (H.alloc (.cells true false 78 (cM M0 (.slice none 0 0)) 41)) X9 := by
        refine ⟨?_, fun y hy => ?_⟩
        · have := kX.n; omega
        · rw [alloc_n] at hy
          rw [g9 y (by omega), AHeap.get_set_other _ (by omega) hrX]; exact kX.get _ (by rw [alloc_n]; omega)
      have ho9 : v9.oneCell' = true := by obtain ⟨a, e⟩ := ap9.shape; rw [e]; rfl
      have s77 := cM_set77 ht4 u v9
      have w8 : IntKind.u8.wrap ((i : Int) + 1) = ((i + 1 : Nat) : Int) := by rw [wrap_u8]; omega
      simp (disch := first | assumption | omega | (simp only [LN] <;> omega) | (simp (disch := first | assumption | omega | (simp only [LN] <;> omega)) only [row_alloc, row_set]; assumption)) only [W_block, P3, ↓reduceIte, reduceAdd, reduceEqDiff, reduceCtorEq, initFr, reduceLT, clsA, reduceLeDiff, reduceMul, reduceSub, reduceIte, gm9, l4u, ho9, s77, w8]
      refine hnx _ _ _ ⟨i + 1, v9, _, by omega, rfl, ?_, AHeap.get_set_same gm9 _, ?_, fv9, kset _ k9 (by omega) (by omega), rfl⟩ (by omega)
      · refine r8.upto (by simp only [set_n]; omega) (fun y hy => ?_)
        rw [AHeap.get_set_other _ (by omega) (by omega), g9 _ (by omega)]
      · have e9 : Rp.TC (tmL b (i + 1)) = Rp.TC (tmL b i) ++ e7 := by rw [tmL_succ, Rp.TC_app, he7]; rfl
        rw [e9, tmL_len, ← tmL_len b i, tmL_len]
        rw [tmL_len] at ap9
        exact ap9.chg (Chg.set X9 (by omega) _) (fun y hy => by have := fv9 y (mem_blkL.1 hy); simp; omega)
    · have hin : i = n := by omega
      subst hin
      simp (disch := first | assumption | omega | (simp only [LN] <;> omega) | (simp (disch := first | assumption | omega | (simp only [LN] <;> omega)) only [row_alloc, row_set]; assumption)) only [W_block, P3, ↓reduceIte, reduceAdd, reduceEqDiff, reduceCtorEq, initFr, reduceLT, clsA, reduceLeDiff, reduceMul, reduceSub, reduceIte]
      refine hex _ _ _ ?_
      simp (disch := first | assumption | omega | (simp only [LN] <;> omega) | (simp (disch := first | assumption | omega | (simp only [LN] <;> omega)) only [row_alloc, row_set]; assumption)) only [W_block, P3, ↓reduceIte, reduceAdd, reduceEqDiff, reduceCtorEq, initFr, reduceLT, clsA, reduceLeDiff, reduceMul, reduceSub, reduceIte]
      have rd2 : rdM b = { hM b with d := dM b } := by unfold rdM; rw [if_neg (by rw [ek]; omega), if_pos (by rw [ek]; exact c2)]
      have hnT : nT b = i := by rw [hn]; rfl
      have er : cM (rdM b) u = cM x4 u := by rw [rd2, hx4, hd4]; rfl
      have el : (rdM b).d.l = tmL b i := by rw [rd2]; show tmL b (nT b) = _; rw [hnT]
      have hok : okC b = ok0 b := by unfold okC; rw [if_neg c1, if_neg (by omega)]
      rw [← hok]
      exact h0 _ _ ⟨m, r, hi, u, _, _, _, _, _, _, _, _, _, _, rfl, by rw [er]; exact gX, by omega, by unfold posM; rw [if_neg c1, if_pos c2, hnT]; exact rx, by rw [el]; exact Rp.TB.of_ap ap, kX⟩
  have n2k : ¬ ((na b 0 1 : Nat) : Int) = 2 := by omega
  have rd3 : rdM b = hM b := by unfold rdM; rw [if_neg (by rw [ek]; omega), if_neg (by rw [ek]; omega)]
  have hp : posM b = 33 := by unfold posM; rw [if_neg c1, if_neg c2]
  have fin : ∀ ok, okC b = ok → ∀ (e9 e10 e11 e12 e13 e14 e15 : Value), Q' .normal [v, ptr H.n 0, .int .i64 0, ptr r 0, ptr m 0, .bool ok, undef, undef, .int .u8 (na b 0 1 : Nat), e9, e10, e11, e12, e13, e14, e15] K := by
    rintro _ rfl e9 e10 e11 e12 e13 e14 e15
    exact h0 _ _ ⟨m, r, hi, .slice none 0 0, _, _, _, e9, e10, e11, e12, e13, e14, e15, rfl, by rw [rd3]; exact gm, by omega, by rw [hp]; exact rr, by rw [rd3]; exact nilTB _, kk⟩
  by_cases c4 : na b 0 1 = 4
  · have hok : okC b = (ok0 b && zz (hM b).e (hM b).c) := by unfold okC; rw [if_neg c1, if_pos c4]
    cases hb0 : ok0 b with
    | false =>
      simp (disch := first | assumption | omega | (simp only [LN] <;> omega) | (simp (disch := first | assumption | omega | (simp only [LN] <;> omega)) only [row_alloc, row_set]; assumption)) only [f25, cpre, cpost, W_block, P3, ↓reduceIte, reduceAdd, reduceEqDiff, reduceCtorEq, initFr, reduceLT, clsA, reduceLeDiff, reduceMul, reduceSub, reduceIte, gm, cM_0, cM_1, cM_2, ek, n1k, n2k, c4, hb0]
      have := fin false (by rw [hok, hb0]; rfl)
      rw [c4] at this
      exact this _ _ _ _ _ _ _
    | true =>
      by_cases d1 : (hM b).e = 0
      · by_cases d2 : (hM b).c = 0
        · simp (disch := first | assumption | omega | (simp only [LN] <;> omega) | (simp (disch := first | assumption | omega | (simp only [LN] <;> omega)) only [row_alloc, row_set]; assumption)) only [f25, cpre, cpost, W_block, P3, ↓reduceIte, reduceAdd, reduceEqDiff, reduceCtorEq, initFr, reduceLT, clsA, reduceLeDiff, reduceMul, reduceSub, reduceIte, gm, cM_0, cM_1, cM_2, ek, n1k, n2k, c4, hb0, d1, d2]
          have := fin true (by rw [hok, hb0]; simp [zz, d1, d2])
          rw [c4] at this
          exact this _ _ _ _ _ _ _
        · simp (disch := first | assumption | omega | (simp only [LN] <;> omega) | (simp (disch := first | assumption | omega | (simp only [LN] <;> omega)) only [row_alloc, row_set]; assumption)) only [f25, cpre, cpost, W_block, P3, ↓reduceIte, reduceAdd, reduceEqDiff, reduceCtorEq, initFr, reduceLT, clsA, reduceLeDiff, reduceMul, reduceSub, reduceIte, gm, cM_0, cM_1, cM_2, ek, n1k, n2k, c4, hb0, d1, d2]
          have := fin false (by rw [hok, hb0]; simp [zz, d1, d2])
          rw [c4] at this
          exact this _ _ _ _ _ _ _
      · simp (disch := first | assumption | omega | (simp only [LN] <;> omega) | (simp (disch := first | assumption | omega | (simp only [LN] <;> omega)) only [row_alloc, row_set]; assumption)) only [f25, cpre, cpost, W_block, P3, ↓reduceIte, reduceAdd, reduceEqDiff, reduceCtorEq, initFr, reduceLT, clsA, reduceLeDiff, reduceMul, reduceSub, reduceIte, gm, cM_0, cM_1, cM_2, ek, n1k, n2k, c4, hb0, d1]
        have := fin false (by rw [hok, hb0]; simp [zz, d1])
        rw [c4] at this
        exact this _ _ _ _ _ _ _
  · simp (disch := first | assumption | omega | (simp only [LN] <;> omega) | (simp (disch := first | assumption | omega | (simp only [LN] <;> omega)) only [row_alloc, row_set]; assumption)) only [f25, cpre, cpost, W_block, P3, ↓reduceIte, reduceAdd, reduceEqDiff, reduceCtorEq, initFr, reduceLT, clsA, reduceLeDiff, reduceMul, reduceSub, reduceIte, gm, cM_0, ek, n1k, n2k, show ¬ ((na b 0 1 : Nat) : Int) = 4 by omega]
    exact fin (ok0 b) (by unfold okC; rw [if_neg c1, if_neg c4]) _ _ _ _ _ _ _
end Go.AM.Rg

set_option linter.unusedSimpArgs false
set_option linter.unusedVariables false
namespace Go.AM.Rg
open Nat (reduceAdd reduceEqDiff reduceLT reduceLeDiff reduceMul reduceSub)
open Go.Proofs Go.AM.F Go.AM.Fd
def G25 (H' : AHeap) (w : Value) (b : List UInt8) : Prop := match geM b with
  | some x => ∃ u, w = GotV (cM x u) 0 ∧ Rp.TB H' u x.d.l
  | none => w = GotV (cM M0 (.slice none 0 0)) 130
theorem ge_facts {b : List UInt8} (hb : b ≠ []) (h : pM (rdM b) = b) : okC b = okM b ∧ ¬ b.length < posM b ∧ 33 ≤ b.length := by
  have hmay : Rp.mayB (M (rdM b)) = true := by
    cases hm : Rp.mayB (M (rdM b)) with
    | true => rfl
    | false => unfold pM at h; rw [hm] at h; exact absurd h.symm hb
  obtain ⟨m1, m2, m3, m4, m5, m6, m7, m8⟩ := may_inv hmay
  obtain ⟨q0, q1, q2, q3, q4⟩ := rd_k b
  have he : enM (rdM b) = b := by unfold pM at h; rwa [hmay, if_pos rfl] at h
  have hrg := rdM_rg b
  have ht := hrg.s.ht
  have hlen := congrArg List.length he
  unfold enM at hlen
  rw [List.length_append, hdM_len] at hlen
  rw [q0] at m1 m2 hlen
  have ek : (hM b).k = na b 0 1 := rfl
  have : na b 0 1 = 1 ∨ na b 0 1 = 2 ∨ na b 0 1 = 3 ∨ na b 0 1 = 4 := by omega
  rcases this with k | k | k | k
  · refine ⟨?_, ?_, by omega⟩
    · unfold okC okM ok0; rw [ek, k]; simp [Bool.and_comm]
    · unfold posM; rw [if_pos k]; omega
  · refine ⟨?_, ?_, by omega⟩
    · unfold okC okM ok0; rw [ek, k]; simp
    · have rd2 : rdM b = { hM b with d := dM b } := by unfold rdM; rw [if_neg (by rw [ek]; omega), if_pos (by rw [ek]; exact k)]
      rw [k, if_neg (by omega), if_pos rfl, dB_len, rd2] at hlen
      have e : (dM b).l.length = nT b := tmL_len _ _
      have hlen : 33 + (29 + 2 * (dM b).l.length) = b.length := hlen
      rw [e] at hlen
      unfold posM; rw [if_neg (by omega), if_pos k]; omega
  · refine ⟨?_, ?_, by omega⟩
    · unfold okC okM ok0; rw [ek, k]; simp
    · unfold posM; rw [if_neg (by omega), if_neg (by omega)]; omega
  · refine ⟨?_, ?_, by omega⟩
    · unfold okC okM ok0; rw [ek, k]; simp
    · unfold posM; rw [if_neg (by omega), if_neg (by omega)]; omega
theorem ge_iff (b : List UInt8) : geM b = if okC b = true ∧ ¬ b.length < posM b ∧ b ≠ [] ∧ pM (rdM b) = b then some (rdM b) else none := by
  unfold geM
  by_cases h : b ≠ [] ∧ pM (rdM b) = b
  · obtain ⟨h1, h2, h3⟩ := ge_facts h.1 h.2
    rw [h1]
    by_cases h4 : okM b = true
    · rw [if_pos ⟨h3, h4, h.2⟩, if_pos ⟨h4, h2, h⟩]
    · rw [if_neg (fun x => h4 x.2.1), if_neg (fun x => h4 x.1)]
  · rw [if_neg, if_neg]
    · rintro ⟨_, _, x⟩; exact h x
    · rintro ⟨x1, _, x2⟩; exact h ⟨by intro e; rw [e] at x1; simp at x1, x2⟩
set_option maxHeartbeats 1000000 in
theorem t25 {H : AHeap} {v : Value} {b : List UInt8} (hb : BQ H v b) (hl : b.length ≤ 100000) : ∃ w H', ARun Try.prog 0 25 [v] H w H' ∧ Keeps H H' ∧ G25 H' w b := by
  refine walk2 f25_ok f25_n ?_
  intro Q hq1 hq2
  refine W_part 4 (M4 v b H) (by kernel_rfl) (fun Q' h1 _ _ => p25a hb hl Q' h1) ?_
  intro fr K h4
  refine W_part 1 (M5 v b H) (by kernel_rfl) (fun Q' h1 _ _ => p25b hl h4 Q' h1) ?_
  clear h4 fr K
  rintro fr K ⟨m, r, hi, u, e6, e7, e8, e9, e10, e11, e12, e13, e14, e15, rfl, gm, hm, rr, tb, kk⟩
  obtain ⟨x, hx⟩ : ∃ x, x = rdM b := ⟨_, rfl⟩
  have hge := ge_iff b
  have hrg := rdM_rg b
  have hln := rdM_len b
  rw [← hx] at gm tb hrg hln hge
  have ht := hrg.s.ht
  have lx := cM_len u ht
  have ox := cM_one x tb.one
  have z78 : Z78.all Value.oneCell' = true := rfl
  have lz : Z78.length = 78 := rfl
  have hz := kk.at_ (AHeap.get_alloc_new H _)
  rw [← Z78_M] at hz
  have pm := AHeap.get_lt gm
  have kH : Keeps H K := ((Keeps.refl H).alloc _).trans kk
  have nH := kk.n
  rw [alloc_n] at nH
  have hs := (hb.keeps kH).bs.sl
  have his := hs.is
  have hlen := hs.len
  rw [List.length_map] at hlen
  have res : ∀ (K : AHeap) (c : List Value) (o : Int), K.get H.n = some (.cells true false 78 c 41) → c.length = 78 → ∀ fr : List Value, fr.getD 1 undef = ptr H.n 0 → fr.getD 2 undef = .int .i64 o → resO f25.res fr K = some (GotV c o) := by
    intro K c o gK lc fr e1 e2
    rw [show resO f25.res fr K = (celln 78 (fr.getD 1 undef) K).map fun c => .tuple #[c, fr.getD 2 undef] from resCT 78 1 2 fr, e1, e2]
    simp (disch := first | assumption | omega | (simp only [LN] <;> omega) | (simp (disch := first | assumption | omega | (simp only [LN] <;> omega)) only [row_alloc, row_set]; assumption)) only [W_block, P3, ↓reduceIte, reduceAdd, reduceEqDiff, reduceCtorEq, initFr, reduceLT, clsA, reduceLeDiff, reduceMul, reduceSub, reduceIte, gK, lc, GotV]
  have fin0 : ∀ K' : AHeap, Keeps K K' → geM b = none → ∀ fr : List Value, fr.getD 1 undef = ptr H.n 0 → fr.getD 2 undef = .int .i64 130 → Q .ret fr (K'.set H.n (.cells true false 78 Z78 41)) := by
    intro K' k g fr e1 e2
    have := k.n
    refine hq2 _ _ ⟨_, res _ _ 130 (AHeap.get_set_same (k.at_ hz) _) lz fr e1 e2, (kH.trans k).set (Nat.le_refl _) (by omega) _, ?_⟩
    unfold G25; rw [g]; rfl
  cases hok : okC b with
  | false =>
    simp (disch := first | assumption | omega | (simp only [LN] <;> omega) | (simp (disch := first | assumption | omega | (simp only [LN] <;> omega)) only [row_alloc, row_set]; assumption)) only [f25, cpost, W_block, P3, ↓reduceIte, reduceAdd, reduceEqDiff, reduceCtorEq, initFr, reduceLT, clsA, reduceLeDiff, reduceMul, reduceSub, reduceIte, hz, z78, lz]
    exact fin0 K (Keeps.refl K) (by rw [hge, if_neg]; rintro ⟨h, _⟩; rw [hok] at h; cases h) _ rfl rfl
  | true =>
    simp (disch := first | assumption | omega | (simp only [LN] <;> omega) | (simp (disch := first | assumption | omega | (simp only [LN] <;> omega)) only [row_alloc, row_set]; assumption)) only [f25, cpost, W_block, P3, ↓reduceIte, reduceAdd, reduceEqDiff, reduceCtorEq, initFr, reduceLT, clsA, reduceLeDiff, reduceMul, reduceSub, reduceIte]
    refine callP (q51 rr) ?_
    by_cases hp : b.length < posM b
    · have ed : decide (b.length < posM b) = true := by simp [hp]
      rw [ed]
      simp (disch := first | assumption | omega | (simp only [LN] <;> omega) | (simp (disch := first | assumption | omega | (simp only [LN] <;> omega)) only [row_alloc, row_set]; assumption)) only [W_block, P3, ↓reduceIte, reduceAdd, reduceEqDiff, reduceCtorEq, initFr, reduceLT, clsA, reduceLeDiff, reduceMul, reduceSub, reduceIte, hz, z78, lz]
      exact fin0 K (Keeps.refl K) (by rw [hge, if_neg]; rintro ⟨_, h, _⟩; exact h hp) _ rfl rfl
    have ed : decide (b.length < posM b) = false := by simp [hp]
    rw [ed]
    by_cases hn : b = []
    · have hl0 : b.length = 0 := by rw [hn]; rfl
      simp (disch := first | assumption | omega | (simp only [LN] <;> omega) | (simp (disch := first | assumption | omega | (simp only [LN] <;> omega)) only [row_alloc, row_set]; assumption)) only [W_block, P3, ↓reduceIte, reduceAdd, reduceEqDiff, reduceCtorEq, initFr, reduceLT, clsA, reduceLeDiff, reduceMul, reduceSub, reduceIte, hlen, hl0, hz, z78, lz]
      exact fin0 K (Keeps.refl K) (by rw [hge, if_neg]; rintro ⟨_, _, h, _⟩; exact h hn) _ rfl rfl
    have hpos : ¬ ((b.length : Nat) : Int) = 0 := by
      have : 0 < b.length := List.length_pos_iff.2 hn
      omega
    simp (disch := first | assumption | omega | (simp only [LN] <;> omega) | (simp (disch := first | assumption | omega | (simp only [LN] <;> omega)) only [row_alloc, row_set]; assumption)) only [W_block, P3, ↓reduceIte, reduceAdd, reduceEqDiff, reduceCtorEq, initFr, reduceLT, clsA, reduceLeDiff, reduceMul, reduceSub, reduceIte, hlen, hpos, gm, lx]
    refine callK (t27 hrg tb (by omega)) ?_
    rintro w2 K2 o2
    have k2 := o2.k
    have hb2 := hb.bs.keeps (kH.trans k2)
    simp (disch := first | assumption | omega | (simp only [LN] <;> omega) | (simp (disch := first | assumption | omega | (simp only [LN] <;> omega)) only [row_alloc, row_set]; assumption)) only [W_block, P3, ↓reduceIte, reduceAdd, reduceEqDiff, reduceCtorEq, initFr, reduceLT, clsA, reduceLeDiff, reduceMul, reduceSub, reduceIte]
    refine callP (t52 o2.bs hb2) ?_
    by_cases heq : pM x = b
    · have e1 : decide (pM x = b) = true := by simp [heq]
      rw [e1]
      simp (disch := first | assumption | omega | (simp only [LN] <;> omega) | (simp (disch := first | assumption | omega | (simp only [LN] <;> omega)) only [row_alloc, row_set, Keeps.row k2]; assumption)) only [Keeps.get k2, Keeps.row k2, W_block, P3, ↓reduceIte, reduceAdd, reduceEqDiff, reduceCtorEq, initFr, reduceLT, clsA, reduceLeDiff, reduceMul, reduceSub, reduceIte, gm, lx, ox, hz, lz]
      refine hq2 _ _ ⟨_, res _ _ 0 (AHeap.get_set_same (k2.at_ hz) _) lx _ rfl rfl, (kH.trans k2).set (Nat.le_refl _) (by have := k2.n; omega) _, ?_⟩
      unfold G25
      rw [hge, if_pos ⟨hok, hp, hn, heq⟩]
      exact ⟨u, rfl, TB.off (tb.keeps k2) (k2.at_ hz) _⟩
    · have e1 : decide (pM x = b) = false := by simp [heq]
      rw [e1]
      simp (disch := first | assumption | omega | (simp only [LN] <;> omega) | (simp (disch := first | assumption | omega | (simp only [LN] <;> omega)) only [row_alloc, row_set, Keeps.row k2]; assumption)) only [Keeps.get k2, Keeps.row k2, W_block, P3, ↓reduceIte, reduceAdd, reduceEqDiff, reduceCtorEq, initFr, reduceLT, clsA, reduceLeDiff, reduceMul, reduceSub, reduceIte, gm, lx, ox, hz, lz, z78]
      exact fin0 K2 k2 (by rw [hge, if_neg]; rintro ⟨_, _, _, h⟩; exact heq h) _ rfl rfl
end Go.AM.Rg

set_option linter.unusedSimpArgs false
set_option linter.unusedVariables false
namespace Go.AM
inductive CKd
  | int (k : IntKind)
  | bool
  | str
  | sl (t : TypeId)
def ckFs (P : Program) (f : TypeId → Option (List CKd)) : List Field → Nat → Option (List CKd)
  | [], _ => some []
  | fd :: r, off => if fd.offset = off then match f fd.type with
    | some l => if P.cellsOf fd.type = l.length then (ckFs P f r (off + l.length)).map (l ++ ·) else none
    | none => none
    else none
def ckT (P : Program) : Nat → TypeId → Option (List CKd)
  | 0, _ => none
  | d + 1, t => match P.underlying t with
    | some .bool => some [.bool]
    | some (.int k) => some [.int k]
    | some .string => some [.str]
    | some (.slice _) => some [.sl t]
    | some (.struct fs) => match ckFs P (ckT P d) fs.toList 0 with
      | some l => if P.cellsOf t = l.length then some l else none
      | none => none
    | some (.array n e) => match ckT P d e with
      | some l => if P.cellsOf e = l.length ∧ P.cellsOf t = n * l.length then some (List.replicate n l).flatten else none
      | none => none
    | _ => none
def fits (P : Program) (G : Gf) : CKd → Value → Prop
  | .int k, v => ∃ n, v = .int k n ∧ (Lit.int k n).wf = true
  | .bool, v => ∃ b, v = .bool b
  | .str, v => ∃ s, v = .string s ∧ s.size ≤ maxLen
  | .sl t, v => AR P G t [v]
def fitsL (P : Program) (G : Gf) : List CKd → List Value → Prop
  | [], [] => True
  | k :: ks, v :: vs => fits P G k v ∧ fitsL P G ks vs
  | _, _ => False
section
variable {P : Program} {G : Gf}
theorem fitsL.len : ∀ {ks : List CKd} {cs : List Value}, fitsL P G ks cs → cs.length = ks.length
  | [], [], _ => rfl
  | _ :: ks, _ :: cs, h => by simp [fitsL.len h.2]
theorem fitsL.inv {k : CKd} {ks : List CKd} {cs : List Value} (h : fitsL P G (k :: ks) cs) : ∃ v vs, cs = v :: vs ∧ fits P G k v ∧ fitsL P G ks vs := by
  cases cs with
  | nil => exact h.elim
  | cons v vs => exact ⟨v, vs, rfl, h.1, h.2⟩
theorem fitsL.end_ {cs : List Value} (h : fitsL P G [] cs) : cs = [] := by
  cases cs with
  | nil => rfl
  | cons v vs => exact h.elim
theorem fitsL.app : ∀ {a b : List CKd} {c d : List Value}, fitsL P G a c → fitsL P G b d → fitsL P G (a ++ b) (c ++ d)
  | [], _, [], _, _, h => h
  | _ :: _, _, _ :: _, _, h, k => ⟨h.1, fitsL.app h.2 k⟩
theorem fitsL.split : ∀ {a b : List CKd} {cs : List Value}, fitsL P G (a ++ b) cs → fitsL P G a (cs.take a.length) ∧ fitsL P G b (cs.drop a.length)
  | [], b, cs, h => ⟨by simp [fitsL], by simpa using h⟩
  | k :: a, b, v :: cs, h => by
    have := fitsL.split (a := a) (b := b) (cs := cs) h.2
    exact ⟨⟨h.1, this.1⟩, this.2⟩
theorem fitsL.mono {G' : Gf} (hg : ∀ b o, G b = some o → G' b = some o) : ∀ {ks : List CKd} {cs : List Value}, fitsL P G ks cs → fitsL P G' ks cs
  | [], [], _ => trivial
  | .int _ :: _, _ :: _, h => ⟨h.1, h.2.mono hg⟩
  | .bool :: _, _ :: _, h => ⟨h.1, h.2.mono hg⟩
  | .str :: _, _ :: _, h => ⟨h.1, h.2.mono hg⟩
  | .sl t :: _, v :: _, h => ⟨AR.mono hg (show AR P G t [v] from h.1), h.2.mono hg⟩
theorem fitsL.u8 : ∀ {n : Nat} {cs : List Value}, fitsL P G (List.replicate n (.int .u8)) cs → ∃ l : List UInt8, l.length = n ∧ cs = cellsOf l
  | 0, [], _ => ⟨[], rfl, rfl⟩
  | n + 1, v :: cs, h => by
    obtain ⟨⟨m, rfl, hw⟩, h2⟩ := h
    obtain ⟨l, h3, rfl⟩ := fitsL.u8 h2
    simp only [Lit.wf, Bool.and_eq_true, decide_eq_true_eq, IntKind.min, IntKind.max, IntKind.signed, IntKind.bits] at hw
    obtain ⟨m, rfl⟩ : ∃ k : Nat, m = k := ⟨m.toNat, by simp at hw; omega⟩
    have hm : m % 256 = m := by simp at hw; omega
    exact ⟨UInt8.ofNat m :: l, by simp [h3], by simp [cellsOf, hm]⟩
theorem fits_u {k : IntKind} (hk : k.signed = false) {v : Value} (h : fits P G (.int k) v) : ∃ n : Nat, v = .int k n ∧ n < 2 ^ k.bits := by
  obtain ⟨n, rfl, hw⟩ := h
  simp only [Lit.wf, Bool.and_eq_true, decide_eq_true_eq, IntKind.min, IntKind.max, hk, Bool.false_eq_true, if_false] at hw
  refine ⟨n.toNat, by rw [Int.toNat_of_nonneg hw.1], ?_⟩
  have h1 := hw.1
  have h2 := hw.2
  have : (n.toNat : Int) < ((2 ^ k.bits : Nat) : Int) := by
    rw [Int.toNat_of_nonneg h1]
    push_cast
    omega
  exact Int.ofNat_lt.1 this
theorem fits_u8 {v : Value} (h : fits P G (.int .u8) v) : ∃ n : Nat, v = .int .u8 n ∧ n < 256 := fits_u rfl h
theorem fits_u32 {v : Value} (h : fits P G (.int .u32) v) : ∃ n : Nat, v = .int .u32 n ∧ n < 4294967296 := fits_u rfl h
theorem fits_u64 {v : Value} (h : fits P G (.int .u64) v) : ∃ n : Nat, v = .int .u64 n ∧ n < 18446744073709551616 := fits_u rfl h
theorem fits_i64 {v : Value} (h : fits P G (.int .i64) v) : ∃ n : Int, v = .int .i64 n ∧ -9223372036854775808 ≤ n ∧ n ≤ 9223372036854775807 := by
  obtain ⟨n, rfl, hw⟩ := h
  simp only [Lit.wf, Bool.and_eq_true, decide_eq_true_eq, IntKind.min, IntKind.max, IntKind.signed, IntKind.bits] at hw
  exact ⟨n, rfl, by simpa using hw.1, by have := hw.2; simp at this; omega⟩
theorem fitsL_fields {f : TypeId → Option (List CKd)} {cs : List Value} : ∀ (fs : List Field) (off : Nat) (ks : List CKd), ckFs P f fs off = some ks → cs.length = off + ks.length →
    (∀ fd ∈ fs, ∀ l, f fd.type = some l → P.cellsOf fd.type = l.length → fitsL P G l ((cs.drop fd.offset).take (P.cellsOf fd.type))) → fitsL P G ks (cs.drop off)
  | [], off, ks, h, hl, _ => by
    simp only [ckFs, Option.some.injEq] at h; subst h
    rw [List.drop_of_length_le (by simp at hl; omega)]; trivial
  | fd :: fs, off, ks, h, hl, hf => by
    simp only [ckFs] at h
    split at h
    · rename_i h1
      split at h
      · rename_i l h2
        split at h
        · rename_i h3
          simp only [Option.map_eq_some_iff] at h
          obtain ⟨r, h4, rfl⟩ := h
          have h5 := hf fd (by simp) l h2 h3
          have h6 := fitsL_fields fs (off + l.length) r h4 (by rw [hl, List.length_append]; omega) (fun x hx => hf x (by simp [hx]))
          rw [h1, h3] at h5
          have := h5.app h6
          rwa [← List.drop_drop, List.take_append_drop] at this
        · cases h
      · cases h
    · cases h
theorem fitsL_rep {l : List CKd} {cs : List Value} : ∀ (n : Nat), (∀ i, i < n → fitsL P G l ((cs.drop (i * l.length)).take l.length)) → fitsL P G (List.replicate n l).flatten (cs.take (n * l.length))
  | 0, _ => by simp [fitsL]
  | n + 1, h => by
    have h1 := fitsL_rep n (fun i hi => h i (by omega))
    rw [List.replicate_succ', List.flatten_append, Nat.add_mul, Nat.one_mul, List.take_add]
    simpa using h1.app (h n (by omega))
theorem AR.flat : ∀ {d : Nat} {t : TypeId} {ks : List CKd} {cs : List Value}, ckT P d t = some ks → AR P G t cs → fitsL P G ks cs
  | 0, t, ks, cs, h, _ => by simp [ckT] at h
  | d + 1, t, ks, cs, h, ha => by
    have ha0 := ha
    cases ha with
    | bool hu => simp only [ckT, hu, Option.some.injEq] at h; subst h; exact ⟨⟨_, rfl⟩, trivial⟩
    | int hu hw => simp only [ckT, hu, Option.some.injEq] at h; subst h; exact ⟨⟨_, rfl, hw⟩, trivial⟩
    | str hu hs => simp only [ckT, hu, Option.some.injEq] at h; subst h; exact ⟨⟨_, rfl, hs⟩, trivial⟩
    | nil hu => simp only [ckT, hu, Option.some.injEq] at h; subst h; exact ⟨ha0, trivial⟩
    | zero hu _ => simp only [ckT, hu, Option.some.injEq] at h; subst h; exact ⟨ha0, trivial⟩
    | sl hu => simp only [ckT, hu, Option.some.injEq] at h; subst h; exact ⟨ha0, trivial⟩
    | struct hu hl hf =>
      rename_i fs
      simp only [ckT, hu] at h
      split at h
      · rename_i l h1
        split at h
        · rename_i h2
          simp only [Option.some.injEq] at h; subst h
          have := fitsL_fields (cs := cs) (G := G) fs.toList 0 _ h1 (by rw [hl, h2]; omega) (fun fd hfd l hl' hz => by
            obtain ⟨i, hi, hfi⟩ := List.mem_iff_getElem.1 hfd
            have hi' : i < fs.size := by simpa using hi
            exact (hf i fd (by rw [Array.getElem?_eq_getElem hi', ← hfi]; simp)).flat hl')
          simpa using this
        · cases h
      · cases h
    | array hu hl hi =>
      rename_i e n
      simp only [ckT, hu] at h
      split at h
      · rename_i l h1
        split at h
        · rename_i h2
          simp only [Option.some.injEq] at h; subst h
          have := fitsL_rep (P := P) (G := G) (l := l) (cs := cs) n (fun i hin => by
            have := hi i hin
            rw [h2.1] at this
            exact this.flat h1)
          rwa [List.take_of_length_le (by rw [hl, h2.2]; omega)] at this
        · cases h
      · cases h
end
end Go.AM

set_option linter.unusedSimpArgs false
set_option linter.unusedVariables false
namespace Go.AM.Rg
open Nat (reduceAdd reduceEqDiff reduceLT reduceLeDiff reduceMul reduceSub)
open Go.Proofs Go.AM.F Go.AM.Fd
def geY (b : List UInt8) : Ms := (geM b).getD M0
def okY (b : List UInt8) : Bool := (geM b).isSome
theorem rgM0 : rgM M0 := ⟨by decide, by unfold i64B; decide, by unfold i64B; decide, by unfold i64B; decide, by unfold i64B; decide, rgSt0, by decide, by decide, by decide, by decide, fun t h => by cases h⟩
theorem geM_inv {b : List UInt8} {y : Ms} (h : geM b = some y) : y = rdM b ∧ pM y = b := by
  unfold geM at h
  split at h
  · rename_i hc
    cases h
    exact ⟨rfl, hc.2.2⟩
  · cases h
theorem geY_rg (b : List UInt8) : rgM (geY b) ∧ (geY b).d.l.length ≤ 255 := by
  unfold geY
  cases h : geM b with
  | none => exact ⟨rgM0, Nat.zero_le _⟩
  | some y => obtain ⟨rfl, _⟩ := geM_inv h; exact ⟨rdM_rg b, rdM_len b⟩
theorem geY_p {b : List UInt8} (h : okY b = true) : pM (geY b) = b := by
  unfold okY at h
  unfold geY
  cases e : geM b with
  | none => rw [e] at h; cases h
  | some y => exact (geM_inv e).2
theorem u25 {H : AHeap} {v : Value} {b : List UInt8} (hb : BQ H v b) (hl : b.length ≤ 100000) : ∃ w H', ARun Try.prog 0 25 [v] H w H' ∧ ∃ u, w = .tuple #[.agg (cM (geY b) u).toArray, .int .i64 (if okY b then 0 else 130)] ∧ Rp.TB H' u (geY b).d.l ∧ Keeps H H' := by
  obtain ⟨w, H', r, k, g⟩ := t25 hb hl
  unfold G25 at g
  unfold geY okY
  cases e : geM b with
  | none => rw [e] at g; exact ⟨w, H', r, _, g, ⟨none, 0, rfl, fun h => absurd rfl h⟩, k⟩
  | some y => rw [e] at g; obtain ⟨u, g1, g2⟩ := g; exact ⟨w, H', r, u, g1, g2, k⟩
theorem u26 {H : AHeap} {v : Value} {b : List UInt8} (hb : BQ H v b) (hl : b.length ≤ 100000) : ∃ w H', ARun Try.prog 0 26 [v] H w H' ∧ ∃ u, w = .tuple #[.agg (cM (geY b) u).toArray, .bool (okY b)] ∧ Rp.TB H' u (geY b).d.l ∧ Keeps H H' := by
  obtain ⟨w, H', r, k, g⟩ := t26 hb hl
  unfold G26 at g
  unfold geY okY
  cases e : geM b with
  | none => rw [e] at g; exact ⟨w, H', r, _, g, ⟨none, 0, rfl, fun h => absurd rfl h⟩, k⟩
  | some y => rw [e] at g; obtain ⟨u, g1, g2⟩ := g; exact ⟨w, H', r, u, g1, g2, k⟩
theorem pM_len {x : Ms} (h : x.s.t.length = 64) : (pM x).length ≤ 1000 := by
  unfold pM
  split
  · rename_i hm
    have := (may_inv hm).2.2.2.2.2.2.2
    unfold enM
    rw [List.length_append, hdM_len]
    split
    · rw [fSt_len h]; omega
    split
    · rw [dB_len]; omega
    · simp
  · simp
theorem q12 {H : AHeap} {x : Ms} (ht : x.s.t.length = 64) {u : Value} (h : Rp.TB H u x.d.l) (hl : x.d.l.length ≤ 100000) : ∃ r H', ARun Try.prog 0 12 [.agg (cM x u).toArray] H r H' ∧ ∃ w, r = .agg (cM x w).toArray ∧ Rp.TB H' w x.d.l ∧ Keeps H H' := by
  obtain ⟨r, H', a, k, w, e, t, _⟩ := Rp.t12g (m := M x) (toS_len ht) h hl
  exact ⟨r, H', a, w, e, t, k⟩
theorem q13 {H : AHeap} {x : Ms} (ht : x.s.t.length = 64) {u w : Value} (h : Rp.TB H u x.d.l) (h' : Rp.TB H w x.d.l) (hl : x.d.l.length ≤ 100000) : ∃ r H', ARun Try.prog 0 13 [.agg (cM x u).toArray, .agg (cM x w).toArray] H r H' ∧ r = .bool true ∧ Keeps H H' :=
  Rp.t13g (m := M x) (toS_len ht) h h' hl
def M6 (x : Ms) (u v : Value) (fr : List Value) (K : AHeap) : Prop :=
  ∃ (p e2 e4 e5 e6 e7 e8 e14 e15 e16 : Value), fr = [.agg (cM x u).toArray, v, e2, .bool false, e4, e5, e6, e7, e8, p, undef, undef, undef, undef, e14, e15, e16] ∧ BQ K p (pM x)
set_option maxHeartbeats 1000000 in
theorem p6 {H : AHeap} {x : Ms} {u v : Value} {b : List UInt8} (hx : rgM x) (tb : Rp.TB H u x.d.l) (hb : BQ H v b) (Q : AQ) (hq1 : ∀ fr K, M6 x u v fr K → Q .normal fr K) (hq2 : ∀ fr K, resO f6.res fr K = some (.bool true) → Q .ret fr K) : W Try.prog 0 (cpre 8 f6.body) Q (initFr f6.sl [.agg (cM x u).toArray, v]) H := by
  have ht := hx.s.ht
  have lx := cM_len u ht
  have ox := cM_one x tb.one
  have z78 : Z78.all Value.oneCell' = true := rfl
  have lz : Z78.length = 78 := rfl
  have hs := hb.bs.sl
  have his := hs.is
  have hlen := hs.len
  rw [List.length_map] at hlen
  have hul := TB_len tb
  have hul1 := hul.1
  have hul2 := hul.2
  by_cases c1 : (200 : Int) < (x.d.l.length : Nat)
  · simp (disch := first | assumption | omega | (simp only [LN] <;> omega) | (simp (disch := first | assumption | omega | (simp only [LN] <;> omega)) only [row_alloc, row_set]; assumption)) only [f6, cpre, W_block, P3, ↓reduceIte, reduceAdd, reduceEqDiff, reduceCtorEq, initFr, reduceLT, clsA, reduceLeDiff, reduceMul, reduceSub, reduceIte, ox, cM_77, hul2, c1]
    refine ⟨_, _, Rp.works_any _, ?_⟩
    simp (disch := first | assumption | omega | (simp only [LN] <;> omega) | (simp (disch := first | assumption | omega | (simp only [LN] <;> omega)) only [row_alloc, row_set]; assumption)) only [W_block, P3, ↓reduceIte, reduceAdd, reduceEqDiff, reduceCtorEq, initFr, reduceLT, clsA, reduceLeDiff, reduceMul, reduceSub, reduceIte]
    exact hq2 _ _ rfl
  by_cases c2 : (1000 : Int) < (b.length : Nat)
  · simp (disch := first | assumption | omega | (simp only [LN] <;> omega) | (simp (disch := first | assumption | omega | (simp only [LN] <;> omega)) only [row_alloc, row_set]; assumption)) only [f6, cpre, W_block, P3, ↓reduceIte, reduceAdd, reduceEqDiff, reduceCtorEq, initFr, reduceLT, clsA, reduceLeDiff, reduceMul, reduceSub, reduceIte, ox, cM_77, hul2, c1, hlen, c2]
    refine ⟨_, _, Rp.works_any _, ?_⟩
    simp (disch := first | assumption | omega | (simp only [LN] <;> omega) | (simp (disch := first | assumption | omega | (simp only [LN] <;> omega)) only [row_alloc, row_set]; assumption)) only [W_block, P3, ↓reduceIte, reduceAdd, reduceEqDiff, reduceCtorEq, initFr, reduceLT, clsA, reduceLeDiff, reduceMul, reduceSub, reduceIte]
    exact hq2 _ _ rfl
  have c1' : x.d.l.length ≤ 200 := by omega
  have c2' : b.length ≤ 1000 := by omega
  obtain ⟨H1, hH1⟩ : ∃ X, X = H.alloc (.cells true false 78 (cM x u) 41) := ⟨_, rfl⟩
  have k1 : Keeps H H1 := by rw [hH1]; exact (Keeps.refl H).alloc _
  have g1 : H1.get H.n = some (.cells true false 78 (cM x u) 41) := by rw [hH1]; exact AHeap.get_alloc_new _ _
  have hb1 := hb.keeps k1
  simp (disch := first | assumption | omega | (simp only [LN] <;> omega) | (simp (disch := first | assumption | omega | (simp only [LN] <;> omega)) only [row_alloc, row_set]; assumption)) only [f6, cpre, W_block, P3, ↓reduceIte, reduceAdd, reduceEqDiff, reduceCtorEq, initFr, reduceLT, clsA, reduceLeDiff, reduceMul, reduceSub, reduceIte, ox, cM_77, hul2, c1, hlen, c2]
  rw [← hH1]
  simp (disch := first | assumption | omega | (simp only [LN] <;> omega) | (simp (disch := first | assumption | omega | (simp only [LN] <;> omega)) only [row_alloc, row_set]; assumption)) only [W_block, P3, ↓reduceIte, reduceAdd, reduceEqDiff, reduceCtorEq, initFr, reduceLT, clsA, reduceLeDiff, reduceMul, reduceSub, reduceIte, a_b2sB hb1.bs, a_s2bl]
  obtain ⟨H2, hH2⟩ : ∃ X, X = H1.alloc (.cells true true 1 (cellsOf b) 5) := ⟨_, rfl⟩
  have o2 : OB 5 H1 H2 (slc H1.n 0 b.length b.length) b := by rw [hH2]; exact OB.lit (Keeps.refl _) rfl rfl rfl true
  rw [← hH2]
  obtain ⟨vi, hvi⟩ : ∃ vi, vi = slc H1.n 0 b.length b.length := ⟨_, rfl⟩
  rw [← hvi] at o2 ⊢
  refine callK (u25 o2.bq (by omega)) ?_
  rintro _ H3 ⟨u3, rfl, tb3, k3⟩
  obtain ⟨y, hy⟩ : ∃ y, y = geY b := ⟨_, rfl⟩
  have hyr := geY_rg b
  rw [← hy] at hyr tb3 ⊢
  obtain ⟨hyr, hyl⟩ := hyr
  have hyt := hyr.s.ht
  have l3 := cM_len u3 hyt
  have x3 := cM_one y tb3.one
  simp (disch := first | assumption | omega | (simp only [LN] <;> omega) | (simp (disch := first | assumption | omega | (simp only [LN] <;> omega)) only [row_alloc, row_set]; assumption)) only [W_block, P3, ↓reduceIte, reduceAdd, reduceEqDiff, reduceCtorEq, initFr, reduceLT, clsA, reduceLeDiff, reduceMul, reduceSub, reduceIte, z78, lz, l3, x3]
  obtain ⟨H4, hH4⟩ : ∃ X, X = H3.alloc (.cells true false 78 (cM y u3) 41) := ⟨_, rfl⟩
  have k4 : Keeps H3 H4 := by rw [hH4]; exact (Keeps.refl H3).alloc _
  have g4 : H4.get H3.n = some (.cells true false 78 (cM y u3) 41) := by rw [hH4]; exact AHeap.get_alloc_new _ _
  have kk4 := (o2.k.trans k3).trans k4
  rw [← hH4]
  refine callK (u26 (hb1.keeps kk4) (by omega)) ?_
  rintro _ H5 ⟨u5, rfl, tb5, k5⟩
  rw [← hy] at tb5 ⊢
  have l5 := cM_len u5 hyt
  have x5 := cM_one y tb5.one
  simp (disch := first | assumption | omega | (simp only [LN] <;> omega) | (simp (disch := first | assumption | omega | (simp only [LN] <;> omega)) only [row_alloc, row_set]; assumption)) only [W_block, P3, ↓reduceIte, reduceAdd, reduceEqDiff, reduceCtorEq, initFr, reduceLT, clsA, reduceLeDiff, reduceMul, reduceSub, reduceIte, z78, lz, l5, x5]
  obtain ⟨H6, hH6⟩ : ∃ X, X = H5.alloc (.cells true false 78 (cM y u5) 38) := ⟨_, rfl⟩
  have k6 : Keeps H5 H6 := by rw [hH6]; exact (Keeps.refl H5).alloc _
  have g6 : H6.get H5.n = some (.cells true false 78 (cM y u5) 38) := by rw [hH6]; exact AHeap.get_alloc_new _ _
  rw [← hH6]
  have k16 := (kk4.trans k5).trans k6
  have g16 := k16.at_ g1
  simp (disch := first | assumption | omega | (simp only [LN] <;> omega) | (simp (disch := first | assumption | omega | (simp only [LN] <;> omega)) only [row_alloc, row_set]; assumption)) only [W_block, P3, ↓reduceIte, reduceAdd, reduceEqDiff, reduceCtorEq, initFr, reduceLT, clsA, reduceLeDiff, reduceMul, reduceSub, reduceIte, g16, lx]
  refine callK (t27 hx (tb.keeps (k1.trans k16)) (by omega)) ?_
  rintro p H7 o7
  simp (disch := first | assumption | omega | (simp only [LN] <;> omega) | (simp (disch := first | assumption | omega | (simp only [LN] <;> omega)) only [row_alloc, row_set]; assumption)) only [W_block, P3, ↓reduceIte, reduceAdd, reduceEqDiff, reduceCtorEq, initFr, reduceLT, clsA, reduceLeDiff, reduceMul, reduceSub, reduceIte]
  have k7 := o7.k
  have g17 := k7.at_ g16
  have hp7 := o7.bs
  simp (disch := first | assumption | omega | (simp only [LN] <;> omega) | (simp (disch := first | assumption | omega | (simp only [LN] <;> omega)) only [row_alloc, row_set]; assumption)) only [W_block, P3, ↓reduceIte, reduceAdd, reduceEqDiff, reduceCtorEq, initFr, reduceLT, clsA, reduceLeDiff, reduceMul, reduceSub, reduceIte, a_b2sB hp7, g17, lx]
  refine callK (q12 ht (tb.keeps ((k1.trans k16).trans k7)) (by omega)) ?_
  rintro _ H8 ⟨u8, rfl, tb8, k8⟩
  simp (disch := first | assumption | omega | (simp only [LN] <;> omega) | (simp (disch := first | assumption | omega | (simp only [LN] <;> omega)) only [row_alloc, row_set]; assumption)) only [W_block, P3, ↓reduceIte, reduceAdd, reduceEqDiff, reduceCtorEq, initFr, reduceLT, clsA, reduceLeDiff, reduceMul, reduceSub, reduceIte]
  refine ⟨by rw [if_pos (.inl trivial), touch_b2s]; exact (tbk hp7 k8).2, ?_⟩
  refine callK (t28 hx tb8 (by omega)) ?_
  rintro p9 H9 o9
  have k9 := o9.k
  have kk9 := k8.trans k9
  have g49 := kk9.at_ (k7.at_ ((k5.trans k6).at_ g4))
  simp (disch := first | assumption | omega | (simp only [LN] <;> omega) | (simp (disch := first | assumption | omega | (simp only [LN] <;> omega)) only [row_alloc, row_set]; assumption)) only [W_block, P3, ↓reduceIte, reduceAdd, reduceEqDiff, reduceCtorEq, initFr, reduceLT, clsA, reduceLeDiff, reduceMul, reduceSub, reduceIte, a_b2sB o9.bs, bytes_eq, decide_true, g49, l3]
  refine ⟨by rw [if_pos (.inl trivial), touch_b2s]; exact (tbk (hp7.keeps k8) k9).2, ?_⟩
  have tbA := tb3.keeps ((((k4.trans k5).trans k6).trans k7).trans kk9)
  refine callK (q12 hyt tbA (by omega)) ?_
  rintro _ H10 ⟨u10, rfl, tb10, k10⟩
  have k79 := kk9.trans k10
  have g610 := k79.at_ (k7.at_ g6)
  simp (disch := first | assumption | omega | (simp only [LN] <;> omega) | (simp (disch := first | assumption | omega | (simp only [LN] <;> omega)) only [row_alloc, row_set]; assumption)) only [W_block, P3, ↓reduceIte, reduceAdd, reduceEqDiff, reduceCtorEq, initFr, reduceLT, clsA, reduceLeDiff, reduceMul, reduceSub, reduceIte, g610, l5]
  have g69 := kk9.at_ (k7.at_ g6)
  have tb5b := tb5.keeps ((k6.trans k7).trans k79)
  refine ⟨⟨AHeap.get_lt g69, g69.symm⟩, ?_⟩
  refine callK (q13 hyt tb10 tb5b (by omega)) ?_
  rintro _ H11 ⟨rfl, k11⟩
  have k27 := ((((k3.trans k4).trans k5).trans k6).trans k7)
  have hin := (o2.bs.keeps k27).keeps (k79.trans k11)
  have hb11 := hb1.bs.keeps ((o2.k.trans k27).trans (k79.trans k11))
  have hp11 := o7.bq.keeps (k79.trans k11)
  have g4b := (k79.trans k11).at_ (k7.at_ ((k5.trans k6).at_ g4))
  cases hok : okY b with
  | false =>
    simp (disch := first | assumption | omega | (simp only [LN] <;> omega) | (simp (disch := first | assumption | omega | (simp only [LN] <;> omega)) only [row_alloc, row_set]; assumption)) only [W_block, P3, ↓reduceIte, reduceAdd, reduceEqDiff, reduceCtorEq, initFr, reduceLT, clsA, reduceLeDiff, reduceMul, reduceSub, reduceIte, a_b2sB hin, a_b2sB hb11, bytes_eq, decide_true]
    exact hq1 _ _ ⟨p, _, _, _, _, _, _, _, _, _, rfl, hp11⟩
  | true =>
    simp (disch := first | assumption | omega | (simp only [LN] <;> omega) | (simp (disch := first | assumption | omega | (simp only [LN] <;> omega)) only [row_alloc, row_set]; assumption)) only [W_block, P3, ↓reduceIte, reduceAdd, reduceEqDiff, reduceCtorEq, initFr, reduceLT, clsA, reduceLeDiff, reduceMul, reduceSub, reduceIte, a_b2sB hin, a_b2sB hb11, bytes_eq, decide_true, g4b, l3]
    refine callK (t27 hyr (tb3.keeps ((((k4.trans k5).trans k6).trans k7).trans (k79.trans k11))) (by omega)) ?_
    rintro p12 H12 o12
    have ey : pM y = b := by rw [hy]; exact geY_p hok
    have o12' := o12.bs
    rw [ey] at o12'
    simp (disch := first | assumption | omega | (simp only [LN] <;> omega) | (simp (disch := first | assumption | omega | (simp only [LN] <;> omega)) only [row_alloc, row_set]; assumption)) only [W_block, P3, ↓reduceIte, reduceAdd, reduceEqDiff, reduceCtorEq, initFr, reduceLT, clsA, reduceLeDiff, reduceMul, reduceSub, reduceIte, a_b2sB o12', a_b2sB (hb11.keeps o12.k), bytes_eq, decide_true, touch_b2s, ite_self]
    refine ⟨tbk hb11 o12.k, ?_⟩
    exact hq1 _ _ ⟨p, _, _, _, _, _, _, _, _, _, rfl, hp11.keeps o12.k⟩
set_option maxHeartbeats 1000000 in
theorem t6 {H : AHeap} {x : Ms} {u v : Value} {b : List UInt8} (hx : rgM x) (tb : Rp.TB H u x.d.l) (hb : BQ H v b) : ∃ w H', ARun Try.prog 0 6 [.agg (cM x u).toArray, v] H w H' ∧ w = .bool true := by
  refine walk2 f6_ok f6_n ?_
  intro Q hq1 hq2
  refine W_part 8 (M6 x u v) (by kernel_rfl) (fun Q' h1 _ h3 => p6 hx tb hb Q' h1 (fun fr K e => h3 _ _ (hq2 _ _ ⟨_, e, rfl⟩))) ?_
  rintro fr K ⟨p, e2, e4, e5, e6, e7, e8, e14, e15, e16, rfl, hp⟩
  have hpl := pM_len (x := x) hx.s.ht
  have z78 : Z78.all Value.oneCell' = true := rfl
  have lz : Z78.length = 78 := rfl
  simp (disch := first | assumption | omega | (simp only [LN] <;> omega) | (simp (disch := first | assumption | omega | (simp only [LN] <;> omega)) only [row_alloc, row_set]; assumption)) only [f6, cpost, W_block, P3, ↓reduceIte, reduceAdd, reduceEqDiff, reduceCtorEq, initFr, reduceLT, clsA, reduceLeDiff, reduceMul, reduceSub, reduceIte]
  refine callK (u25 hp (by omega)) ?_
  rintro _ H3 ⟨u3, rfl, tb3, k3⟩
  obtain ⟨y, hy⟩ : ∃ y, y = geY (pM x) := ⟨_, rfl⟩
  have hyr := geY_rg (pM x)
  rw [← hy] at hyr tb3 ⊢
  obtain ⟨hyr, hyl⟩ := hyr
  have hyt := hyr.s.ht
  have l3 := cM_len u3 hyt
  have x3 := cM_one y tb3.one
  simp (disch := first | assumption | omega | (simp only [LN] <;> omega) | (simp (disch := first | assumption | omega | (simp only [LN] <;> omega)) only [row_alloc, row_set]; assumption)) only [W_block, P3, ↓reduceIte, reduceAdd, reduceEqDiff, reduceCtorEq, initFr, reduceLT, clsA, reduceLeDiff, reduceMul, reduceSub, reduceIte, z78, lz, l3, x3]
  obtain ⟨H4, hH4⟩ : ∃ X, X = H3.alloc (.cells true false 78 (cM y u3) 41) := ⟨_, rfl⟩
  have k4 : Keeps H3 H4 := by rw [hH4]; exact (Keeps.refl H3).alloc _
  have g4 : H4.get H3.n = some (.cells true false 78 (cM y u3) 41) := by rw [hH4]; exact AHeap.get_alloc_new _ _
  rw [← hH4]
  refine callK (u26 (hp.keeps (k3.trans k4)) (by omega)) ?_
  rintro _ H5 ⟨u5, rfl, tb5, k5⟩
  rw [← hy] at tb5 ⊢
  have l5 := cM_len u5 hyt
  have x5 := cM_one y tb5.one
  simp (disch := first | assumption | omega | (simp only [LN] <;> omega) | (simp (disch := first | assumption | omega | (simp only [LN] <;> omega)) only [row_alloc, row_set]; assumption)) only [W_block, P3, ↓reduceIte, reduceAdd, reduceEqDiff, reduceCtorEq, initFr, reduceLT, clsA, reduceLeDiff, reduceMul, reduceSub, reduceIte, z78, lz, l5, x5]
  obtain ⟨H6, hH6⟩ : ∃ X, X = H5.alloc (.cells true false 78 (cM y u5) 38) := ⟨_, rfl⟩
  have k6 : Keeps H5 H6 := by rw [hH6]; exact (Keeps.refl H5).alloc _
  have g6 : H6.get H5.n = some (.cells true false 78 (cM y u5) 38) := by rw [hH6]; exact AHeap.get_alloc_new _ _
  have g46 := (k5.trans k6).at_ g4
  have n6 := AHeap.get_lt g6
  rw [← hH6]
  cases hok : okY (pM x) with
  | false =>
    simp (disch := first | assumption | omega | (simp only [LN] <;> omega) | (simp (disch := first | assumption | omega | (simp only [LN] <;> omega)) only [row_alloc, row_set]; assumption)) only [W_block, P3, ↓reduceIte, reduceAdd, reduceEqDiff, reduceCtorEq, initFr, reduceLT, clsA, reduceLeDiff, reduceMul, reduceSub, reduceIte, g46, l3]
    refine callK (q12 hyt (tb3.keeps ((k4.trans k5).trans k6)) (by omega)) ?_
    rintro _ H10 ⟨u10, rfl, tb10, k10⟩
    have g610 := k10.at_ g6
    simp (disch := first | assumption | omega | (simp only [LN] <;> omega) | (simp (disch := first | assumption | omega | (simp only [LN] <;> omega)) only [row_alloc, row_set]; assumption)) only [W_block, P3, ↓reduceIte, reduceAdd, reduceEqDiff, reduceCtorEq, initFr, reduceLT, clsA, reduceLeDiff, reduceMul, reduceSub, reduceIte, g610, l5]
    refine ⟨g6.symm, ?_⟩
    refine callK (q13 hyt tb10 (tb5.keeps (k6.trans k10)) (by omega)) ?_
    rintro _ H11 ⟨rfl, k11⟩
    simp (disch := first | assumption | omega | (simp only [LN] <;> omega) | (simp (disch := first | assumption | omega | (simp only [LN] <;> omega)) only [row_alloc, row_set]; assumption)) only [W_block, P3, ↓reduceIte, reduceAdd, reduceEqDiff, reduceCtorEq, initFr, reduceLT, clsA, reduceLeDiff, reduceMul, reduceSub, reduceIte]
    refine ⟨_, _, Rp.works_any _, trivial, ?_⟩
    simp (disch := first | assumption | omega | (simp only [LN] <;> omega) | (simp (disch := first | assumption | omega | (simp only [LN] <;> omega)) only [row_alloc, row_set]; assumption)) only [W_block, P3, ↓reduceIte, reduceAdd, reduceEqDiff, reduceCtorEq, initFr, reduceLT, clsA, reduceLeDiff, reduceMul, reduceSub, reduceIte]
    exact hq2 _ _ ⟨_, rfl, rfl⟩
  | true =>
    simp (disch := first | assumption | omega | (simp only [LN] <;> omega) | (simp (disch := first | assumption | omega | (simp only [LN] <;> omega)) only [row_alloc, row_set]; assumption)) only [W_block, P3, ↓reduceIte, reduceAdd, reduceEqDiff, reduceCtorEq, initFr, reduceLT, clsA, reduceLeDiff, reduceMul, reduceSub, reduceIte, g46, l3]
    refine callK (q12 hyt (tb3.keeps ((k4.trans k5).trans k6)) (by omega)) ?_
    rintro _ H10 ⟨u10, rfl, tb10, k10⟩
    have g610 := k10.at_ g6
    simp (disch := first | assumption | omega | (simp only [LN] <;> omega) | (simp (disch := first | assumption | omega | (simp only [LN] <;> omega)) only [row_alloc, row_set]; assumption)) only [W_block, P3, ↓reduceIte, reduceAdd, reduceEqDiff, reduceCtorEq, initFr, reduceLT, clsA, reduceLeDiff, reduceMul, reduceSub, reduceIte, g610, l5]
    refine ⟨g6.symm, ?_⟩
    refine callK (q13 hyt tb10 (tb5.keeps (k6.trans k10)) (by omega)) ?_
    rintro _ H11 ⟨rfl, k11⟩
    simp (disch := first | assumption | omega | (simp only [LN] <;> omega) | (simp (disch := first | assumption | omega | (simp only [LN] <;> omega)) only [row_alloc, row_set]; assumption)) only [W_block, P3, ↓reduceIte, reduceAdd, reduceEqDiff, reduceCtorEq, initFr, reduceLT, clsA, reduceLeDiff, reduceMul, reduceSub, reduceIte]
    refine ⟨_, _, Rp.works_any _, trivial, ?_⟩
    simp (disch := first | assumption | omega | (simp only [LN] <;> omega) | (simp (disch := first | assumption | omega | (simp only [LN] <;> omega)) only [row_alloc, row_set]; assumption)) only [W_block, P3, ↓reduceIte, reduceAdd, reduceEqDiff, reduceCtorEq, initFr, reduceLT, clsA, reduceLeDiff, reduceMul, reduceSub, reduceIte]
    exact hq2 _ _ ⟨_, rfl, rfl⟩
theorem agg_of {v : Value} (h : ∃ cs, v = .agg cs) : ∃ l : List Value, v = .agg l.toArray := by
  obtain ⟨cs, rfl⟩ := h
  exact ⟨cs.toList, by simp⟩
theorem fitSt {G : Gf} {l : List Value} (hf : fitsL Try.prog G (.int .u64 :: .int .u64 :: .int .u64 :: (List.replicate 64 (.int .u8) ++ [.int .u32])) l) : ∃ x, l = cSt x ∧ rgSt x := by
  obtain ⟨a, r0, rfl, h0, g0⟩ := hf.inv
  obtain ⟨b, r1, rfl, h1, g1⟩ := g0.inv
  obtain ⟨c, r2, rfl, h2, g2⟩ := g1.inv
  obtain ⟨n0, rfl, w0⟩ := fits_u64 h0
  obtain ⟨n1, rfl, w1⟩ := fits_u64 h1
  obtain ⟨n2, rfl, w2⟩ := fits_u64 h2
  obtain ⟨h4, h5⟩ := g2.split
  rw [List.length_replicate] at h4 h5
  obtain ⟨t, ht, e4⟩ := h4.u8
  have e : r2 = r2.take 64 ++ r2.drop 64 := (List.take_append_drop 64 r2).symm
  obtain ⟨p, q, e5, h5, h6⟩ := h5.inv
  obtain rfl := h6.end_
  obtain ⟨n3, rfl, w3⟩ := fits_u32 h5
  exact ⟨⟨n0, n1, n2, t, n3⟩, by rw [e, e4, e5]; rfl, ⟨ht, w0, w1, w2, w3⟩⟩
theorem fitT {H : AHeap} {v : Value} (h : AR Try.prog H.get 27 [v]) : ∃ l : List (Int × Int), Rp.TB H v l ∧ ∀ t ∈ l, i64B t.1 ∧ 0 ≤ t.2 ∧ t.2 < 256 := by
  have z90 : Try.prog.cellsOf 90 = 2 := by kernel_rfl
  rcases h.slice_inv Try.underlying27 with h2 | ⟨x, hx, h2⟩ | ⟨b, n, k, c, u, h2, h3, h4, h5, h6, h7, h8⟩
  · cases h2; exact ⟨[], ⟨none, 0, rfl, fun h => absurd rfl h⟩, by simp⟩
  · cases h2; exact ⟨[], ⟨some x, 0, rfl, fun h => absurd rfl h⟩, by simp⟩
  · cases h2
    rw [z90] at h6 h7 h8
    have each : ∀ i, i < k → ∃ x : Int × Int, (c.drop (i * 2)).take 2 = [.int .i64 x.1, .int .u8 x.2] ∧ i64B x.1 ∧ 0 ≤ x.2 ∧ x.2 < 256 := by
      intro i hi
      have hf : fitsL Try.prog H.get [.int .i64, .int .u8] ((c.drop (i * 2)).take 2) := AR.flat (d := 20) (by kernel_rfl) (h8 i hi)
      obtain ⟨a, r0, e0, h0, g0⟩ := hf.inv
      obtain ⟨b', r1, e1, h1, g1⟩ := g0.inv
      obtain rfl := g1.end_
      obtain ⟨m0, rfl, b0⟩ := fits_i64 h0
      obtain ⟨m1, rfl, b1⟩ := fits_u8 h1
      exact ⟨(m0, m1), by rw [e0, e1], b0, by show (0 : Int) ≤ _; omega, by show _ < (256 : Int); omega⟩
    obtain ⟨f, hf⟩ : ∃ f : Nat → Int × Int, ∀ i, i < k → (c.drop (i * 2)).take 2 = [.int .i64 (f i).1, .int .u8 (f i).2] ∧ i64B (f i).1 ∧ 0 ≤ (f i).2 ∧ (f i).2 < 256 :=
      ⟨fun i => if h : i < k then (each i h).choose else (0, 0), fun i hi => by simp only [hi, dif_pos]; exact (each i hi).choose_spec⟩
    refine ⟨(List.range n).map f, ⟨some ⟨b, 0, none⟩, k, by simp [slc], fun _ => ⟨b, false, false, c, u, rfl, h6, ?_⟩⟩, ?_⟩
    · have pre : ∀ m, m ≤ k → c.take (2 * m) = Rp.TC ((List.range m).map f) := by
        intro m
        induction m with
        | zero => intro _; rfl
        | succ m ih =>
          intro hm
          have h1 := ih (by omega)
          have h2 := (hf m (by omega)).1
          rw [List.range_succ, List.map_append, Rp.TC_app, ← h1, show 2 * (m + 1) = 2 * m + 2 by omega, List.take_add, show 2 * m = m * 2 by omega, h2]
          rfl
      have := pre n h4
      simpa using this
    · intro t ht
      simp only [List.mem_map, List.mem_range] at ht
      obtain ⟨i, hi, rfl⟩ := ht
      exact (hf i (by omega)).2
def kM : List CKd := .int .u8 :: .int .i64 :: .int .i64 :: .int .i64 :: .int .i64 :: ((.int .u64 :: .int .u64 :: .int .u64 :: (List.replicate 64 (.int .u8) ++ [.int .u32])) ++ [.int .u64, .int .u64, .int .u64, .int .u32, .sl 27])
theorem fitM {H : AHeap} {l : List Value} (h : AR Try.prog H.get 41 l) : ∃ x v, l = cM x v ∧ rgM x ∧ Rp.TB H v x.d.l := by
  have hf : fitsL Try.prog H.get kM l := AR.flat (d := 20) (by kernel_rfl) h
  unfold kM at hf
  obtain ⟨a, r0, rfl, h0, g0⟩ := hf.inv
  obtain ⟨b, r1, rfl, h1, g1⟩ := g0.inv
  obtain ⟨c, r2, rfl, h2, g2⟩ := g1.inv
  obtain ⟨d, r3, rfl, h3, g3⟩ := g2.inv
  obtain ⟨e, r4, rfl, h4, g4⟩ := g3.inv
  obtain ⟨n0, rfl, w0⟩ := fits_u8 h0
  obtain ⟨n1, rfl, w1⟩ := fits_i64 h1
  obtain ⟨n2, rfl, w2⟩ := fits_i64 h2
  obtain ⟨n3, rfl, w3⟩ := fits_i64 h3
  obtain ⟨n4, rfl, w4⟩ := fits_i64 h4
  obtain ⟨h5, h6⟩ := g4.split
  obtain ⟨s, e5, hs⟩ := fitSt h5
  obtain ⟨a6, r6, e6, h6, g6⟩ := h6.inv
  obtain ⟨a7, r7, rfl, h7, g7⟩ := g6.inv
  obtain ⟨a8, r8, rfl, h8, g8⟩ := g7.inv
  obtain ⟨a9, r9, rfl, h9, g9⟩ := g8.inv
  obtain ⟨v, r10, rfl, h10, g10⟩ := g9.inv
  obtain rfl := g10.end_
  obtain ⟨n6, rfl, w6⟩ := fits_u64 h6
  obtain ⟨n7, rfl, w7⟩ := fits_u64 h7
  obtain ⟨n8, rfl, w8⟩ := fits_u64 h8
  obtain ⟨n9, rfl, w9⟩ := fits_u32 h9
  obtain ⟨tl, htb, htr⟩ := fitT h10
  refine ⟨⟨n0, n1, n2, n3, n4, s, ⟨n6, n7, n8, n9, tl⟩⟩, v, ?_, ⟨w0, w1, w2, w3, w4, hs, w6, w7, w8, w9, htr⟩, htb⟩
  have e : r4 = r4.take 68 ++ r4.drop 68 := (List.take_append_drop 68 r4).symm
  have e5' : r4.take 68 = cSt s := e5
  have e6' : r4.drop 68 = [.int .u64 n6, .int .u64 n7, .int .u64 n8, .int .u32 n9, v] := e6
  rw [e, e5', e6', ← toS_c]
  rfl
theorem lawBytes : ∀ H args, NoOwn H → AVs Try.prog H.get [41, 81] args → ∃ H', ARun Try.prog 0 6 args H (.bool true) H' := by
  intro H args _ h
  match args, h with
  | [a0, a1], ⟨h0, h1, _⟩ =>
    obtain ⟨l, rfl⟩ := agg_of (h0.2.1 (by kernel_rfl))
    have hr := h0.1
    rw [cells_agg] at hr
    obtain ⟨x, v, rfl, hx, htb⟩ := fitM hr
    have h81 := h1.1
    rw [h1.one (by kernel_rfl)] at h81
    obtain ⟨b, hb⟩ := AR.bq (e := 5) (by kernel_rfl) (by kernel_rfl) (by kernel_rfl) h81
    obtain ⟨w, H', r, rfl⟩ := t6 hx htb hb
    exact ⟨H', r⟩
end Go.AM.Rg
