/- Part of the proof: RpI. -/
import Derived.Test.YtlmikadohcdclaaRpH
set_option linter.unusedSimpArgs false
set_option linter.unusedVariables false
namespace Go.AM.Rp
open Go.Proofs

theorem MC_l (a b c p : Nat) (l : List (Int × Int)) (v : Value) : MC ⟨a, b, c, p, l⟩ v = MC ⟨a, b, c, p, []⟩ v := rfl
theorem Z78_eq : Z78 = MC ⟨0, 0, 0, 0, []⟩ (.slice none 0 0) := rfl
theorem a_stM {H : AHeap} {b : Nat} {d : D} {v : Value} {e : Nat} (h : H.get b = some (.cells true false 78 (MC d v) e)) {o : Nat} (ho : o < 78) {x : Value} (hx : one1 x) : asem (.store1 (ptr b o) x) H = some (undef, H.set b (.cells true false 78 ((MC d v).set o x) e)) := a_st h (by rw [MC_len]; exact ho) hx

/-- Diff, the document's. -/
theorem t14 {H : AHeap} {s t : S} (hs : s.t.length = 64) (ht : t.t.length = 64) : ∃ r H', ARun Try.prog 0 14 [.agg Z78.toArray, .agg (SC s).toArray, .agg (SC t).toArray] H r H' ∧ Keeps H H' ∧ ∃ w, r = .agg (MC (diffD s t) w).toArray ∧ TB H' w (dp s.t t.t 64) := by
  refine walk2 f14_ok f14_n ?_
  intro Q hq1 hq2
  have hc0 : (Value.agg Z78.toArray).cells.toList = Z78 := by simp [Value.cells]
  have hc1 : (Value.agg (SC s).toArray).cells.toList = SC s := by simp [Value.cells]
  have hc2 : (Value.agg (SC t).toArray).cells.toList = SC t := by simp [Value.cells]
  have z78 : Z78.all Value.oneCell' = true := rfl
  obtain ⟨Ha, hHa⟩ : ∃ X, X = H.alloc (.cells true false 78 Z78 38) := ⟨_, rfl⟩
  have ka := (Keeps.refl H).alloc (.cells true false 78 Z78 38)
  have ga := AHeap.get_alloc_new H (.cells true false 78 Z78 38)
  rw [← hHa] at ka ga
  have na : Ha.n = H.n + 1 := by rw [hHa]; rfl
  obtain ⟨Hb, hHb⟩ : ∃ X, X = Ha.alloc (.cells true false 68 (SC s) 26) := ⟨_, rfl⟩
  have kb := (Keeps.refl Ha).alloc (.cells true false 68 (SC s) 26)
  have gb := AHeap.get_alloc_new Ha (.cells true false 68 (SC s) 26)
  rw [← hHb] at kb gb
  have nb : Hb.n = H.n + 2 := by rw [hHb, alloc_n, na]
  obtain ⟨Hc, hHc⟩ : ∃ X, X = Hb.alloc (.cells true false 68 (SC t) 26) := ⟨_, rfl⟩
  have kc := (Keeps.refl Hb).alloc (.cells true false 68 (SC t) 26)
  have gc := AHeap.get_alloc_new Hb (.cells true false 68 (SC t) 26)
  rw [← hHc] at kc gc
  have nc : Hc.n = H.n + 3 := by rw [hHc, alloc_n, nb]
  obtain ⟨Hd, hHd⟩ : ∃ X, X = Hc.alloc (.cells true false 78 Z78 38) := ⟨_, rfl⟩
  have kd := (Keeps.refl Hc).alloc (.cells true false 78 Z78 38)
  have gd := AHeap.get_alloc_new Hc (.cells true false 78 Z78 38)
  rw [← hHd] at kd gd
  have nd : Hd.n = H.n + 4 := by rw [hHd, alloc_n, nc]
  have ga1 := kd.at_ (kc.at_ (kb.at_ ga))
  have gb1 := kd.at_ (kc.at_ gb)
  have gc1 := kd.at_ gc
  have kAll := ((ka.trans kb).trans kc).trans kd
  unfold diffD at hq2
  generalize hx1 : xr 64 s.a t.a = x1 at *
  generalize hx2 : xr 64 s.b t.b = x2 at *
  generalize hx3 : xr 64 s.c t.c = x3 at *
  generalize hx4 : xr 32 s.p t.p = x4 at *
  have hln := AHeap.get_lt ga1
  have oth : ∀ (X : AO) {b : Nat} {o : AO}, Hd.get b = some o → b ≠ H.n → (Hd.set H.n X).get b = some o := fun X {b o} h hne => (Chg.set Hd (b := H.n) hln X).at_ h (by simpa using hne)
  have sc : ∀ X k, cellA (Hd.set H.n X) Ha.n k = (SC s)[k]? := fun X k => cellA_of (oth X gb1 (by omega))
  have tc : ∀ X k, cellA (Hd.set H.n X) Hb.n k = (SC t)[k]? := fun X k => cellA_of (oth X gc1 (by omega))
  have q0 : (SC s)[0]? = some (.int .u64 s.a) := rfl
  have q1 : (SC s)[1]? = some (.int .u64 s.b) := rfl
  have q2 : (SC s)[2]? = some (.int .u64 s.c) := rfl
  have u0 : (SC t)[0]? = some (.int .u64 t.a) := rfl
  have u1 : (SC t)[1]? = some (.int .u64 t.b) := rfl
  have u2 : (SC t)[2]? = some (.int .u64 t.c) := rfl
  have s67 := SC_67 hs
  have t67 := SC_67 ht
  have gz : Hd.get H.n = some (.cells true false 78 (MC ⟨0, 0, 0, 0, []⟩ (.slice none 0 0)) 38) := ga1
  have e1 : asem (.store1 (ptr H.n 73) (.int .u64 x1)) Hd = some (undef, Hd.set H.n (.cells true false 78 (MC ⟨x1, 0, 0, 0, []⟩ (.slice none 0 0)) 38)) := a_stM gz (by omega) rfl
  have e2 : asem (.store1 (ptr H.n 74) (.int .u64 x2)) (Hd.set H.n (.cells true false 78 (MC ⟨x1, 0, 0, 0, []⟩ (.slice none 0 0)) 38)) = some (undef, Hd.set H.n (.cells true false 78 (MC ⟨x1, x2, 0, 0, []⟩ (.slice none 0 0)) 38)) := by
    have := a_stM (d := ⟨x1, 0, 0, 0, []⟩) (v := .slice none 0 0) (e := 38) (get1 gz _) (o := 74) (by omega) (x := .int .u64 x2) rfl
    rw [set2] at this; exact this
  have e3 : asem (.store1 (ptr H.n 75) (.int .u64 x3)) (Hd.set H.n (.cells true false 78 (MC ⟨x1, x2, 0, 0, []⟩ (.slice none 0 0)) 38)) = some (undef, Hd.set H.n (.cells true false 78 (MC ⟨x1, x2, x3, 0, []⟩ (.slice none 0 0)) 38)) := by
    have := a_stM (d := ⟨x1, x2, 0, 0, []⟩) (v := .slice none 0 0) (e := 38) (get1 gz _) (o := 75) (by omega) (x := .int .u64 x3) rfl
    rw [set2] at this; exact this
  have e4 : asem (.store1 (ptr H.n 76) (.int .u32 x4)) (Hd.set H.n (.cells true false 78 (MC ⟨x1, x2, x3, 0, []⟩ (.slice none 0 0)) 38)) = some (undef, Hd.set H.n (.cells true false 78 (MC ⟨x1, x2, x3, x4, []⟩ (.slice none 0 0)) 38)) := by
    have := a_stM (d := ⟨x1, x2, x3, 0, []⟩) (v := .slice none 0 0) (e := 38) (get1 gz _) (o := 76) (by omega) (x := .int .u32 x4) rfl
    rw [set2] at this; exact this
  have v0 : cellA Hd Ha.n 0 = some (.int .u64 s.a) := by rw [cellA_of gb1]; rfl
  have w0 : cellA Hd Hb.n 0 = some (.int .u64 t.a) := by rw [cellA_of gc1]; rfl
  simp only [f14, W_block, ANs, AOp.map, ↓reduceIte, Nat.reduceAdd, Nat.reduceEqDiff, reduceCtorEq, initFr, Nat.reduceLT, ANc, hc0, hc1, hc2, SC_one, z78, ← hHa, ← hHb, ← hHc, ← hHd, v0, w0, sc, tc, q1, q2, u1, u2, s67, t67, w_x64, w_x32, hx1, hx2, hx3, hx4, e1, e2, e3, e4]
  have g0 := get1 gz (.cells true false 78 (MC ⟨x1, x2, x3, x4, []⟩ (.slice none 0 0)) 38)
  have gs0 := oth (.cells true false 78 (MC ⟨x1, x2, x3, x4, []⟩ (.slice none 0 0)) 38) gb1 (by omega)
  have gt0 := oth (.cells true false 78 (MC ⟨x1, x2, x3, x4, []⟩ (.slice none 0 0)) 38) gc1 (by omega)
  have gd0 := oth (.cells true false 78 (MC ⟨x1, x2, x3, x4, []⟩ (.slice none 0 0)) 38) gd (by omega)
  have kE : Keeps H (Hd.set H.n (.cells true false 78 (MC ⟨x1, x2, x3, x4, []⟩ (.slice none 0 0)) 38)) := kAll.chg_trans (Chg.set Hd hln _) (by simp)
  have nE : (Hd.set H.n (.cells true false 78 (MC ⟨x1, x2, x3, x4, []⟩ (.slice none 0 0)) 38)).n = Hd.n := rfl
  generalize Hd.set H.n (.cells true false 78 (MC ⟨x1, x2, x3, x4, []⟩ (.slice none 0 0)) 38) = He at *
  refine W_loop2 (fun q fr H2 => ∃ (i : Nat) (w y8 y9 : Value), fr = [.agg Z78.toArray, .agg (SC s).toArray, .agg (SC t).toArray, ptr H.n 0, ptr Ha.n 0, ptr Hb.n 0, ptr Hc.n 0, .int .i64 i, y8, y9] ∧ i ≤ 64 ∧ q = 64 - i ∧ Keeps H H2 ∧ Hd.n ≤ H2.n ∧ H2.get Ha.n = some (.cells true false 68 (SC s) 26) ∧ H2.get Hb.n = some (.cells true false 68 (SC t) 26) ∧ H2.get Hc.n = some (.cells true false 78 Z78 38) ∧
    H2.get H.n = some (.cells true false 78 (MC ⟨x1, x2, x3, x4, []⟩ w) 38) ∧ AP H2 92 2 w (dp s.t t.t i).length (TC (dp s.t t.t i)) ∧ Fresh Hd.n w) 64 ?_ ?_
  · exact ⟨0, _, _, _, rfl, by omega, by omega, kE, by omega, gs0, gt0, gd0, g0, .inl ⟨rfl, rfl, rfl⟩, fun b hb => by cases hb⟩
  · rintro Q' q fr H2 ⟨i, w, y8, y9, rfl, h1, rfl, k2, n2, g1, g1b, g2, g3, ap, fw⟩ hnext hexit hret
    by_cases hi : i < 64
    · have hti : t.t.getD i 0 = t.t[i]'(by omega) := by rw [List.getD_eq_getElem?_getD, List.getElem?_eq_getElem (by omega)]; rfl
      have hsi : s.t.getD i 0 = s.t[i]'(by omega) := by rw [List.getD_eq_getElem?_getD, List.getElem?_eq_getElem (by omega)]; rfl
      have ct : cellA H2 Hb.n (3 + i) = some (tv (t.t.getD i 0)) := by rw [cellA_of g1b, SC_t (by omega), hti]
      have cs : cellA H2 Ha.n (3 + i) = some (tv (s.t.getD i 0)) := by rw [cellA_of g1, SC_t (by omega), hsi]
      have hdp : dp s.t t.t (i + 1) = dp s.t t.t i ++ (if t.t.getD i 0 = s.t.getD i 0 then [] else [((i : Int), t.t.getD i 0)]) := rfl
      have hle := dp_le s.t t.t i
      generalize t.t.getD i 0 = ti at *
      generalize s.t.getD i 0 = si at *
      have lw : ∀ z ∈ blkL w, Hd.n ≤ z ∧ z < H2.n := fun z hz => ⟨fw z (mem_blkL.1 hz), ap.lt (mem_blkL.1 hz)⟩
      change cellA H2 Hb.n (3 + i) = some (.int .u8 ti) at ct
      change cellA H2 Ha.n (3 + i) = some (.int .u8 si) at cs
      by_cases he : ti = si
      · simp only [W_block, ANs, AOp.map, ↓reduceIte, Nat.reduceAdd, Nat.reduceEqDiff, reduceCtorEq, initFr, Nat.reduceLT, ANc, show (i : Int) < 64 by omega, decide_true, sd_iaddrp, a_iaddrp _ _ 64 1 _ i hi, cs, ct, show (si != ti) = false by simp [he], wrap_succ (n := i) (by omega)]
        refine hnext _ _ _ ⟨i + 1, w, _, _, rfl, by omega, rfl, k2, n2, g1, g1b, g2, g3, ?_, fw⟩ (by omega)
        rw [hdp, if_pos he, List.append_nil]; exact ap
      · have k3 := (Keeps.refl H2).alloc (.cells true false 2 [.int .i64 (i : Int), .int .u8 ti] 92)
        have g4 := AHeap.get_alloc_new H2 (.cells true false 2 [.int .i64 (i : Int), .int .u8 ti] 92)
        obtain ⟨H3, hH3⟩ : ∃ X, X = H2.alloc (.cells true false 2 [.int .i64 (i : Int), .int .u8 ti] 92) := ⟨_, rfl⟩
        have hbsl := bsl 92 (i : Int) ti H2
        rw [← hH3] at k3 g4 hbsl
        have n3 : H3.n = H2.n + 1 := by rw [hH3]; rfl
        simp only [W_block, ANs, AOp.map, ↓reduceIte, Nat.reduceAdd, Nat.reduceEqDiff, reduceCtorEq, initFr, Nat.reduceLT, ANc, show (i : Int) < 64 by omega, decide_true, sd_iaddrp, a_iaddrp _ _ 64 1 _ i hi, cs, ct, show (si != ti) = true by simp; exact fun h => he h.symm, cellA_of g3, m77, fl2, hbsl]
        refine appD (ap.keeps k3) ⟨_, _, rfl⟩ (elems_own g4 rfl) rfl (by omega) ?_
        intro w' H4 ap4 c4 hbw
        have n4 := c4.n
        have g1' := c4.at_ (k3.at_ g1) (fun hz => by have := lw _ hz; omega)
        have g1b' := c4.at_ (k3.at_ g1b) (fun hz => by have := lw _ hz; omega)
        have g2' := c4.at_ (k3.at_ g2) (fun hz => by have := lw _ hz; omega)
        have g3' := c4.at_ (k3.at_ g3) (fun hz => by have := lw _ hz; omega)
        have st : asem (.store1 (ptr H.n 77) w') H4 = some (undef, H4.set H.n (.cells true false 78 (MC ⟨x1, x2, x3, x4, []⟩ w') 38)) := by
          rw [a_st g3' (by rw [MC_len]; omega) (by obtain ⟨a, e⟩ := ap4.shape; rw [e]; rfl), MC_set77]
        have d5 := Chg.set H4 (b := H.n) (AHeap.get_lt g3') (.cells true false 78 (MC ⟨x1, x2, x3, x4, []⟩ w') 38)
        simp only [W_block, ANs, AOp.map, ↓reduceIte, Nat.reduceAdd, Nat.reduceEqDiff, reduceCtorEq, initFr, Nat.reduceLT, ANc, st, wrap_succ (n := i) (by omega)]
        refine hnext _ _ _ ⟨i + 1, w', _, _, rfl, by omega, rfl, (((k2.trans k3).chg_trans c4 (fun z hz => by have := lw z hz; omega))).chg_trans d5 (by simp), by have := d5.n; omega, d5.at_ g1' (by simp; omega), d5.at_ g1b' (by simp; omega), d5.at_ g2' (by simp; omega), get1 g3' _, ?_, ?_⟩ (by omega)
        · rw [hdp, if_neg he, TC_app, List.length_append]
          refine AP.chg ap4 d5 (fun z hz => ?_)
          rcases hbw with e | e
          · have := lw z (by rw [mem_blkL] at hz ⊢; rw [← e]; exact hz)
            simp; omega
          · rw [mem_blkL, e] at hz; cases hz; simp; omega
        · intro z hz
          rcases hbw with e | e
          · rw [e] at hz; exact fw z hz
          · rw [e] at hz; cases hz; omega
    · simp only [W_block, ANs, AOp.map, ↓reduceIte, Nat.reduceAdd, Nat.reduceEqDiff, reduceCtorEq, initFr, Nat.reduceLT, ANc, show ¬ (i : Int) < 64 by omega, decide_false]
      refine hexit _ _ _ ?_
      have hie : i = 64 := by omega
      subst hie
      obtain ⟨aw, ew⟩ := ap.shape
      have st := stAll g2 rfl (MC_len ⟨x1, x2, x3, x4, []⟩ w) (MC_one _ (by rw [ew]; rfl))
      simp only [W_block, ANs, AOp.map, ↓reduceIte, Nat.reduceAdd, Nat.reduceEqDiff, reduceCtorEq, initFr, Nat.reduceLT, ANc, full g3 (MC_len _ w), st]
      have d5 := Chg.set H2 (b := Hc.n) (AHeap.get_lt g2) (.cells true false 78 (MC ⟨x1, x2, x3, x4, []⟩ w) 38)
      refine hq2 _ _ ⟨_, resC1 78 6 (b := Hc.n) rfl (full (get1 g2 _) (MC_len _ w)), k2.chg_trans d5 (by simp; omega), w, (by rw [MC_l x1 x2 x3 x4 (dp s.t t.t 64) w]), TB.of_ap (ap.chg d5 (fun z hz => ?_))⟩
      have := fw z (mem_blkL.1 hz)
      simp; omega
end Go.AM.Rp
