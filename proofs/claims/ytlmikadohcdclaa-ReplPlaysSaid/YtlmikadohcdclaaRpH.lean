/- Part of the proof: RpH. -/
import Derived.Test.YtlmikadohcdclaaRpG
set_option linter.unusedSimpArgs false
set_option linter.unusedVariables false
namespace Go.AM.Rp
open Go.Proofs

/-- What differs, up to a route. -/
def dp (s t : List Int) : Nat → List (Int × Int)
  | 0 => []
  | n + 1 => dp s t n ++ (if t.getD n 0 = s.getD n 0 then [] else [((n : Int), t.getD n 0)])
theorem dp_le (s t : List Int) : ∀ n, (dp s t n).length ≤ n
  | 0 => by simp [dp]
  | n + 1 => by have := dp_le s t n; simp only [dp, List.length_append]; split <;> simp <;> omega
def diffD (s t : S) : D := ⟨xr 64 s.a t.a, xr 64 s.b t.b, xr 64 s.c t.c, xr 32 s.p t.p, dp s.t t.t 64⟩
def D5 (x y z w : Nat) (v : Value) : List Value := [.int .u64 x, .int .u64 y, .int .u64 z, .int .u32 w, v]
theorem rng64 {H : AHeap} {b e : Nat} {s : S} (h : H.get b = some (.cells true false 68 (SC s) e)) (hs : s.t.length = 64) : rangeA H b 3 64 = some (s.t.map tv) := by
  rw [rangeA_of h, if_pos (by rw [SC_len hs]; omega)]
  simp only [SC, List.drop]
  rw [List.take_append_of_le_length (by simp [hs]), List.take_of_length_le (by simp [hs])]
theorem a_idxa (cs : List Value) (i n : Nat) (hi : i < n) {x : Value} (hx : cs[i]? = some x) (H : AHeap) : asem (.idxa false 1 n (.agg cs.toArray) (.int .i64 (i : Int))) H = some (x, H) := by
  simp only [asem, Int.toNat_natCast, Nat.mul_one]
  rw [if_pos (by omega)]
  simp [hx]

/-- Diff. -/
theorem t9o {H : AHeap} {s t : S} (hs : s.t.length = 64) (ht : t.t.length = 64) : ∃ r H', ARun Try.prog 0 9 [.agg (SC s).toArray, .agg (SC t).toArray] H r H' ∧ Keeps H H' ∧ ∃ w, r = .agg (D5 (xr 64 s.a t.a) (xr 64 s.b t.b) (xr 64 s.c t.c) (xr 32 s.p t.p) w).toArray ∧ TB H' w (dp s.t t.t 64) ∧ Fresh H.n w ∧ AP H' 90 2 w (dp s.t t.t 64).length (TC (dp s.t t.t 64)) := by
  refine walk2 f9_ok f9_n ?_
  intro Q hq1 hq2
  have hc1 : (Value.agg (SC s).toArray).cells.toList = SC s := by simp [Value.cells]
  have hc2 : (Value.agg (SC t).toArray).cells.toList = SC t := by simp [Value.cells]
  obtain ⟨Ha, hHa⟩ : ∃ X, X = H.alloc (.cells true false 68 (SC s) 26) := ⟨_, rfl⟩
  have ka := (Keeps.refl H).alloc (.cells true false 68 (SC s) 26)
  have ga := AHeap.get_alloc_new H (.cells true false 68 (SC s) 26)
  rw [← hHa] at ka ga
  have na : Ha.n = H.n + 1 := by rw [hHa]; rfl
  obtain ⟨Hb, hHb⟩ : ∃ X, X = Ha.alloc (.cells true false 68 (SC t) 26) := ⟨_, rfl⟩
  have kb := (Keeps.refl Ha).alloc (.cells true false 68 (SC t) 26)
  have gb := AHeap.get_alloc_new Ha (.cells true false 68 (SC t) 26)
  rw [← hHb] at kb gb
  have nb : Hb.n = H.n + 2 := by rw [hHb, alloc_n, na]
  obtain ⟨Hc, hHc⟩ : ∃ X, X = Hb.alloc (.cells true false 5 (D5 0 0 0 0 (.slice none 0 0)) 29) := ⟨_, rfl⟩
  have kc := (Keeps.refl Hb).alloc (.cells true false 5 (D5 0 0 0 0 (.slice none 0 0)) 29)
  have gc := AHeap.get_alloc_new Hb (.cells true false 5 (D5 0 0 0 0 (.slice none 0 0)) 29)
  rw [← hHc] at kc gc
  have nc : Hc.n = H.n + 3 := by rw [hHc, alloc_n, nb]
  have hHc' : Hb.alloc (.cells true false 5 [.int .u64 0, .int .u64 0, .int .u64 0, .int .u32 0, .slice none 0 0] 29) = Hc := hHc.symm
  generalize hx1 : xr 64 s.a t.a = x1 at *
  generalize hx2 : xr 64 s.b t.b = x2 at *
  generalize hx3 : xr 64 s.c t.c = x3 at *
  generalize hx4 : xr 32 s.p t.p = x4 at *
  have fl : fillA [.int .u64 0, .int .u64 0, .int .u64 0, .int .u32 0, .slice none 0 0] [(0, 1, .int .u64 x1), (1, 1, .int .u64 x2), (2, 1, .int .u64 x3), (3, 1, .int .u32 x4)] = some (D5 x1 x2 x3 x4 (.slice none 0 0)) := rfl
  have vc : asem (.storen 5 (ptr Hc.n 0) (.agg (D5 x1 x2 x3 x4 (.slice none 0 0)).toArray)) (Hc.alloc (.cells true false 5 [.int .u64 0, .int .u64 0, .int .u64 0, .int .u32 0, .slice none 0 0] 29)) = some (undef, Hc.alloc (.cells true false 5 (D5 x1 x2 x3 x4 (.slice none 0 0)) 29)) := by
    have := a_var (H := Hc) (n := 5) (room := false) (esz := 5) (e := 29) (c := [.int .u64 0, .int .u64 0, .int .u64 0, .int .u32 0, .slice none 0 0]) (xs := (D5 x1 x2 x3 x4 (.slice none 0 0)).toArray) rfl rfl rfl
    simpa using this
  obtain ⟨Hd, hHd⟩ : ∃ X, X = Hc.alloc (.cells true false 5 (D5 x1 x2 x3 x4 (.slice none 0 0)) 29) := ⟨_, rfl⟩
  have kd := (Keeps.refl Hc).alloc (.cells true false 5 (D5 x1 x2 x3 x4 (.slice none 0 0)) 29)
  have gd := AHeap.get_alloc_new Hc (.cells true false 5 (D5 x1 x2 x3 x4 (.slice none 0 0)) 29)
  rw [← hHd] at kd gd vc
  have nd : Hd.n = H.n + 4 := by rw [hHd, alloc_n, nc]
  have ga1 := kc.at_ (kb.at_ ga)
  have gb1 := kc.at_ gb
  have gaD := kd.at_ ga1
  have gbD := kd.at_ gb1
  have gcD := kd.at_ gc
  have kAll := ((ka.trans kb).trans kc).trans kd
  have s67 : cellA Hc H.n 67 = some (.int .u32 s.p) := by rw [cellA_of ga1, SC_67 hs]
  have t67 : cellA Hc Ha.n 67 = some (.int .u32 t.p) := by rw [cellA_of gb1, SC_67 ht]
  have q0 : cellA Hc H.n 0 = some (.int .u64 s.a) := by rw [cellA_of ga1]; rfl
  have q1 : cellA Hc H.n 1 = some (.int .u64 s.b) := by rw [cellA_of ga1]; rfl
  have q2 : cellA Hc H.n 2 = some (.int .u64 s.c) := by rw [cellA_of ga1]; rfl
  have u0 : cellA Hc Ha.n 0 = some (.int .u64 t.a) := by rw [cellA_of gb1]; rfl
  have u1 : cellA Hc Ha.n 1 = some (.int .u64 t.b) := by rw [cellA_of gb1]; rfl
  have u2 : cellA Hc Ha.n 2 = some (.int .u64 t.c) := by rw [cellA_of gb1]; rfl
  simp only [f9, W_block, ANs, AOp.map, ↓reduceIte, Nat.reduceAdd, Nat.reduceEqDiff, reduceCtorEq, initFr, Nat.reduceLT, ANc, hc1, hc2, SC_one, ← hHa, ← hHb, hHc', q0, q1, q2, u0, u1, u2, s67, t67, w_x64, w_x32, hx1, hx2, hx3, hx4, fl, vc, rng64 gbD ht]
  refine W_loop2 (fun q fr H2 => ∃ (i : Nat) (w y6 y7 y10 y11 : Value), fr = [.agg (SC s).toArray, .agg (SC t).toArray, ptr H.n 0, ptr Ha.n 0, ptr Hb.n 0, ptr Hc.n 0, y6, y7, .agg (t.t.map tv).toArray, .int .i64 i, y10, y11] ∧ i ≤ 64 ∧ q = 64 - i ∧ Keeps H H2 ∧ Hd.n ≤ H2.n ∧ H2.get H.n = some (.cells true false 68 (SC s) 26) ∧ H2.get Hb.n = some (.cells true false 5 (D5 0 0 0 0 (.slice none 0 0)) 29) ∧
    H2.get Hc.n = some (.cells true false 5 (D5 x1 x2 x3 x4 w) 29) ∧ AP H2 90 2 w (dp s.t t.t i).length (TC (dp s.t t.t i)) ∧ Fresh Hd.n w) 64 ?_ ?_
  · exact ⟨0, _, _, _, _, _, rfl, by omega, by omega, kAll, Nat.le_refl _, gaD, gcD, gd, .inl ⟨rfl, rfl, rfl⟩, fun b hb => by cases hb⟩
  · rintro Q' q fr H2 ⟨i, w, y6, y7, y10, y11, rfl, h1, rfl, k2, n2, g1, g2, g3, ap, fw⟩ hnext hexit hret
    by_cases hi : i < 64
    · have hti : t.t.getD i 0 = t.t[i]'(by omega) := by rw [List.getD_eq_getElem?_getD, List.getElem?_eq_getElem (by omega)]; rfl
      have hsi : s.t.getD i 0 = s.t[i]'(by omega) := by rw [List.getD_eq_getElem?_getD, List.getElem?_eq_getElem (by omega)]; rfl
      have ix : (t.t.map tv)[i]? = some (tv (t.t.getD i 0)) := by rw [List.getElem?_map, List.getElem?_eq_getElem (by omega), hti]; rfl
      have cs : cellA H2 H.n (3 + i) = some (tv (s.t.getD i 0)) := by rw [cellA_of g1, SC_t (by omega), hsi]
      have hdp : dp s.t t.t (i + 1) = dp s.t t.t i ++ (if t.t.getD i 0 = s.t.getD i 0 then [] else [((i : Int), t.t.getD i 0)]) := rfl
      have hle := dp_le s.t t.t i
      generalize t.t.getD i 0 = ti at *
      generalize s.t.getD i 0 = si at *
      have lw : ∀ z ∈ blkL w, Hd.n ≤ z ∧ z < H2.n := fun z hz => ⟨fw z (mem_blkL.1 hz), ap.lt (mem_blkL.1 hz)⟩
      have d4 : cellA H2 Hc.n 4 = some w := by rw [cellA_of g3]; rfl
      change (t.t.map tv)[i]? = some (.int .u8 ti) at ix
      change cellA H2 H.n (3 + i) = some (.int .u8 si) at cs
      by_cases he : ti = si
      · simp only [W_block, ANs, AOp.map, ↓reduceIte, Nat.reduceAdd, Nat.reduceEqDiff, reduceCtorEq, initFr, Nat.reduceLT, ANc, show (i : Int) < 64 by omega, decide_true, st_idxa, a_idxa _ i 64 hi ix, st_iaddrp, a_iaddrp _ _ 64 1 _ i hi, cs, show (ti != si) = false by simp [he], wrap_succ (n := i) (by omega)]
        refine hnext _ _ _ ⟨i + 1, w, _, _, _, _, rfl, by omega, rfl, k2, n2, g1, g2, g3, ?_, fw⟩ (by omega)
        rw [hdp, if_pos he, List.append_nil]; exact ap
      · have k3 := (Keeps.refl H2).alloc (.cells true false 2 [.int .i64 (i : Int), .int .u8 ti] 90)
        have g4 := AHeap.get_alloc_new H2 (.cells true false 2 [.int .i64 (i : Int), .int .u8 ti] 90)
        obtain ⟨H3, hH3⟩ : ∃ X, X = H2.alloc (.cells true false 2 [.int .i64 (i : Int), .int .u8 ti] 90) := ⟨_, rfl⟩
        have hbsl := bsl 90 (i : Int) ti H2
        rw [← hH3] at k3 g4 hbsl
        have n3 : H3.n = H2.n + 1 := by rw [hH3]; rfl
        simp only [W_block, ANs, AOp.map, ↓reduceIte, Nat.reduceAdd, Nat.reduceEqDiff, reduceCtorEq, initFr, Nat.reduceLT, ANc, show (i : Int) < 64 by omega, decide_true, st_idxa, a_idxa _ i 64 hi ix, st_iaddrp, a_iaddrp _ _ 64 1 _ i hi, cs, show (ti != si) = true by simp [he], d4, fl2, hbsl]
        refine appR (ap.keeps k3) ⟨_, _, rfl⟩ (elems_own g4 rfl) rfl (by omega) ?_
        intro w' H4 ap4 c4 hbw
        have n4 := c4.n
        have g1' := c4.at_ (k3.at_ g1) (fun hz => by have := lw _ hz; omega)
        have g2' := c4.at_ (k3.at_ g2) (fun hz => by have := lw _ hz; omega)
        have g3' := c4.at_ (k3.at_ g3) (fun hz => by have := lw _ hz; omega)
        have st : asem (.store1 (ptr Hc.n 4) w') H4 = some (undef, H4.set Hc.n (.cells true false 5 (D5 x1 x2 x3 x4 w') 29)) := by
          rw [a_st g3' (by simp [D5]) (by obtain ⟨a, e⟩ := ap4.shape; rw [e]; rfl)]; rfl
        have d5 := Chg.set H4 (b := Hc.n) (AHeap.get_lt g3') (.cells true false 5 (D5 x1 x2 x3 x4 w') 29)
        simp only [W_block, ANs, AOp.map, ↓reduceIte, Nat.reduceAdd, Nat.reduceEqDiff, reduceCtorEq, initFr, Nat.reduceLT, ANc, st, wrap_succ (n := i) (by omega)]
        refine hnext _ _ _ ⟨i + 1, w', _, _, _, _, rfl, by omega, rfl, (((k2.trans k3).chg_trans c4 (fun z hz => by have := lw z hz; omega))).chg_trans d5 (by simp; omega), by have := d5.n; omega, d5.at_ g1' (by simp; omega), d5.at_ g2' (by simp; omega), get1 g3' _, ?_, ?_⟩ (by omega)
        · rw [hdp, if_neg he, TC_app, List.length_append]
          refine AP.chg ap4 d5 (fun z hz => ?_)
          rcases hbw with e | e
          · have := lw z (by rw [mem_blkL] at hz ⊢; rw [← e]; exact hz)
            simp; omega
          · rw [mem_blkL, e] at hz; cases hz; simp; omega
        · intro z hz
          rcases hbw with e | e
          · rw [e] at hz; exact fw z hz
          · rw [e] at hz; cases hz; omega
    · simp only [W_block, ANs, AOp.map, ↓reduceIte, Nat.reduceAdd, Nat.reduceEqDiff, reduceCtorEq, initFr, Nat.reduceLT, ANc, show ¬ (i : Int) < 64 by omega, decide_false]
      refine hexit _ _ _ ?_
      have hie : i = 64 := by omega
      subst hie
      obtain ⟨aw, ew⟩ := ap.shape
      have st := stAll g2 rfl (show (D5 x1 x2 x3 x4 w).length = 5 from rfl) (by rw [ew]; rfl)
      simp only [W_block, ANs, AOp.map, ↓reduceIte, Nat.reduceAdd, Nat.reduceEqDiff, reduceCtorEq, initFr, Nat.reduceLT, ANc, full g3 (show (D5 x1 x2 x3 x4 w).length = 5 from rfl), st]
      have d5 := Chg.set H2 (b := Hb.n) (AHeap.get_lt g2) (.cells true false 5 (D5 x1 x2 x3 x4 w) 29)
      have ap' := AP.chg ap d5 (fun z hz => by
        have := fw z (mem_blkL.1 hz)
        simp; omega)
      exact hq2 _ _ ⟨_, resC1 5 4 (b := Hb.n) rfl (full (get1 g2 _) rfl), k2.chg_trans d5 (by simp; omega), w, rfl, TB.of_ap ap', fun z hz => by have := fw z hz; omega, ap'⟩
theorem t9 {H : AHeap} {s t : S} (hs : s.t.length = 64) (ht : t.t.length = 64) : ∃ r H', ARun Try.prog 0 9 [.agg (SC s).toArray, .agg (SC t).toArray] H r H' ∧ Keeps H H' ∧ ∃ w, r = .agg (D5 (xr 64 s.a t.a) (xr 64 s.b t.b) (xr 64 s.c t.c) (xr 32 s.p t.p) w).toArray ∧ TB H' w (dp s.t t.t 64) ∧ Fresh H.n w := by
  obtain ⟨r, H', h1, h2, w, h3, h4, h5, _⟩ := t9o (H := H) hs ht
  exact ⟨r, H', h1, h2, w, h3, h4, h5⟩
end Go.AM.Rp
