/- Part of the proof: RpG. -/
import Derived.Test.YtlmikadohcdclaaRpF
set_option linter.unusedSimpArgs false
set_option linter.unusedVariables false
namespace Go.AM.Rp
open Go.Proofs

theorem a_eq2 (a b : Int) (neg : Bool) (H : AHeap) : asem (.eqs [1, 1] neg (.agg [.int .i64 a, .int .u8 b].toArray) (.agg [.int .i64 a, .int .u8 b].toArray)) H = some (.bool (!neg), H) := by
  simp only [asem, eqCs, eqC, if_true, beq_self_eq_true]
  cases neg <;> rfl
theorem a_eqZ (H : AHeap) : asem (.eqs O68 true (.agg Z68.toArray) (.agg Z68.toArray)) H = some (.bool false, H) := rfl
theorem m0 (d : D) (v : Value) : (MC d v)[0]? = some (.int .u8 0) := rfl
theorem m1 (d : D) (v : Value) : (MC d v)[1]? = some (.int .i64 0) := rfl
theorem m2 (d : D) (v : Value) : (MC d v)[2]? = some (.int .i64 0) := rfl
theorem m3 (d : D) (v : Value) : (MC d v)[3]? = some (.int .i64 0) := rfl
theorem m4 (d : D) (v : Value) : (MC d v)[4]? = some (.int .i64 0) := rfl
theorem m5 {H : AHeap} {b e : Nat} {d : D} {v : Value} (h : H.get b = some (.cells true false 78 (MC d v) e)) : rangeA H b 5 68 = some Z68 := by
  rw [rangeA_of h, if_pos (by rw [MC_len]; omega)]; rfl

/-- same. -/
theorem t13 {H : AHeap} {d : D} {v v' : Value} {l : List (Int × Int)} (h : TB H v l) (h' : TB H v' l) (hl : l.length ≤ 100000) : ∃ r H', ARun Try.prog 0 13 [.agg (MC d v).toArray, .agg (MC d v').toArray] H r H' ∧ r = .bool true ∧ Keeps H H' := by
  refine walk2 f13_ok f13_n ?_
  intro Q hq1 hq2
  have hc1 : (Value.agg (MC d v).toArray).cells.toList = MC d v := by simp [Value.cells]
  have hc2 : (Value.agg (MC d v').toArray).cells.toList = MC d v' := by simp [Value.cells]
  obtain ⟨Ha, hHa⟩ : ∃ X, X = H.alloc (.cells true false 78 (MC d v) 38) := ⟨_, rfl⟩
  have ka := (Keeps.refl H).alloc (.cells true false 78 (MC d v) 38)
  have ga := AHeap.get_alloc_new H (.cells true false 78 (MC d v) 38)
  rw [← hHa] at ka ga
  obtain ⟨Hb, hHb⟩ : ∃ X, X = Ha.alloc (.cells true false 78 (MC d v') 38) := ⟨_, rfl⟩
  have kb := (Keeps.refl Ha).alloc (.cells true false 78 (MC d v') 38)
  have gb := AHeap.get_alloc_new Ha (.cells true false 78 (MC d v') 38)
  rw [← hHb] at kb gb
  have ga := kb.at_ ga
  have k2 := ka.trans kb
  have hb := h.keeps k2
  have hb' := h'.keeps k2
  have l1 : asem (.len false v) Hb = some (.int .i64 l.length, Hb) := by obtain ⟨a, k, hv, _⟩ := h; rw [hv]; rfl
  have l2 : asem (.len false v') Hb = some (.int .i64 l.length, Hb) := by obtain ⟨a, k, hv, _⟩ := h'; rw [hv]; rfl
  simp only [f13, W_block, ANs, AOp.map, ↓reduceIte, Nat.reduceAdd, Nat.reduceEqDiff, reduceCtorEq, initFr, Nat.reduceLT, ANc, bi_u, hc1, hc2, MC_one d h.one, MC_one d h'.one, ← hHa, ← hHb, cellA_of ga, cellA_of gb, m0, m1, m2, m3, m4, m5 ga, m5 gb, st_eqs, a_eqZ, m73, m74, m75, m76, m77, l1, l2, bne_self_eq_false]
  refine W_loop2 (fun q fr H2 => ∃ (i : Nat) (y7 y8 : Value), fr = [.agg (MC d v).toArray, .agg (MC d v').toArray, ptr H.n 0, ptr Ha.n 0, .bool false, .int .i64 i, .bool false, y7, y8] ∧ i ≤ l.length ∧ q = l.length - i ∧ H2 = Hb) l.length ?_ ?_
  · exact ⟨0, _, _, rfl, by omega, by omega, rfl⟩
  · rintro Q' q fr H2 ⟨i, y7, y8, rfl, h1, rfl, rfl⟩ hnext hexit hret
    by_cases hi : i < l.length
    · obtain ⟨b, k', e1, e2, _⟩ := hb.at_ hi
      obtain ⟨b', k'', f1, f2, _⟩ := hb'.at_ hi
      have m77' : (MC d v)[77]? = some (slc b 0 l.length k') := by rw [m77, e1]
      have m77'' : (MC d v')[77]? = some (slc b' 0 l.length k'') := by rw [m77, f1]
      simp only [W_block, ANs, AOp.map, ↓reduceIte, Nat.reduceAdd, Nat.reduceEqDiff, reduceCtorEq, initFr, Nat.reduceLT, ANc, cellA_of ga, cellA_of gb, m77', m77'', show (i : Int) < (l.length : Int) by omega, decide_true, show (0 : Int) ≤ (i : Int) by omega, e2, f2, sd_eqs, a_eq2, wrap_succ (n := i) (by omega)]
      exact hnext _ _ _ ⟨i + 1, _, _, rfl, by omega, rfl, rfl⟩ (by omega)
    · simp only [W_block, ANs, AOp.map, ↓reduceIte, Nat.reduceAdd, Nat.reduceEqDiff, reduceCtorEq, initFr, Nat.reduceLT, ANc, cellA_of ga, m77, l1, show ¬ (i : Int) < (l.length : Int) by omega, decide_false]
      refine hexit _ _ _ ?_
      simp only [W_block, ANs, AOp.map, ↓reduceIte, Nat.reduceAdd, Nat.reduceEqDiff, reduceCtorEq, initFr, Nat.reduceLT, ANc]
      exact hq2 _ _ ⟨_, rfl, rfl, k2⟩

theorem appD {P : Program} {ng : Nat} {fr tm : List Value} {H : AHeap} {d : Go.AM.D} {r : List (AOper × List Nat)} {tr : List TE} {KF : List Value → AHeap → Prop} {e esz bytes : Nat} {s x : Value} {n m : Nat} {c news : List Value} (h : AP H e esz s n c) (hx : ∃ a k, x = .slice a m k) (h1 : elemsA H esz x = some news) (hm : news.length = m * esz)
    (hs : (n + m) * bytes ≤ 140737488355328 ∧ n + m ≤ 140737488355328)
    (hk : ∀ v' H', AP H' e esz v' (n + m) (c ++ news) → Chg (blkL s) H H' → (blk v' = blk s ∨ blk v' = some H.n) → RD P ng r (d.frame v' fr) (d.temps v' tm) H' (tr ++ [⟨clsA (.app e esz bytes s x), touchA (.app e esz bytes s x) H, H, H'⟩]) KF) : stD P ng (.app e esz bytes s x) d [] r fr tm H tr KF := by
  rw [sd_app]
  obtain ⟨v', H', e1, e2, e3, e4⟩ := h.app (bytes := bytes) hm hs
  obtain ⟨a, k, rfl⟩ := hx
  exact ⟨v', H', by simp only [asem, h1]; exact e1, trivial, hk v' H' e2 e3 e4⟩
theorem bsl (e : Nat) (a b : Int) (H : AHeap) : asem (.bslice e 2 1 [.int .i64 0, .int .u8 0] [(0, 2, .agg [.int .i64 a, .int .u8 b].toArray)]) H = some (slc H.n 0 1 1, H.alloc (.cells true false 2 [.int .i64 a, .int .u8 b] e)) := rfl
theorem fl2 (a b : Int) : fillA [.int .i64 0, .int .u8 0] [(0, 1, .int .i64 a), (1, 1, .int .u8 b)] = some [.int .i64 a, .int .u8 b] := rfl
theorem MC_set77 (d : D) (v w : Value) : (MC d v).set 77 w = MC d w := rfl

/-- plain. -/
theorem t12 {H : AHeap} {d : D} {v : Value} (h : TB H v d.l) (hl : d.l.length ≤ 100000) : ∃ r H', ARun Try.prog 0 12 [.agg (MC d v).toArray] H r H' ∧ Keeps H H' ∧ ∃ w, r = .agg (MC d w).toArray ∧ TB H' w d.l := by
  refine walk2 f12_ok f12_n ?_
  intro Q hq1 hq2
  have hc1 : (Value.agg (MC d v).toArray).cells.toList = MC d v := by simp [Value.cells]
  obtain ⟨Ha, hHa⟩ : ∃ X, X = H.alloc (.cells true false 78 (MC d v) 41) := ⟨_, rfl⟩
  have ka := (Keeps.refl H).alloc (.cells true false 78 (MC d v) 41)
  have ga := AHeap.get_alloc_new H (.cells true false 78 (MC d v) 41)
  rw [← hHa] at ka ga
  have na : Ha.n = H.n + 1 := by rw [hHa]; rfl
  obtain ⟨Hb, hHb⟩ : ∃ X, X = Ha.alloc (.cells true false 78 Z78 38) := ⟨_, rfl⟩
  have kb := (Keeps.refl Ha).alloc (.cells true false 78 Z78 38)
  have gb := AHeap.get_alloc_new Ha (.cells true false 78 Z78 38)
  rw [← hHb] at kb gb
  have nb : Hb.n = H.n + 2 := by rw [hHb, alloc_n, na]
  have ga := kb.at_ ga
  have z78 : Z78.all Value.oneCell' = true := rfl
  have fl : fillA Z78 [(0, 1, .int .u8 0), (1, 1, .int .i64 0), (2, 1, .int .i64 0), (3, 1, .int .i64 0), (4, 1, .int .i64 0), (5, 68, .agg Z68.toArray), (73, 1, .int .u64 d.a), (74, 1, .int .u64 d.b), (75, 1, .int .u64 d.c), (76, 1, .int .u32 d.p)] = some (MC d (.slice none 0 0)) := rfl
  have vc : asem (.storen 78 (ptr Hb.n 0) (.agg (MC d (.slice none 0 0)).toArray)) (Hb.alloc (.cells true false 78 Z78 38)) = some (undef, Hb.alloc (.cells true false 78 (MC d (.slice none 0 0)) 38)) := by
    have := a_var (H := Hb) (n := 78) (room := false) (esz := 78) (e := 38) (c := Z78) (xs := (MC d (.slice none 0 0)).toArray) rfl rfl (by simpa using MC_one d (v := .slice none 0 0) rfl)
    simpa using this
  obtain ⟨Hc, hHc⟩ : ∃ X, X = Hb.alloc (.cells true false 78 (MC d (.slice none 0 0)) 38) := ⟨_, rfl⟩
  have kc := (Keeps.refl Hb).alloc (.cells true false 78 (MC d (.slice none 0 0)) 38)
  have gc := AHeap.get_alloc_new Hb (.cells true false 78 (MC d (.slice none 0 0)) 38)
  rw [← hHc] at kc gc vc
  have nc : Hc.n = H.n + 3 := by rw [hHc, alloc_n, nb]
  have ga := kc.at_ ga
  have gb2 := kc.at_ gb
  have kAll := (ka.trans kb).trans kc
  have gaB : Hb.get H.n = some (.cells true false 78 (MC d v) 41) := kb.at_ (by rw [hHa]; exact AHeap.get_alloc_new H _)
  have hlen : ∀ X, asem (.len false v) X = some (.int .i64 d.l.length, X) := by obtain ⟨a, k, hv, _⟩ := h; intro X; rw [hv]; rfl
  simp only [f12, W_block, ANs, AOp.map, ↓reduceIte, Nat.reduceAdd, Nat.reduceEqDiff, reduceCtorEq, initFr, Nat.reduceLT, ANc, hc1, MC_one d h.one, ← hHa, ← hHb, z78, cellA_of gaB, m0, m1, m2, m3, m4, m5 gaB, m73, m74, m75, m76, fl, vc]
  refine W_loop2 (fun q fr H2 => ∃ (i : Nat) (w y5 : Value), fr = [.agg (MC d v).toArray, ptr H.n 0, ptr Ha.n 0, ptr Hb.n 0, .int .i64 i, y5] ∧ i ≤ d.l.length ∧ q = d.l.length - i ∧ Keeps H H2 ∧ Hc.n ≤ H2.n ∧ H2.get H.n = some (.cells true false 78 (MC d v) 41) ∧ H2.get Ha.n = some (.cells true false 78 Z78 38) ∧
    H2.get Hb.n = some (.cells true false 78 (MC d w) 38) ∧ AP H2 92 2 w i (TC (d.l.take i)) ∧ Fresh Hc.n w) d.l.length ?_ ?_
  · exact ⟨0, _, _, rfl, by omega, by omega, kAll, Nat.le_refl _, ga, gb2, gc, .inl ⟨rfl, rfl, by simp [TC]⟩, fun b hb => by cases hb⟩
  · rintro Q' q fr H2 ⟨i, w, y5, rfl, h1, rfl, k2, n2, g1, g2, g3, ap, fw⟩ hnext hexit hret
    by_cases hi : i < d.l.length
    · obtain ⟨b, k', f1, f2, f3, f4⟩ := (h.keeps k2).at_ hi
      have ht : d.l.take (i + 1) = d.l.take i ++ [d.l[i]] := List.take_succ_eq_append_getElem hi
      generalize d.l[i] = x at *
      have m77' : (MC d v)[77]? = some (slc b 0 d.l.length k') := by rw [m77, f1]
      have lw : ∀ z ∈ blkL w, Hc.n ≤ z ∧ z < H2.n := fun z hz => ⟨fw z (mem_blkL.1 hz), ap.lt (mem_blkL.1 hz)⟩
      have k3 := (Keeps.refl H2).alloc (.cells true false 2 [.int .i64 x.1, .int .u8 x.2] 92)
      have g4 := AHeap.get_alloc_new H2 (.cells true false 2 [.int .i64 x.1, .int .u8 x.2] 92)
      obtain ⟨H3, hH3⟩ : ∃ X, X = H2.alloc (.cells true false 2 [.int .i64 x.1, .int .u8 x.2] 92) := ⟨_, rfl⟩
      have hbsl := bsl 92 x.1 x.2 H2
      rw [← hH3] at k3 g4 hbsl
      have n3 : H3.n = H2.n + 1 := by rw [hH3]; rfl
      simp only [W_block, ANs, AOp.map, ↓reduceIte, Nat.reduceAdd, Nat.reduceEqDiff, reduceCtorEq, initFr, Nat.reduceLT, ANc, cellA_of g1, cellA_of g3, m77, m77', hlen, show (i : Int) < (d.l.length : Int) by omega, decide_true, show (0 : Int) ≤ (i : Int) by omega, f3, f4, fl2, hbsl]
      refine appD (ap.keeps k3) ⟨_, _, rfl⟩ (elems_own g4 rfl) rfl (by omega) ?_
      intro w' H4 ap4 c4 hbw
      have n4 := c4.n
      have g1' := c4.at_ (k3.at_ g1) (fun hz => by have := lw _ hz; omega)
      have g2' := c4.at_ (k3.at_ g2) (fun hz => by have := lw _ hz; omega)
      have g3' := c4.at_ (k3.at_ g3) (fun hz => by have := lw _ hz; omega)
      have st : asem (.store1 (ptr Hb.n 77) w') H4 = some (undef, H4.set Hb.n (.cells true false 78 (MC d w') 38)) := by
        rw [a_st g3' (by rw [MC_len]; omega) (by obtain ⟨a, e⟩ := ap4.shape; rw [e]; rfl), MC_set77]
      have d5 := Chg.set H4 (b := Hb.n) (AHeap.get_lt g3') (.cells true false 78 (MC d w') 38)
      simp only [W_block, ANs, AOp.map, ↓reduceIte, Nat.reduceAdd, Nat.reduceEqDiff, reduceCtorEq, initFr, Nat.reduceLT, ANc, st, wrap_succ (n := i) (by omega)]
      refine hnext _ _ _ ⟨i + 1, w', _, rfl, by omega, rfl, (((k2.trans k3).chg_trans c4 (fun z hz => by have := lw z hz; omega))).chg_trans d5 (by simp; omega), by have := d5.n; omega, d5.at_ g1' (by simp; omega), d5.at_ g2' (by simp; omega), get1 g3' _, ?_, ?_⟩ (by omega)
      · rw [ht, TC_app]
        refine ap4.chg d5 (fun z hz => ?_)
        rcases hbw with e | e
        · have := lw z (by rw [mem_blkL] at hz ⊢; rw [← e]; exact hz)
          simp; omega
        · rw [mem_blkL, e] at hz; cases hz; simp; omega
      · intro z hz
        rcases hbw with e | e
        · rw [e] at hz; exact fw z hz
        · rw [e] at hz; cases hz; omega
    · simp only [W_block, ANs, AOp.map, ↓reduceIte, Nat.reduceAdd, Nat.reduceEqDiff, reduceCtorEq, initFr, Nat.reduceLT, ANc, cellA_of g1, m77, hlen, show ¬ (i : Int) < (d.l.length : Int) by omega, decide_false]
      refine hexit _ _ _ ?_
      have hie : i = d.l.length := by omega
      subst hie
      rw [List.take_length] at ap
      obtain ⟨aw, ew⟩ := ap.shape
      have st := stAll g2 rfl (MC_len d w) (MC_one d (by rw [ew]; rfl))
      simp only [W_block, ANs, AOp.map, ↓reduceIte, Nat.reduceAdd, Nat.reduceEqDiff, reduceCtorEq, initFr, Nat.reduceLT, ANc, full g3 (MC_len d w), st]
      have d5 := Chg.set H2 (b := Ha.n) (AHeap.get_lt g2) (.cells true false 78 (MC d w) 38)
      refine hq2 _ _ ⟨_, resC1 78 2 (b := Ha.n) rfl (full (get1 g2 _) (MC_len d w)), k2.chg_trans d5 (by simp; omega), w, rfl, TB.of_ap (ap.chg d5 (fun z hz => ?_))⟩
      have := fw z (mem_blkL.1 hz)
      simp; omega
end Go.AM.Rp
