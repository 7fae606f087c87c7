/- Part of the proof: RpF. -/
import Derived.Test.YtlmikadohcdclaaRpE
set_option linter.unusedSimpArgs false
set_option linter.unusedVariables false
namespace Go.AM.Rp
open Go.Proofs

/-! ### Messages: but for what differs, nothing. -/
def Z73 : List Value := Z78.take 73
def MC (d : D) (v : Value) : List Value := Z73 ++ [.int .u64 d.a, .int .u64 d.b, .int .u64 d.c, .int .u32 d.p, v]
theorem m73 (d : D) (v : Value) : (MC d v)[73]? = some (.int .u64 d.a) := rfl
theorem m74 (d : D) (v : Value) : (MC d v)[74]? = some (.int .u64 d.b) := rfl
theorem m75 (d : D) (v : Value) : (MC d v)[75]? = some (.int .u64 d.c) := rfl
theorem m76 (d : D) (v : Value) : (MC d v)[76]? = some (.int .u32 d.p) := rfl
theorem m77 (d : D) (v : Value) : (MC d v)[77]? = some v := rfl
theorem MC_len (d : D) (v : Value) : (MC d v).length = 78 := rfl
theorem MC_one (d : D) {v : Value} (h : v.oneCell' = true) : (MC d v).all Value.oneCell' = true := by
  simp only [MC, List.all_append, List.all_cons, one_int, h, List.all_nil]; rfl

/-- Patch, the document's. -/
theorem t11 {H : AHeap} {s : S} {d : D} {v : Value} (hs : s.t.length = 64) (h : TB H v d.l) (hl : d.l.length ≤ 100000) : ∃ r H', ARun Try.prog 0 11 [.agg (SC s).toArray, .agg (MC d v).toArray] H r H' ∧ r = .tuple #[.agg (SC (patchR s d).2).toArray, .int .i64 (patchR s d).1] ∧ Keeps H H' := by
  refine walk2 f11_ok f11_n ?_
  intro Q hq1 hq2
  have hc5 : (Value.agg (MC d v).toArray).cells.toList = MC d v := by simp [Value.cells]
  have hc68 : (Value.agg (SC s).toArray).cells.toList = SC s := by simp [Value.cells]
  obtain ⟨Ha, hHa⟩ : ∃ X, X = H.alloc (.cells true false 68 (SC s) 26) := ⟨_, rfl⟩
  have ka := (Keeps.refl H).alloc (.cells true false 68 (SC s) 26)
  have ga := AHeap.get_alloc_new H (.cells true false 68 (SC s) 26)
  rw [← hHa] at ka ga
  have na : Ha.n = H.n + 1 := by rw [hHa]; rfl
  obtain ⟨Hb, hHb⟩ : ∃ X, X = Ha.alloc (.cells true false 78 (MC d v) 38) := ⟨_, rfl⟩
  have kb := (Keeps.refl Ha).alloc (.cells true false 78 (MC d v) 38)
  have gb := AHeap.get_alloc_new Ha (.cells true false 78 (MC d v) 38)
  rw [← hHb] at kb gb
  have nb : Hb.n = H.n + 2 := by rw [hHb, alloc_n, na]
  obtain ⟨Hc, hHc⟩ : ∃ X, X = Hb.alloc (.cells true false 68 Z68 26) := ⟨_, rfl⟩
  have kc := (Keeps.refl Hb).alloc (.cells true false 68 Z68 26)
  have gc := AHeap.get_alloc_new Hb (.cells true false 68 Z68 26)
  rw [← hHc] at kc gc
  have nc : Hc.n = H.n + 3 := by rw [hHc, alloc_n, nb]
  have ga := kc.at_ (kb.at_ ga)
  have gb := kc.at_ gb
  have kAll := (ka.trans kb).trans kc
  have z68 : Z68.all Value.oneCell' = true := rfl
  simp only [f11, W_block, ANs, AOp.map, ↓reduceIte, Nat.reduceAdd, Nat.reduceEqDiff, reduceCtorEq, initFr, Nat.reduceLT, ANc, hc68, SC_one, hc5, MC_one d h.one, ← hHa, ← hHb, ← hHc, z68, cellA_of gb, m73, m74, m75, m76, m77]
  obtain ⟨_, H1, r1, rfl, rfl⟩ := t32 (h.keeps kAll) hl
  have k1 := Keeps.refl H1
  refine ⟨_, _, r1, ?_⟩
  unfold patchR at hq1 hq2
  clear hq1
  have ga1 := k1.at_ ga
  have gb1 := k1.at_ gb
  have gc1 := k1.at_ gc
  have n1 := k1.n
  cases hr : riseF (-1) d.l
  · simp only [hr, Bool.false_eq_true, if_false] at hq2
    have st : asem (.storen 68 (ptr Hb.n 0) (.agg Z68.toArray)) H1 = _ := stAll gc1 rfl rfl z68
    simp only [W_block, ANs, AOp.map, ↓reduceIte, Nat.reduceAdd, Nat.reduceEqDiff, reduceCtorEq, initFr, Nat.reduceLT, ANc, fillA, st]
    refine hq2 _ _ ⟨_, resCn 68 5 4 (b := Hb.n) (cs := Z68) rfl (full (get1 gc1 _) rfl), rfl, (kAll.trans k1).chg_trans (Chg.set H1 (AHeap.get_lt gc1) _) (by simp; omega)⟩
  · simp only [hr, if_true] at hq2
    have dc : ∀ X k, cellA (H1.set H.n X) Ha.n k = (MC d v)[k]? := fun X k => cellA_of ((Chg.set H1 (b := H.n) (AHeap.get_lt ga1) X).at_ gb1 (by simp; omega))
    have s0 : cellA H1 H.n 0 = some (.int .u64 s.a) := by rw [cellA_of ga1]; rfl
    have e1 : asem (.store1 (ptr H.n 0) (.int .u64 (xr 64 s.a d.a))) H1 = some (undef, H1.set H.n (.cells true false 68 (SC { s with a := xr 64 s.a d.a }) 26)) := a_st68 ga1 hs (by omega) rfl
    have e2 : asem (.store1 (ptr H.n 1) (.int .u64 (xr 64 s.b d.b))) (H1.set H.n (.cells true false 68 (SC { s with a := xr 64 s.a d.a }) 26)) = some (undef, H1.set H.n (.cells true false 68 (SC { s with a := xr 64 s.a d.a, b := xr 64 s.b d.b }) 26)) := by
      have := a_st68 (e := 26) (s := { s with a := xr 64 s.a d.a }) (get1 ga1 _) hs (o := 1) (by omega) (x := .int .u64 (xr 64 s.b d.b)) rfl
      rw [set2] at this; exact this
    have e3 : asem (.store1 (ptr H.n 2) (.int .u64 (xr 64 s.c d.c))) (H1.set H.n (.cells true false 68 (SC { s with a := xr 64 s.a d.a, b := xr 64 s.b d.b }) 26)) = some (undef, H1.set H.n (.cells true false 68 (SC { s with a := xr 64 s.a d.a, b := xr 64 s.b d.b, c := xr 64 s.c d.c }) 26)) := by
      have := a_st68 (e := 26) (s := { s with a := xr 64 s.a d.a, b := xr 64 s.b d.b }) (get1 ga1 _) hs (o := 2) (by omega) (x := .int .u64 (xr 64 s.c d.c)) rfl
      rw [set2] at this; exact this
    have e4 : asem (.store1 (ptr H.n 67) (.int .u32 (xr 32 s.p d.p))) (H1.set H.n (.cells true false 68 (SC { s with a := xr 64 s.a d.a, b := xr 64 s.b d.b, c := xr 64 s.c d.c }) 26)) = some (undef, H1.set H.n (.cells true false 68 (SC { s with a := xr 64 s.a d.a, b := xr 64 s.b d.b, c := xr 64 s.c d.c, p := xr 32 s.p d.p }) 26)) := by
      have := a_st68 (e := 26) (s := { s with a := xr 64 s.a d.a, b := xr 64 s.b d.b, c := xr 64 s.c d.c }) (get1 ga1 _) hs (o := 67) (by omega) (x := .int .u32 (xr 32 s.p d.p)) rfl
      rw [set2, SC_set67 (by exact hs)] at this; exact this
    have c1 : cellA (H1.set H.n (.cells true false 68 (SC { s with a := xr 64 s.a d.a }) 26)) H.n 1 = some (.int .u64 s.b) := by rw [cellA_of (get1 ga1 _)]; rfl
    have c2 : cellA (H1.set H.n (.cells true false 68 (SC { s with a := xr 64 s.a d.a, b := xr 64 s.b d.b }) 26)) H.n 2 = some (.int .u64 s.c) := by rw [cellA_of (get1 ga1 _)]; rfl
    have c3 : cellA (H1.set H.n (.cells true false 68 (SC { s with a := xr 64 s.a d.a, b := xr 64 s.b d.b, c := xr 64 s.c d.c }) 26)) H.n 67 = some (.int .u32 s.p) := by rw [cellA_of (get1 ga1 _), SC_67 (by exact hs)]
    have hlen : ∀ X, asem (.len false v) X = some (.int .i64 d.l.length, X) := by obtain ⟨a, k, hv, _⟩ := h; intro X; rw [hv]; rfl
    simp only [W_block, ANs, AOp.map, ↓reduceIte, Nat.reduceAdd, Nat.reduceEqDiff, reduceCtorEq, initFr, Nat.reduceLT, ANc, s0, cellA_of gb1, m73, m74, m75, m76, m77, w_x64, w_x32, e1, c1, dc, m73, m74, m75, m76, m77, e2, c2, e3, c3, e4, hlen]
    have kA1 := kAll.trans k1
    refine W_loop2 (fun q fr H2 => ∃ (i : Nat) (t : List Int) (y7 y8 : Value), fr = [.agg (SC s).toArray, .agg (MC d v).toArray, ptr H.n 0, ptr Ha.n 0, ptr Hb.n 0, .int .i64 0, .int .i64 i, y7, y8] ∧ i ≤ d.l.length ∧ q = d.l.length - i ∧ Keeps H H2 ∧
      t.length = 64 ∧ patchT s.t d.l = patchT t (d.l.drop i) ∧ H2.get H.n = some (.cells true false 68 (SC ⟨xr 64 s.a d.a, xr 64 s.b d.b, xr 64 s.c d.c, t, xr 32 s.p d.p⟩) 26) ∧ H2.get Hb.n = some (.cells true false 68 Z68 26) ∧ H2.get Ha.n = some (.cells true false 78 (MC d v) 38)) d.l.length ?_ ?_
    · exact ⟨0, s.t, _, _, rfl, by omega, by omega, kA1.chg_trans (Chg.set H1 (AHeap.get_lt ga1) _) (by simp), hs, by simp, get1 ga1 _, (Chg.set H1 (b := H.n) (AHeap.get_lt ga1) _).at_ gc1 (by simp; omega), (Chg.set H1 (b := H.n) (AHeap.get_lt ga1) _).at_ gb1 (by simp; omega)⟩
    · rintro Q' q fr H2 ⟨i, t, y7, y8, rfl, h1, rfl, k2, p1, p2, p3, p4, p5⟩ hnext hexit hret
      by_cases hi : i < d.l.length
      · obtain ⟨b, k', f1, f2, f3, f4⟩ := (h.keeps k2).at_ hi
        have hin := rise_in d.l (-1) (by omega) hr d.l[i] (List.getElem_mem hi)
        rw [List.drop_eq_getElem_cons hi] at p2
        generalize d.l[i] = x at *
        obtain ⟨⟨r, hxr⟩, hr64⟩ : (∃ r : Nat, x.1 = r) ∧ x.1 < 64 := ⟨⟨x.1.toNat, by omega⟩, hin.2⟩
        rw [hxr] at f2 f3
        have hrt : r < t.length := by omega
        have st : asem (.store1 (ptr H.n (3 + r)) (.int .u8 x.2)) H2 = some (undef, H2.set H.n (.cells true false 68 (SC ⟨xr 64 s.a d.a, xr 64 s.b d.b, xr 64 s.c d.c, t.set r x.2, xr 32 s.p d.p⟩) 26)) := by
          have := a_st68 (e := 26) p3 (by exact p1) (o := 3 + r) (by omega) (x := .int .u8 x.2) rfl
          rw [this]
          have e := SC_set (s := ⟨xr 64 s.a d.a, xr 64 s.b d.b, xr 64 s.c d.c, t, xr 32 s.p d.p⟩) (i := r) hrt x.2
          unfold tv at e
          rw [e]
        have m77' : (MC d v)[77]? = some (slc b 0 d.l.length k') := by rw [m77, f1]
        simp only [W_block, ANs, AOp.map, ↓reduceIte, Nat.reduceAdd, Nat.reduceEqDiff, reduceCtorEq, initFr, Nat.reduceLT, ANc, show (i : Int) < (d.l.length : Int) by omega, decide_true, show (0 : Int) ≤ (i : Int) by omega, hlen, f3, f4, cellA_of p5, m77', sd_iaddrp, a_iaddrp _ _ 64 1 _ r (by omega), st, wrap_succ (n := i) (by omega)]
        refine hnext _ _ _ ⟨i + 1, t.set r x.2, _, _, rfl, by omega, rfl, k2.chg_trans (Chg.set H2 (AHeap.get_lt p3) _) (by simp), by simpa using p1, ?_, get1 p3 _, (Chg.set H2 (b := H.n) (AHeap.get_lt p3) _).at_ p4 (by simp; omega), (Chg.set H2 (b := H.n) (AHeap.get_lt p3) _).at_ p5 (by simp; omega)⟩ (by omega)
        rw [p2]
        show patchT (t.set x.1.toNat x.2) _ = _
        rw [hxr]; rfl
      · simp only [W_block, ANs, AOp.map, ↓reduceIte, Nat.reduceAdd, Nat.reduceEqDiff, reduceCtorEq, initFr, Nat.reduceLT, ANc, cellA_of p5, m77, hlen, show ¬ (i : Int) < (d.l.length : Int) by omega, decide_false]
        refine hexit _ _ _ ?_
        rw [List.drop_of_length_le (by omega)] at p2
        have p2 : patchT s.t d.l = t := p2
        subst p2
        have st := stAll p4 rfl (SC_len (s := patchS s d) p1) (SC_one _)
        simp only [W_block, ANs, AOp.map, ↓reduceIte, Nat.reduceAdd, Nat.reduceEqDiff, reduceCtorEq, initFr, Nat.reduceLT, ANc, full p3 (SC_len (by exact p1))]
        unfold patchS at st hq2
        simp only [W_block, ANs, AOp.map, ↓reduceIte, Nat.reduceAdd, Nat.reduceEqDiff, reduceCtorEq, initFr, Nat.reduceLT, ANc, st]
        exact hq2 _ _ ⟨_, resCn 68 5 4 (b := Hb.n) rfl (full (get1 p4 _) (SC_len p1)), rfl, k2.chg_trans (Chg.set H2 (AHeap.get_lt p4) _) (by simp; omega)⟩
end Go.AM.Rp
