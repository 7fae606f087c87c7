/- Part of the proof. -/
import Derived.Test.YtlmikadohcdclaaRpM
set_option linter.unusedSimpArgs false
set_option linter.unusedVariables false
namespace Go.AM.Rp
open Go.Proofs

/-! ### Numbers compared -/
theorem t85 (H : AHeap) (n : Int) : ARun Try.prog 0 85 [.int .i64 n] H (.bool false) H := by
  suffices q : ∃ v H', ARun Try.prog 0 85 [.int .i64 n] H v H' ∧ v = .bool false ∧ H' = H by
    obtain ⟨v, H', q, rfl, rfl⟩ := q; exact q
  refine walk2 f85_ok f85_n ?_
  intro Q hq1 hq2
  simp only [f85, W_block, ANs, AOp.map, ↓reduceIte, Nat.reduceAdd, Nat.reduceEqDiff, reduceCtorEq, initFr, Nat.reduceLT, ANc, bne_self_eq_false]
  exact hq2 _ _ ⟨_, rfl, rfl, rfl⟩
def cmpI (a b : Int) : Int := if a < b then -1 else if b < a then 1 else 0
theorem t67 (H : AHeap) (a b : Int) : ARun Try.prog 0 67 [.int .i64 a, .int .i64 b] H (.int .i64 (cmpI a b)) H := by
  suffices q : ∃ v H', ARun Try.prog 0 67 [.int .i64 a, .int .i64 b] H v H' ∧ v = .int .i64 (cmpI a b) ∧ H' = H by
    obtain ⟨v, H', q, rfl, rfl⟩ := q; exact q
  refine walk2 f67_ok f67_n ?_
  intro Q hq1 hq2
  simp only [f67, W_block, ANs, AOp.map, ↓reduceIte, Nat.reduceAdd, Nat.reduceEqDiff, reduceCtorEq, initFr, Nat.reduceLT, ANc]
  refine ⟨_, _, t85 _ _, ?_⟩
  simp only [W_block, ANs, AOp.map, ↓reduceIte, Nat.reduceAdd, Nat.reduceEqDiff, reduceCtorEq, initFr, Nat.reduceLT, ANc]
  refine ⟨_, _, t85 _ _, ?_⟩
  unfold cmpI at hq2
  by_cases h1 : a < b
  · simp only [h1, if_true] at hq2
    simp only [W_block, ANs, AOp.map, ↓reduceIte, Nat.reduceAdd, Nat.reduceEqDiff, reduceCtorEq, initFr, Nat.reduceLT, ANc, h1, decide_true]
    exact hq2 _ _ ⟨_, rfl, rfl, rfl⟩
  by_cases h2 : b < a
  · simp only [h1, h2, if_true, if_false] at hq2
    simp only [W_block, ANs, AOp.map, ↓reduceIte, Nat.reduceAdd, Nat.reduceEqDiff, reduceCtorEq, initFr, Nat.reduceLT, ANc, h1, h2, decide_true, decide_false]
    exact hq2 _ _ ⟨_, rfl, rfl, rfl⟩
  simp only [h1, h2, if_false] at hq2
  simp only [W_block, ANs, AOp.map, ↓reduceIte, Nat.reduceAdd, Nat.reduceEqDiff, reduceCtorEq, initFr, Nat.reduceLT, ANc, h1, h2, decide_false]
  exact hq2 _ _ ⟨_, rfl, rfl, rfl⟩

/-- A slice of numbers. -/
def IL (H : AHeap) (v : Value) (l : List Int) : Prop := ∃ b k, v = slc b 0 l.length k ∧ ∀ (i : Nat) (h : i < l.length), cellA H b i = some (.int .i64 l[i])
theorem t66 {H : AHeap} {v : Value} {a b : Int} (h : IL H v [a, b]) : ARun Try.prog 0 66 [v] H (.int .i64 (if a ≠ 0 then a else b)) H := by
  suffices q : ∃ r H', ARun Try.prog 0 66 [v] H r H' ∧ r = .int .i64 (if a ≠ 0 then a else b) ∧ H' = H by
    obtain ⟨r, H', q, rfl, rfl⟩ := q; exact q
  refine walk2 f66_ok f66_n ?_
  intro Q hq1 hq2
  obtain ⟨bb, k, rfl, h1⟩ := h
  have c0 : cellA H bb 0 = some (.int .i64 a) := h1 0 (by simp)
  have c1 : cellA H bb 1 = some (.int .i64 b) := h1 1 (by simp)
  simp only [f66, W_block, ANs, AOp.map, ↓reduceIte, Nat.reduceAdd, Nat.reduceEqDiff, reduceCtorEq, initFr, Nat.reduceLT, ANc, List.length_cons, List.length_nil]
  refine W_loop2 (fun q fr H2 => ∃ (i : Nat) (y3 y7 y8 : Value), fr = [slc bb 0 2 k, .int .i64 0, .int .i64 0, y3, slc bb 0 2 k, .int .i64 ((2 : Nat) : Int), .int .i64 i, y7, y8] ∧ i ≤ 2 ∧ q = 2 - i ∧ H2 = H ∧ (0 < i → a = 0) ∧ (1 < i → b = 0)) 2 ?_ ?_
  · exact ⟨0, _, _, _, rfl, by omega, rfl, rfl, by omega, by omega⟩
  · rintro Q' q fr H2 ⟨i, y3, y7, y8, rfl, i1, rfl, rfl, z0, z1⟩ hnext hexit hret
    have c : i = 0 ∨ i = 1 ∨ i = 2 := by omega
    rcases c with rfl | rfl | rfl
    · by_cases ha : a = 0
      · simp only [W_block, ANs, AOp.map, ↓reduceIte, Nat.reduceAdd, Nat.reduceEqDiff, reduceCtorEq, initFr, Nat.reduceLT, ANc, show ((0 : Nat) : Int) < ((2 : Nat) : Int) by omega, decide_true, show (0 : Int) ≤ ((0 : Nat) : Int) by omega, c0, show (a != 0) = false by simp [ha], wrap_succ (n := 0) (by omega)]
        exact hnext _ _ _ ⟨1, _, _, _, rfl, by omega, rfl, rfl, fun _ => ha, by omega⟩ (by omega)
      · simp only [ne_eq, ha, not_false_eq_true, if_true] at hq2
        simp only [W_block, ANs, AOp.map, ↓reduceIte, Nat.reduceAdd, Nat.reduceEqDiff, reduceCtorEq, initFr, Nat.reduceLT, ANc, show ((0 : Nat) : Int) < ((2 : Nat) : Int) by omega, decide_true, show (0 : Int) ≤ ((0 : Nat) : Int) by omega, c0, show (a != 0) = true by simp [ha]]
        exact hret _ _ (hq2 _ _ ⟨_, rfl, rfl, rfl⟩)
    · have ha := z0 (by omega)
      by_cases hb : b = 0
      · simp only [W_block, ANs, AOp.map, ↓reduceIte, Nat.reduceAdd, Nat.reduceEqDiff, reduceCtorEq, initFr, Nat.reduceLT, ANc, show ((1 : Nat) : Int) < ((2 : Nat) : Int) by omega, decide_true, show (0 : Int) ≤ ((1 : Nat) : Int) by omega, c1, show (b != 0) = false by simp [hb], wrap_succ (n := 1) (by omega)]
        exact hnext _ _ _ ⟨2, _, _, _, rfl, by omega, rfl, rfl, fun _ => ha, fun _ => hb⟩ (by omega)
      · simp only [ne_eq, ha, not_true_eq_false, if_false] at hq2
        simp only [W_block, ANs, AOp.map, ↓reduceIte, Nat.reduceAdd, Nat.reduceEqDiff, reduceCtorEq, initFr, Nat.reduceLT, ANc, show ((1 : Nat) : Int) < ((2 : Nat) : Int) by omega, decide_true, show (0 : Int) ≤ ((1 : Nat) : Int) by omega, c1, show (b != 0) = true by simp [hb]]
        exact hret _ _ (hq2 _ _ ⟨_, rfl, rfl, rfl⟩)
    · have ha := z0 (by omega)
      have hb := z1 (by omega)
      simp only [W_block, ANs, AOp.map, ↓reduceIte, Nat.reduceAdd, Nat.reduceEqDiff, reduceCtorEq, initFr, Nat.reduceLT, ANc, show ¬ ((2 : Nat) : Int) < ((2 : Nat) : Int) by omega, decide_false]
      refine hexit _ _ _ ?_
      simp only [W_block, ANs, AOp.map, ↓reduceIte, Nat.reduceAdd, Nat.reduceEqDiff, reduceCtorEq, initFr, Nat.reduceLT, ANc]
      simp only [ne_eq, ha, not_true_eq_false, if_false, hb] at hq2
      exact hq2 _ _ ⟨_, rfl, rfl, rfl⟩
end Go.AM.Rp

namespace Go.AM.Rp
open Go.Proofs

section
variable {P : Program} {ng : Nat} {fr tm : List Value} {H : AHeap} {KF : List Value → AHeap → Prop}
theorem st_mm {d : Go.AM.D} {r : List AOper} (m : Bool) (x y : Value) : stR P ng (.mm m x y) d r fr tm H KF = goR P ng (asem (.mm m x y) H) d r fr tm KF := st_of d r (by simp) (by simp)
end
theorem a_mmx (a b : Int) (H : AHeap) : asem (.mm true (.int .i64 a) (.int .i64 b)) H = some (.int .i64 (if b > a then b else a), H) := by simp [asem]
theorem a_mmn (a b : Int) (H : AHeap) : asem (.mm false (.int .i64 a) (.int .i64 b)) H = some (.int .i64 (if b < a then b else a), H) := by simp [asem]
def mn : List Int → Int
  | [] => 0
  | x :: l => l.foldl (fun a b => if b < a then b else a) x
def mx : List Int → Int
  | [] => 0
  | x :: l => l.foldl (fun a b => if b > a then b else a) x

theorem t64 {H : AHeap} {v : Value} {x : Int} {l : List Int} (h : IL H v (x :: l)) (hl : l.length ≤ 1000) : ARun Try.prog 0 64 [v] H (.int .i64 (mn (x :: l))) H := by
  suffices q : ∃ r H', ARun Try.prog 0 64 [v] H r H' ∧ r = .int .i64 (mn (x :: l)) ∧ H' = H by
    obtain ⟨r, H', q, rfl, rfl⟩ := q; exact q
  refine walk2 f64_ok f64_n ?_
  intro Q hq1 hq2
  obtain ⟨bb, k, rfl, h1⟩ := h
  have c0 : cellA H bb 0 = some (.int .i64 x) := h1 0 (by simp)
  have hn : (x :: l).length = l.length + 1 := rfl
  simp only [f64, W_block, ANs, AOp.map, ↓reduceIte, Nat.reduceAdd, Nat.reduceEqDiff, reduceCtorEq, initFr, Nat.reduceLT, ANc, show ¬ (((l.length + 1 : Nat)) : Int) < 1 by omega, decide_false, show (0 : Int) < ((l.length + 1 : Nat) : Int) by omega, show (0 : Int) ≤ 0 by omega, c0, show Int.toNat 0 = 0 from rfl]
  refine W_loop2 (fun q fr H2 => ∃ (i : Nat) (y4 y5 : Value), fr = [slc bb 0 (l.length + 1) k, .int .i64 0, .int .i64 ((l.take i).foldl (fun a b => if b < a then b else a) x), .int .i64 ((i + 1 : Nat) : Int), y4, y5] ∧ i ≤ l.length ∧ q = l.length - i ∧ H2 = H) l.length ?_ ?_
  · exact ⟨0, _, _, rfl, by omega, by omega, rfl⟩
  · rintro Q' q fr H2 ⟨i, y4, y5, rfl, i1, rfl, rfl⟩ hnext hexit hret
    by_cases hi : i < l.length
    · have ci : cellA H2 bb (i + 1) = some (.int .i64 l[i]) := h1 (i + 1) (by simp; omega)
      simp only [W_block, ANs, AOp.map, ↓reduceIte, Nat.reduceAdd, Nat.reduceEqDiff, reduceCtorEq, initFr, Nat.reduceLT, ANc, show ((i + 1 : Nat) : Int) < ((l.length + 1 : Nat) : Int) by omega, decide_true, show (0 : Int) ≤ ((i + 1 : Nat) : Int) by omega, ci, st_mm, a_mmn, wrap_succ (n := i + 1) (by omega)]
      have ef : (l.take (i + 1)).foldl (fun a b => if b < a then b else a) x = if l[i] < (l.take i).foldl (fun a b => if b < a then b else a) x then l[i] else (l.take i).foldl (fun a b => if b < a then b else a) x := by rw [List.take_succ_eq_append_getElem hi, List.foldl_append]; rfl
      rw [← ef]
      exact hnext _ _ _ ⟨i + 1, _, _, rfl, by omega, rfl, rfl⟩ (by omega)
    · simp only [W_block, ANs, AOp.map, ↓reduceIte, Nat.reduceAdd, Nat.reduceEqDiff, reduceCtorEq, initFr, Nat.reduceLT, ANc, show ¬ ((i + 1 : Nat) : Int) < ((l.length + 1 : Nat) : Int) by omega, decide_false]
      refine hexit _ _ _ ?_
      simp only [W_block, ANs, AOp.map, ↓reduceIte, Nat.reduceAdd, Nat.reduceEqDiff, reduceCtorEq, initFr, Nat.reduceLT, ANc]
      exact hq2 _ _ ⟨_, rfl, by rw [List.take_of_length_le (by omega)]; rfl, rfl⟩
theorem t65 {H : AHeap} {v : Value} {x : Int} {l : List Int} (h : IL H v (x :: l)) (hl : l.length ≤ 1000) : ARun Try.prog 0 65 [v] H (.int .i64 (mx (x :: l))) H := by
  suffices q : ∃ r H', ARun Try.prog 0 65 [v] H r H' ∧ r = .int .i64 (mx (x :: l)) ∧ H' = H by
    obtain ⟨r, H', q, rfl, rfl⟩ := q; exact q
  refine walk2 f65_ok f65_n ?_
  intro Q hq1 hq2
  obtain ⟨bb, k, rfl, h1⟩ := h
  have c0 : cellA H bb 0 = some (.int .i64 x) := h1 0 (by simp)
  simp only [f65, W_block, ANs, AOp.map, ↓reduceIte, Nat.reduceAdd, Nat.reduceEqDiff, reduceCtorEq, initFr, Nat.reduceLT, ANc, show ¬ (((l.length + 1 : Nat)) : Int) < 1 by omega, decide_false, show (0 : Int) < ((l.length + 1 : Nat) : Int) by omega, show (0 : Int) ≤ 0 by omega, c0, show Int.toNat 0 = 0 from rfl]
  refine W_loop2 (fun q fr H2 => ∃ (i : Nat) (y4 y5 : Value), fr = [slc bb 0 (l.length + 1) k, .int .i64 0, .int .i64 ((l.take i).foldl (fun a b => if b > a then b else a) x), .int .i64 ((i + 1 : Nat) : Int), y4, y5] ∧ i ≤ l.length ∧ q = l.length - i ∧ H2 = H) l.length ?_ ?_
  · exact ⟨0, _, _, rfl, by omega, by omega, rfl⟩
  · rintro Q' q fr H2 ⟨i, y4, y5, rfl, i1, rfl, rfl⟩ hnext hexit hret
    by_cases hi : i < l.length
    · have ci : cellA H2 bb (i + 1) = some (.int .i64 l[i]) := h1 (i + 1) (by simp; omega)
      simp only [W_block, ANs, AOp.map, ↓reduceIte, Nat.reduceAdd, Nat.reduceEqDiff, reduceCtorEq, initFr, Nat.reduceLT, ANc, show ((i + 1 : Nat) : Int) < ((l.length + 1 : Nat) : Int) by omega, decide_true, show (0 : Int) ≤ ((i + 1 : Nat) : Int) by omega, ci, st_mm, a_mmx, wrap_succ (n := i + 1) (by omega)]
      have ef : (l.take (i + 1)).foldl (fun a b => if b > a then b else a) x = if l[i] > (l.take i).foldl (fun a b => if b > a then b else a) x then l[i] else (l.take i).foldl (fun a b => if b > a then b else a) x := by rw [List.take_succ_eq_append_getElem hi, List.foldl_append]; rfl
      rw [← ef]
      exact hnext _ _ _ ⟨i + 1, _, _, rfl, by omega, rfl, rfl⟩ (by omega)
    · simp only [W_block, ANs, AOp.map, ↓reduceIte, Nat.reduceAdd, Nat.reduceEqDiff, reduceCtorEq, initFr, Nat.reduceLT, ANc, show ¬ ((i + 1 : Nat) : Int) < ((l.length + 1 : Nat) : Int) by omega, decide_false]
      refine hexit _ _ _ ?_
      simp only [W_block, ANs, AOp.map, ↓reduceIte, Nat.reduceAdd, Nat.reduceEqDiff, reduceCtorEq, initFr, Nat.reduceLT, ANc]
      exact hq2 _ _ ⟨_, rfl, by rw [List.take_of_length_le (by omega)]; rfl, rfl⟩

/-- in. -/
def inB (l : List Int) : Bool := decide (0 ≤ mn l) && decide (mx l ≤ 1099511627776)
theorem t33 {H : AHeap} {v : Value} {x : Int} {l : List Int} (h : IL H v (x :: l)) (hl : l.length ≤ 1000) : ARun Try.prog 0 33 [v] H (.bool (inB (x :: l))) H := by
  suffices q : ∃ r H', ARun Try.prog 0 33 [v] H r H' ∧ r = .bool (inB (x :: l)) ∧ H' = H by
    obtain ⟨r, H', q, rfl, rfl⟩ := q; exact q
  refine walk2 f33_ok f33_n ?_
  intro Q hq1 hq2
  simp only [f33, W_block, ANs, AOp.map, ↓reduceIte, Nat.reduceAdd, Nat.reduceEqDiff, reduceCtorEq, initFr, Nat.reduceLT, ANc]
  refine ⟨_, _, t64 h hl, ?_⟩
  unfold inB at hq2
  by_cases h1 : 0 ≤ mn (x :: l)
  · simp only [h1, decide_true, Bool.true_and] at hq2
    simp only [W_block, ANs, AOp.map, ↓reduceIte, Nat.reduceAdd, Nat.reduceEqDiff, reduceCtorEq, initFr, Nat.reduceLT, ANc, h1, decide_true]
    refine ⟨_, _, t65 h hl, ?_⟩
    simp only [W_block, ANs, AOp.map, ↓reduceIte, Nat.reduceAdd, Nat.reduceEqDiff, reduceCtorEq, initFr, Nat.reduceLT, ANc]
    exact hq2 _ _ ⟨_, rfl, rfl, rfl⟩
  · simp only [h1, decide_false, Bool.false_and] at hq2
    simp only [W_block, ANs, AOp.map, ↓reduceIte, Nat.reduceAdd, Nat.reduceEqDiff, reduceCtorEq, initFr, Nat.reduceLT, ANc, bi_u, h1, decide_false]
    exact hq2 _ _ ⟨_, rfl, rfl, rfl⟩
end Go.AM.Rp

namespace Go.AM.Rp
open Go.Proofs

/-! ### Records -/
structure Lg where
  e : Int
  c : Int
  s : S
def LC (x : Lg) : List Value := .int .i64 x.e :: .int .i64 x.c :: SC x.s
theorem LC_len {x : Lg} (h : x.s.t.length = 64) : (LC x).length = 70 := by simp [LC, SC_len h]
theorem LC_one (x : Lg) : (LC x).all Value.oneCell' = true := by
  simp only [LC, List.all_cons, SC_one, one_int]; rfl
def cmpL (x y : Lg) : Int := if cmpI x.e y.e ≠ 0 then cmpI x.e y.e else cmpI x.c y.c
theorem bsl2 (e : Nat) (a b : Int) (H : AHeap) : asem (.bslice e 1 2 [.int .i64 0, .int .i64 0] [(0, 1, .int .i64 a), (1, 1, .int .i64 b)]) H = some (slc H.n 0 2 2, H.alloc (.cells true false 1 [.int .i64 a, .int .i64 b] e)) := rfl
theorem il2 (e : Nat) (a b : Int) (H : AHeap) : IL (H.alloc (.cells true false 1 [.int .i64 a, .int .i64 b] e)) (slc H.n 0 2 2) [a, b] := by
  refine ⟨_, _, rfl, fun i h => ?_⟩
  rw [cellA_of (AHeap.get_alloc_new H _)]
  have c : i = 0 ∨ i = 1 := by simp at h; omega
  rcases c with rfl | rfl <;> rfl

/-- compare. -/
theorem t34 {H : AHeap} (x y : Lg) : ∃ r H', ARun Try.prog 0 34 [.agg (LC x).toArray, .agg (LC y).toArray] H r H' ∧ r = .int .i64 (cmpL x y) ∧ Keeps H H' := by
  refine walk2 f34_ok f34_n ?_
  intro Q hq1 hq2
  have hc1 : (Value.agg (LC x).toArray).cells.toList = LC x := by simp [Value.cells]
  have hc2 : (Value.agg (LC y).toArray).cells.toList = LC y := by simp [Value.cells]
  obtain ⟨Ha, hHa⟩ : ∃ X, X = H.alloc (.cells true false 70 (LC x) 54) := ⟨_, rfl⟩
  have ka := (Keeps.refl H).alloc (.cells true false 70 (LC x) 54)
  have ga := AHeap.get_alloc_new H (.cells true false 70 (LC x) 54)
  rw [← hHa] at ka ga
  obtain ⟨Hb, hHb⟩ : ∃ X, X = Ha.alloc (.cells true false 70 (LC y) 54) := ⟨_, rfl⟩
  have kb := (Keeps.refl Ha).alloc (.cells true false 70 (LC y) 54)
  have gb := AHeap.get_alloc_new Ha (.cells true false 70 (LC y) 54)
  rw [← hHb] at kb gb
  have ga := kb.at_ ga
  have x0 : cellA Hb H.n 0 = some (.int .i64 x.e) := by rw [cellA_of ga]; rfl
  have x1 : cellA Hb H.n 1 = some (.int .i64 x.c) := by rw [cellA_of ga]; rfl
  have y0 : cellA Hb Ha.n 0 = some (.int .i64 y.e) := by rw [cellA_of gb]; rfl
  have y1 : cellA Hb Ha.n 1 = some (.int .i64 y.c) := by rw [cellA_of gb]; rfl
  have la := AHeap.get_lt ga
  have lb := AHeap.get_lt gb
  simp only [f34, W_block, ANs, AOp.map, ↓reduceIte, Nat.reduceAdd, Nat.reduceEqDiff, reduceCtorEq, initFr, Nat.reduceLT, ANc, hc1, hc2, LC_one, ← hHa, ← hHb, x0, y0]
  refine ⟨_, _, t67 _ _ _, trivial, ?_⟩
  simp only [W_block, ANs, AOp.map, ↓reduceIte, Nat.reduceAdd, Nat.reduceEqDiff, reduceCtorEq, initFr, Nat.reduceLT, ANc, x1, y1]
  refine ⟨by simp [oblA, clsA, touchA, readsA, ptr, keepsB, olderB, AOp.map, la], by simp [oblA, clsA, touchA, readsA, ptr, keepsB, olderB, AOp.map, lb], ?_⟩
  refine ⟨_, _, t67 _ _ _, trivial, ?_⟩
  simp only [W_block, ANs, AOp.map, ↓reduceIte, Nat.reduceAdd, Nat.reduceEqDiff, reduceCtorEq, initFr, Nat.reduceLT, ANc, bsl2]
  refine ⟨_, _, t66 (il2 3 (cmpI x.e y.e) (cmpI x.c y.c) Hb), trivial, ?_⟩
  simp only [W_block, ANs, AOp.map, ↓reduceIte, Nat.reduceAdd, Nat.reduceEqDiff, reduceCtorEq, initFr, Nat.reduceLT, ANc]
  exact hq2 _ _ ⟨_, rfl, rfl, (ka.trans kb).trans ((Keeps.refl Hb).alloc _)⟩
end Go.AM.Rp

namespace Go.AM.Rp
open Go.Proofs

theorem z70 : Z70.all Value.oneCell' = true := rfl
def L0 : Lg := ⟨0, 0, S0⟩
theorem Z70_eq : Z70 = LC L0 := rfl
theorem fl70 : fillA Z70 [] = some Z70 := rfl
theorem var70 (H : AHeap) {x : Lg} (h : x.s.t.length = 64) : asem (.storen 70 (ptr H.n 0) (.agg (LC x).toArray)) (H.alloc (.cells true false 70 Z70 54)) = some (undef, H.alloc (.cells true false 70 (LC x) 54)) := by
  have := a_var (H := H) (n := 70) (room := false) (esz := 70) (e := 54) (c := Z70) (xs := (LC x).toArray) rfl (by simp [LC_len h]) (by simpa using LC_one x)
  simpa using this

/-- A receiver: what it has. -/
def RvS (H : AHeap) (r : Nat) (x : Option Lg) : Prop :=
  match x with
  | none => H.get r = some (.cells true false 1 [.pointer none] 51)
  | some x => ∃ b, H.get r = some (.cells true false 1 [ptr b 0] 51) ∧ H.get b = some (.cells true false 70 (LC x) 54) ∧ b ≠ r

theorem resCn1 (n j : Nat) {fr : List Value} {H : AHeap} {b : Nat} {cs : List Value} (h1 : fr.getD 1 undef = ptr b 0) (h2 : rangeA H b 0 n = some cs) : resO [.cn n 1, .t j] fr H = some (.tuple #[.agg cs.toArray, fr.getD j undef]) := resCn n j 1 h1 h2
/-- Has. -/
theorem t20 {H : AHeap} {r : Nat} {x : Option Lg} (h : RvS H r x) (hx : ∀ y, x = some y → y.s.t.length = 64) : ∃ v H', ARun Try.prog 0 20 [ptr r 0] H v H' ∧ v = .tuple #[.agg (LC (x.getD L0)).toArray, .bool x.isSome] ∧ Keeps H H' := by
  refine walk2 f20_ok f20_n ?_
  intro Q hq1 hq2
  obtain ⟨Ha, hHa⟩ : ∃ X, X = H.alloc (.cells true false 70 Z70 54) := ⟨_, rfl⟩
  have ka := (Keeps.refl H).alloc (.cells true false 70 Z70 54)
  have ga := AHeap.get_alloc_new H (.cells true false 70 Z70 54)
  rw [← hHa] at ka ga
  cases x with
  | none =>
    have g := ka.at_ (show H.get r = _ from h)
    have c0 : cellA Ha r 0 = some (.pointer none) := by rw [cellA_of g]; rfl
    have st := stAll ga rfl (show Z70.length = 70 from rfl) z70
    simp only [f20, W_block, ANs, AOp.map, ↓reduceIte, Nat.reduceAdd, Nat.reduceEqDiff, reduceCtorEq, initFr, Nat.reduceLT, ANc, z70, ← hHa, c0, fl70, st]
    exact hq2 _ _ ⟨_, resCn1 70 2 (b := H.n) (cs := Z70) rfl (full (get1 ga _) rfl), rfl, ka.chg_trans (Chg.set Ha (AHeap.get_lt ga) _) (by simp)⟩
  | some x =>
    obtain ⟨b, h1, h2, h3⟩ := h
    have hl := hx x rfl
    have g1 := ka.at_ h1
    have g2 := ka.at_ h2
    have c0 : cellA Ha r 0 = some (ptr b 0) := by rw [cellA_of g1]; rfl
    have st := stAll ga rfl (LC_len hl) (LC_one x)
    simp only [f20, W_block, ANs, AOp.map, ↓reduceIte, Nat.reduceAdd, Nat.reduceEqDiff, reduceCtorEq, initFr, Nat.reduceLT, ANc, z70, ← hHa, c0, full g2 (LC_len hl), st]
    exact hq2 _ _ ⟨_, resCn1 70 2 (b := H.n) rfl (full (get1 ga _) (LC_len hl)), rfl, ka.chg_trans (Chg.set Ha (AHeap.get_lt ga) _) (by simp)⟩

/-! ### Messages -/
structure Msg where
  k : Nat
  e : Int
  c : Int
  be : Int
  b : Int
  s : S
  d : D
def GC (m : Msg) (v : Value) : List Value := .int .u8 m.k :: .int .i64 m.e :: .int .i64 m.c :: .int .i64 m.be :: .int .i64 m.b :: (SC m.s ++ D5 m.d.a m.d.b m.d.c m.d.p v)
theorem GC_len {m : Msg} (h : m.s.t.length = 64) (v : Value) : (GC m v).length = 78 := by simp [GC, SC_len h, D5]
theorem GC_one (m : Msg) {v : Value} (h : v.oneCell' = true) : (GC m v).all Value.oneCell' = true := by
  simp only [GC, List.all_cons, List.all_append, SC_one, D5_one _ _ _ _ h, one_int]; rfl
theorem GC_d {H : AHeap} {b e : Nat} {m : Msg} {v : Value} (hs : m.s.t.length = 64) (h : H.get b = some (.cells true false 78 (GC m v) e)) : rangeA H b 73 5 = some (D5 m.d.a m.d.b m.d.c m.d.p v) := by
  rw [rangeA_of h, if_pos (by rw [GC_len hs]; omega)]
  simp only [GC, List.drop]
  rw [List.drop_append_of_le_length (by rw [SC_len hs]; omega), List.drop_of_length_le (by rw [SC_len hs]; omega)]
  rfl
theorem GC_s {H : AHeap} {b e : Nat} {m : Msg} {v : Value} (hs : m.s.t.length = 64) (h : H.get b = some (.cells true false 78 (GC m v) e)) : rangeA H b 5 68 = some (SC m.s) := by
  rw [rangeA_of h, if_pos (by rw [GC_len hs]; omega)]
  simp only [GC, List.drop]
  rw [List.take_append_of_le_length (by rw [SC_len hs]; omega), List.take_of_length_le (by rw [SC_len hs]; omega)]
theorem bsl4 (e : Nat) (a b c d : Int) (H : AHeap) : asem (.bslice e 1 4 [.int .i64 0, .int .i64 0, .int .i64 0, .int .i64 0] [(0, 1, .int .i64 a), (1, 1, .int .i64 b), (2, 1, .int .i64 c), (3, 1, .int .i64 d)]) H = some (slc H.n 0 4 4, H.alloc (.cells true false 1 [.int .i64 a, .int .i64 b, .int .i64 c, .int .i64 d] e)) := rfl
theorem il4 (e : Nat) (a b c d : Int) (H : AHeap) : IL (H.alloc (.cells true false 1 [.int .i64 a, .int .i64 b, .int .i64 c, .int .i64 d] e)) (slc H.n 0 4 4) [a, b, c, d] := by
  refine ⟨_, _, rfl, fun i h => ?_⟩
  rw [cellA_of (AHeap.get_alloc_new H _)]
  have c : i = 0 ∨ i = 1 ∨ i = 2 ∨ i = 3 := by simp at h; omega
  rcases c with rfl | rfl | rfl | rfl <;> rfl
def mayB (m : Msg) : Bool := decide (1 ≤ m.k) && decide (m.k ≤ 4) && inB [m.e, m.c, m.be, m.b] && riseF (-1) m.d.l

/-- may. -/
theorem t35 {H : AHeap} {m : Msg} {v : Value} (hs : m.s.t.length = 64) (h : TB H v m.d.l) (hl : m.d.l.length ≤ 100000) : ∃ r H', ARun Try.prog 0 35 [.agg (GC m v).toArray] H r H' ∧ r = .bool (mayB m) ∧ Keeps H H' := by
  refine walk2 f35_ok f35_n ?_
  intro Q hq1 hq2
  have hc1 : (Value.agg (GC m v).toArray).cells.toList = GC m v := by simp [Value.cells]
  obtain ⟨Ha, hHa⟩ : ∃ X, X = H.alloc (.cells true false 78 (GC m v) 41) := ⟨_, rfl⟩
  have ka := (Keeps.refl H).alloc (.cells true false 78 (GC m v) 41)
  have ga := AHeap.get_alloc_new H (.cells true false 78 (GC m v) 41)
  rw [← hHa] at ka ga
  have c0 : cellA Ha H.n 0 = some (.int .u8 m.k) := by rw [cellA_of ga]; rfl
  have c1 : cellA Ha H.n 1 = some (.int .i64 m.e) := by rw [cellA_of ga]; rfl
  have c2 : cellA Ha H.n 2 = some (.int .i64 m.c) := by rw [cellA_of ga]; rfl
  have c3 : cellA Ha H.n 3 = some (.int .i64 m.be) := by rw [cellA_of ga]; rfl
  have c4 : cellA Ha H.n 4 = some (.int .i64 m.b) := by rw [cellA_of ga]; rfl
  unfold mayB at hq2
  simp only [f35, W_block, ANs, AOp.map, ↓reduceIte, Nat.reduceAdd, Nat.reduceEqDiff, reduceCtorEq, initFr, Nat.reduceLT, ANc, hc1, GC_one m h.one, ← hHa, c0]
  by_cases h1 : 1 ≤ m.k
  case neg =>
    simp only [h1, decide_false, Bool.false_and] at hq2
    simp only [W_block, ANs, AOp.map, ↓reduceIte, Nat.reduceAdd, Nat.reduceEqDiff, reduceCtorEq, initFr, Nat.reduceLT, ANc, bi_u, show ¬ (1 : Int) ≤ (m.k : Int) by omega, decide_false]
    exact hq2 _ _ ⟨_, rfl, rfl, ka⟩
  by_cases h2 : m.k ≤ 4
  case neg =>
    simp only [h1, h2, decide_true, decide_false, Bool.false_and, Bool.and_false] at hq2
    simp only [W_block, ANs, AOp.map, ↓reduceIte, Nat.reduceAdd, Nat.reduceEqDiff, reduceCtorEq, initFr, Nat.reduceLT, ANc, bi_u, c0, show (1 : Int) ≤ (m.k : Int) by omega, show ¬ (m.k : Int) ≤ 4 by omega, decide_true, decide_false]
    exact hq2 _ _ ⟨_, rfl, rfl, ka⟩
  simp only [h1, h2, decide_true, Bool.true_and] at hq2
  simp only [W_block, ANs, AOp.map, ↓reduceIte, Nat.reduceAdd, Nat.reduceEqDiff, reduceCtorEq, initFr, Nat.reduceLT, ANc, bi_u, c0, c1, c2, c3, c4, show (1 : Int) ≤ (m.k : Int) by omega, show (m.k : Int) ≤ 4 by omega, decide_true, bsl4]
  have kb := (Keeps.refl Ha).alloc (.cells true false 1 [.int .i64 m.e, .int .i64 m.c, .int .i64 m.be, .int .i64 m.b] 2)
  refine ⟨_, _, t33 (il4 2 m.e m.c m.be m.b Ha) (by simp), ?_⟩
  have gb := kb.at_ ga
  cases h3 : inB [m.e, m.c, m.be, m.b]
  · simp only [h3, Bool.false_and] at hq2
    simp only [W_block, ANs, AOp.map, ↓reduceIte, Nat.reduceAdd, Nat.reduceEqDiff, reduceCtorEq, initFr, Nat.reduceLT, ANc, bi_u]
    exact hq2 _ _ ⟨_, rfl, rfl, ka.trans kb⟩
  · simp only [h3, Bool.true_and] at hq2
    simp only [W_block, ANs, AOp.map, ↓reduceIte, Nat.reduceAdd, Nat.reduceEqDiff, reduceCtorEq, initFr, Nat.reduceLT, ANc, bi_u, GC_d hs gb]
    obtain ⟨_, H2, r2, rfl, k2⟩ := t31 (h.keeps (ka.trans kb)) m.d.a m.d.b m.d.c m.d.p hl
    refine ⟨_, _, r2, ?_⟩
    simp only [W_block, ANs, AOp.map, ↓reduceIte, Nat.reduceAdd, Nat.reduceEqDiff, reduceCtorEq, initFr, Nat.reduceLT, ANc]
    exact hq2 _ _ ⟨_, rfl, rfl, (ka.trans kb).trans k2⟩
end Go.AM.Rp

namespace Go.AM.Rp
open Go.Proofs

def G0 : Msg := ⟨0, 0, 0, 0, 0, S0, ⟨0, 0, 0, 0, []⟩⟩
theorem Z78_G : Z78 = GC G0 (.slice none 0 0) := rfl
def ackM (x : Lg) : Msg := { G0 with k := 3, e := x.e, c := x.c }
def needM : Msg := { G0 with k := 4 }
def hearR (x : Option Lg) (m : Msg) : Msg × Bool × Int × Option Lg :=
  if mayB m = false ∨ 2 < m.k then (G0, false, 2, x)
  else match x with
    | some x0 => if cmpL ⟨m.e, m.c, m.s⟩ x0 ≤ 0 then (ackM x0, false, 0, some x0)
      else if m.k = 1 then (ackM ⟨m.e, m.c, m.s⟩, true, 0, some ⟨m.e, m.c, m.s⟩)
      else if cmpL ⟨m.be, m.b, S0⟩ x0 ≠ 0 then (needM, false, 0, some x0)
      else (ackM ⟨m.e, m.c, m.s⟩, true, 0, some ⟨m.e, m.c, (patchR x0.s m.d).2⟩)
    | none => if m.k = 1 then (ackM ⟨m.e, m.c, m.s⟩, true, 0, some ⟨m.e, m.c, m.s⟩) else (needM, false, 0, none)

theorem resC3 {fr : List Value} {H : AHeap} {b : Nat} {cs : List Value} (h1 : fr.getD 3 undef = ptr b 0) (h2 : rangeA H b 0 78 = some cs) : resO [.cn 78 3, .t 4, .t 5] fr H = some (.tuple #[.agg cs.toArray, fr.getD 4 undef, fr.getD 5 undef]) := by
  simp only [resO, resVs, RX.get, h1, ptr, celln, h2, Option.map_some]
  rfl
theorem fl70b (a b : Int) : fillA Z70 [(0, 1, .int .i64 a), (1, 1, .int .i64 b)] = some (LC ⟨a, b, S0⟩) := rfl
theorem fl70s (a b : Int) {s : S} (hs : s.t.length = 64) : fillA Z70 [(0, 1, .int .i64 a), (1, 1, .int .i64 b), (2, 68, .agg (SC s).toArray)] = some (LC ⟨a, b, s⟩) := by
  have h1 : (Value.int .i64 a).cells.toList = [.int .i64 a] := rfl
  have h2 : (Value.int .i64 b).cells.toList = [.int .i64 b] := rfl
  have h3 : (Value.agg (SC s).toArray).cells.toList = SC s := by simp [Value.cells]
  have hz : ∃ z : List Value, Z70 = .int .i64 0 :: .int .i64 0 :: z ∧ z.length = 68 := ⟨Z68, rfl, rfl⟩
  obtain ⟨z, hz, hl2⟩ := hz
  have hl := SC_len hs
  simp only [fillA, h1, h2, h3, hz, hl, hl2, List.length_cons, List.length_nil, List.take, List.drop, List.nil_append, List.singleton_append, List.cons_append, Nat.reduceAdd]
  simp only [and_self, Nat.reduceLeDiff, if_true, List.nil_append, List.cons_append]
  rw [List.drop_of_length_le (by omega)]
  simp [LC]
theorem flA (e c : Int) : fillA Z78 [(0, 1, .int .u8 3), (1, 1, .int .i64 e), (2, 1, .int .i64 c)] = some (GC { G0 with k := 3, e := e, c := c } (.slice none 0 0)) := rfl
theorem flN : fillA Z78 [(0, 1, .int .u8 4)] = some (GC needM (.slice none 0 0)) := rfl
theorem G_len (m : Msg) (hs : m.s = S0) (v : Value) : (GC m v).length = 78 := GC_len (by rw [hs]; rfl) v

/-- Hear, the receiver's. -/
theorem t17 {H : AHeap} {r : Nat} {x : Option Lg} {m : Msg} {v : Value} (h : RvS H r x) (hx : ∀ y, x = some y → y.s.t.length = 64) (hs : m.s.t.length = 64) (ht : TB H v m.d.l) (hl : m.d.l.length ≤ 100000) :
    ∃ w H', ARun Try.prog 0 17 [ptr r 0, .agg (GC m v).toArray] H w H' ∧ w = .tuple #[.agg (GC (hearR x m).1 (.slice none 0 0)).toArray, .bool (hearR x m).2.1, .int .i64 (hearR x m).2.2.1] ∧ RvS H' r (hearR x m).2.2.2 ∧ Chg [r] H H' ∧ (cellA H' r 0 = cellA H r 0 ∨ ∃ b, cellA H' r 0 = some (ptr b 0) ∧ H.n ≤ b) := by
  refine walk2 f17_ok f17_n ?_
  intro Q hq1 hq2
  have hc1 : (Value.agg (GC m v).toArray).cells.toList = GC m v := by simp [Value.cells]
  obtain ⟨Ha, hHa⟩ : ∃ X, X = H.alloc (.cells true false 78 (GC m v) 41) := ⟨_, rfl⟩
  have ka := (Keeps.refl H).alloc (.cells true false 78 (GC m v) 41)
  have ga := AHeap.get_alloc_new H (.cells true false 78 (GC m v) 41)
  rw [← hHa] at ka ga
  have na : Ha.n = H.n + 1 := by rw [hHa]; rfl
  obtain ⟨Hb, hHb⟩ : ∃ X, X = Ha.alloc (.cells true false 78 Z78 41) := ⟨_, rfl⟩
  have kb := (Keeps.refl Ha).alloc (.cells true false 78 Z78 41)
  have gb := AHeap.get_alloc_new Ha (.cells true false 78 Z78 41)
  rw [← hHb] at kb gb
  have nb : Hb.n = H.n + 2 := by rw [hHb, alloc_n, na]
  have ga := kb.at_ ga
  have kAll := ka.trans kb
  have z78 : Z78.all Value.oneCell' = true := rfl
  have ml := GC_len hs v
  have hrn : r < H.n := by
    cases x with
    | none => exact AHeap.get_lt h
    | some x => obtain ⟨b, h1, _⟩ := h; exact AHeap.get_lt h1
  have rk : ∀ {X : AHeap} {y : Option Lg}, RvS H r y → Keeps H X → RvS X r y := by
    intro X y hy k
    cases y with
    | none => exact k.at_ hy
    | some y => obtain ⟨b, h1, h2, h3⟩ := hy; exact ⟨b, k.at_ h1, k.at_ h2, h3⟩
  have rc : ∀ {X : AHeap}, Keeps H X → (cellA X r 0 = cellA H r 0 ∨ ∃ b, cellA X r 0 = some (ptr b 0) ∧ H.n ≤ b) := fun k => .inl (by unfold cellA; rw [k.get r hrn])
  have n3 := hrn
  simp only [f17, W_block, ANs, AOp.map, ↓reduceIte, Nat.reduceAdd, Nat.reduceEqDiff, reduceCtorEq, initFr, Nat.reduceLT, ANc, hc1, GC_one m ht.one, ← hHa, ← hHb, z78, full ga ml]
  obtain ⟨_, H1, r1, rfl, k1⟩ := t35 (H := Hb) (m := m) (v := v) hs (ht.keeps kAll) hl
  refine ⟨_, _, r1, ?_⟩
  have ga1 := k1.at_ ga
  have gb1 := k1.at_ gb
  have n1 := k1.n
  have kA1 := kAll.trans k1
  have c0 : cellA H1 H.n 0 = some (.int .u8 m.k) := by rw [cellA_of ga1]; rfl
  have c1 : cellA H1 H.n 1 = some (.int .i64 m.e) := by rw [cellA_of ga1]; rfl
  have c2 : cellA H1 H.n 2 = some (.int .i64 m.c) := by rw [cellA_of ga1]; rfl
  have c5 := GC_s hs ga1
  have stZ : asem (.storen 78 (ptr Ha.n 0) (.agg Z78.toArray)) H1 = _ := stAll gb1 rfl rfl z78
  unfold hearR at hq2
  by_cases hb : mayB m = false ∨ 2 < m.k
  · simp only [hb, if_true] at hq2
    have kF : Keeps H (H1.set Ha.n (.cells true false 78 Z78 41)) := kA1.chg_trans (Chg.set H1 (AHeap.get_lt gb1) _) (by simp; omega)
    have fin : ∀ fr : List Value, fr.getD 3 undef = ptr Ha.n 0 → fr.getD 4 undef = .bool false → fr.getD 5 undef = .int .i64 2 → Q .ret fr (H1.set Ha.n (.cells true false 78 Z78 41)) := fun fr e3 e4 e5 => hq2 _ _ ⟨_, resC3 e3 (full (get1 gb1 _) (show Z78.length = 78 from rfl)), by rw [e4, e5, Z78_G], rk h kF, kF.chg _, rc kF⟩
    cases hmay : mayB m
    · simp only [W_block, ANs, AOp.map, ↓reduceIte, Nat.reduceAdd, Nat.reduceEqDiff, reduceCtorEq, initFr, Nat.reduceLT, ANc, bi_u, fl78n, stZ]
      exact fin _ rfl rfl rfl
    · have h2 : 2 < m.k := by rcases hb with h | h; rw [hmay] at h; cases h; exact h
      simp only [W_block, ANs, AOp.map, ↓reduceIte, Nat.reduceAdd, Nat.reduceEqDiff, reduceCtorEq, initFr, Nat.reduceLT, ANc, bi_u, c0, show (2 : Int) < (m.k : Int) by omega, decide_true, fl78n, stZ]
      exact fin _ rfl rfl rfl
  simp only [hb, if_false] at hq2
  have hmay : mayB m = true := by cases hm : mayB m; exact absurd (.inl hm) hb; rfl
  have h2 : ¬ 2 < m.k := fun h => hb (.inr h)
  have hk1 : 1 ≤ m.k := by unfold mayB at hmay; simp at hmay; omega
  have vy := var70 H1 (x := ⟨m.e, m.c, m.s⟩) hs
  obtain ⟨Hc, hHc⟩ : ∃ X, X = H1.alloc (.cells true false 70 (LC ⟨m.e, m.c, m.s⟩) 54) := ⟨_, rfl⟩
  have kc := (Keeps.refl H1).alloc (.cells true false 70 (LC ⟨m.e, m.c, m.s⟩) 54)
  have gc := AHeap.get_alloc_new H1 (.cells true false 70 (LC ⟨m.e, m.c, m.s⟩) 54)
  rw [← hHc] at kc gc vy
  have nc : Hc.n = H1.n + 1 := by rw [hHc]; rfl
  have ga2 := kc.at_ ga1
  have d3 : cellA Hc H.n 3 = some (.int .i64 m.be) := by rw [cellA_of ga2]; rfl
  have d4 : cellA Hc H.n 4 = some (.int .i64 m.b) := by rw [cellA_of ga2]; rfl
  have vb := var70 Hc (x := ⟨m.be, m.b, S0⟩) rfl
  obtain ⟨Hd, hHd⟩ : ∃ X, X = Hc.alloc (.cells true false 70 (LC ⟨m.be, m.b, S0⟩) 54) := ⟨_, rfl⟩
  have kd := (Keeps.refl Hc).alloc (.cells true false 70 (LC ⟨m.be, m.b, S0⟩) 54)
  have gd := AHeap.get_alloc_new Hc (.cells true false 70 (LC ⟨m.be, m.b, S0⟩) 54)
  rw [← hHd] at kd gd vb
  have nd : Hd.n = H1.n + 2 := by rw [hHd, alloc_n, nc]
  have gyd := kd.at_ gc
  have gad := kd.at_ ga2
  have gbd := kd.at_ (kc.at_ gb1)
  have kD := (kA1.trans kc).trans kd
  simp only [W_block, ANs, AOp.map, ↓reduceIte, Nat.reduceAdd, Nat.reduceEqDiff, reduceCtorEq, initFr, Nat.reduceLT, ANc, bi_u, hmay, c0, show ¬ (2 : Int) < (m.k : Int) by omega, decide_false, c1, c2, c5, fl70s m.e m.c hs, fl70b, z70, vy, d3, d4, vb]
  cases x with
  | none =>
    have gr := kD.at_ (show H.get r = some (.cells true false 1 [.pointer none] 51) from h)
    have p0 : cellA Hd r 0 = some (.pointer none) := by rw [cellA_of gr]; rfl
    have cd0 : cellA Hd H.n 0 = some (.int .u8 m.k) := by rw [cellA_of gad]; rfl
    by_cases hk : m.k = 1
    · simp only [hk, if_true] at hq2
      simp only [W_block, ANs, AOp.map, ↓reduceIte, Nat.reduceAdd, Nat.reduceEqDiff, reduceCtorEq, initFr, Nat.reduceLT, ANc, bi_u, p0, cd0, show ((m.k : Int) == 1) = true by simp [hk]]
      have st1 : asem (.store1 (ptr r 0) (ptr H1.n 0)) Hd = some (undef, Hd.set r (.cells true false 1 [ptr H1.n 0] 51)) := by rw [a_st (o := 0) (x := ptr H1.n 0) gr (by simp) rfl]; rfl
      have dr := Chg.set Hd (b := r) (AHeap.get_lt gr) (.cells true false 1 [ptr H1.n 0] 51)
      have gy' := dr.at_ gyd (by simp; omega)
      have gz' := dr.at_ gbd (by simp; omega)
      have gr' := get1 gr (.cells true false 1 [ptr H1.n 0] 51)
      have e0 : cellA (Hd.set r (.cells true false 1 [ptr H1.n 0] 51)) H1.n 0 = some (.int .i64 m.e) := by rw [cellA_of gy']; rfl
      have e1 : cellA (Hd.set r (.cells true false 1 [ptr H1.n 0] 51)) H1.n 1 = some (.int .i64 m.c) := by rw [cellA_of gy']; rfl
      have st2 := stAll gz' (show Z78.length = 78 from rfl) (G_len (ackM ⟨m.e, m.c, m.s⟩) rfl (.slice none 0 0)) (GC_one _ rfl)
      unfold ackM at st2 hq2
      simp only [W_block, ANs, AOp.map, ↓reduceIte, Nat.reduceAdd, Nat.reduceEqDiff, reduceCtorEq, initFr, Nat.reduceLT, ANc, bi_u, st1, e0, e1, flA, st2]
      have d2 := Chg.set (Hd.set r (.cells true false 1 [ptr H1.n 0] 51)) (b := Ha.n) (AHeap.get_lt gz') (.cells true false 78 (GC { G0 with k := 3, e := m.e, c := m.c } (.slice none 0 0)) 41)
      refine hq2 _ _ ⟨_, resC3 (b := Ha.n) rfl (full (get1 gz' _) (G_len _ rfl _)), rfl, ⟨H1.n, d2.at_ gr' (by simp; omega), d2.at_ gy' (by simp; omega), by omega⟩, ((kD.chg [r]).trans dr (fun x hx => .inl hx)).trans d2 (by simp; omega), .inr ⟨H1.n, by rw [cellA_of (d2.at_ gr' (by simp; omega))]; rfl, by omega⟩⟩
    · simp only [hk, if_false] at hq2
      simp only [W_block, ANs, AOp.map, ↓reduceIte, Nat.reduceAdd, Nat.reduceEqDiff, reduceCtorEq, initFr, Nat.reduceLT, ANc, bi_u, p0, cd0, show ((m.k : Int) == 1) = false by simp; omega, flN]
      have st2 := stAll gbd (show Z78.length = 78 from rfl) (G_len (needM) rfl (.slice none 0 0)) (GC_one _ rfl)
      simp only [W_block, ANs, AOp.map, ↓reduceIte, Nat.reduceAdd, Nat.reduceEqDiff, reduceCtorEq, initFr, Nat.reduceLT, ANc, bi_u, st2]
      have d2 := Chg.set Hd (b := Ha.n) (AHeap.get_lt gbd) (.cells true false 78 (GC (needM) (.slice none 0 0)) 41)
      have kF := kD.chg_trans d2 (by simp; omega)
      exact hq2 _ _ ⟨_, resC3 (b := Ha.n) rfl (full (get1 gbd _) (G_len _ rfl _)), rfl, rk h kF, kF.chg _, rc kF⟩
  | some x0 =>
    have hl0 := hx x0 rfl
    obtain ⟨b, h1, hb2, hb3⟩ := id h
    have gr := kD.at_ h1
    have gx := kD.at_ hb2
    have p0 : cellA Hd r 0 = some (ptr b 0) := by rw [cellA_of gr]; rfl
    have hbn := AHeap.get_lt hb2
    simp only [W_block, ANs, AOp.map, ↓reduceIte, Nat.reduceAdd, Nat.reduceEqDiff, reduceCtorEq, initFr, Nat.reduceLT, ANc, bi_u, p0, full gyd (LC_len (x := ⟨m.e, m.c, m.s⟩) hs), full gx (LC_len hl0)]
    obtain ⟨_, He, r34, rfl, k34⟩ := t34 (H := Hd) ⟨m.e, m.c, m.s⟩ x0
    refine ⟨_, _, r34, trivial, ?_⟩
    have kE := kD.trans k34
    have grE := k34.at_ gr
    have gxE := k34.at_ gx
    have gyE := k34.at_ gyd
    have gbE := k34.at_ gbd
    have gaE := k34.at_ gad
    have gdE := k34.at_ gd
    have pE : cellA He r 0 = some (ptr b 0) := by rw [cellA_of grE]; rfl
    have cE0 : cellA He H.n 0 = some (.int .u8 m.k) := by rw [cellA_of gaE]; rfl
    have x0e : cellA He b 0 = some (.int .i64 x0.e) := by rw [cellA_of gxE]; rfl
    have x0c : cellA He b 1 = some (.int .i64 x0.c) := by rw [cellA_of gxE]; rfl
    by_cases hc : cmpL ⟨m.e, m.c, m.s⟩ x0 ≤ 0
    · simp only [hc, if_true] at hq2
      unfold ackM at hq2
      simp only [W_block, ANs, AOp.map, ↓reduceIte, Nat.reduceAdd, Nat.reduceEqDiff, reduceCtorEq, initFr, Nat.reduceLT, ANc, bi_u, hc, decide_true, pE, x0e, x0c, flA]
      have st2 := stAll gbE (show Z78.length = 78 from rfl) (G_len ({ G0 with k := 3, e := x0.e, c := x0.c }) rfl (.slice none 0 0)) (GC_one _ rfl)
      simp only [W_block, ANs, AOp.map, ↓reduceIte, Nat.reduceAdd, Nat.reduceEqDiff, reduceCtorEq, initFr, Nat.reduceLT, ANc, bi_u, st2]
      have d2 := Chg.set He (b := Ha.n) (AHeap.get_lt gbE) (.cells true false 78 (GC ({ G0 with k := 3, e := x0.e, c := x0.c }) (.slice none 0 0)) 41)
      have kF := kE.chg_trans d2 (by simp; omega)
      exact hq2 _ _ ⟨_, resC3 (b := Ha.n) rfl (full (get1 gbE _) (G_len _ rfl _)), rfl, rk h kF, kF.chg _, rc kF⟩
    simp only [hc, if_false] at hq2
    by_cases hk : m.k = 1
    · simp only [hk, if_true] at hq2
      simp only [W_block, ANs, AOp.map, ↓reduceIte, Nat.reduceAdd, Nat.reduceEqDiff, reduceCtorEq, initFr, Nat.reduceLT, ANc, bi_u, hc, decide_false, cE0, show ((m.k : Int) == 1) = true by simp [hk]]
      have st1 : asem (.store1 (ptr r 0) (ptr H1.n 0)) He = some (undef, He.set r (.cells true false 1 [ptr H1.n 0] 51)) := by rw [a_st (o := 0) (x := ptr H1.n 0) grE (by simp) rfl]; rfl
      have dr := Chg.set He (b := r) (AHeap.get_lt grE) (.cells true false 1 [ptr H1.n 0] 51)
      have gy' := dr.at_ gyE (by simp; omega)
      have gz' := dr.at_ gbE (by simp; omega)
      have gr' := get1 grE (.cells true false 1 [ptr H1.n 0] 51)
      have e0 : cellA (He.set r (.cells true false 1 [ptr H1.n 0] 51)) H1.n 0 = some (.int .i64 m.e) := by rw [cellA_of gy']; rfl
      have e1 : cellA (He.set r (.cells true false 1 [ptr H1.n 0] 51)) H1.n 1 = some (.int .i64 m.c) := by rw [cellA_of gy']; rfl
      have st2 := stAll gz' (show Z78.length = 78 from rfl) (G_len (ackM ⟨m.e, m.c, m.s⟩) rfl (.slice none 0 0)) (GC_one _ rfl)
      unfold ackM at st2 hq2
      simp only [W_block, ANs, AOp.map, ↓reduceIte, Nat.reduceAdd, Nat.reduceEqDiff, reduceCtorEq, initFr, Nat.reduceLT, ANc, bi_u, st1, e0, e1, flA, st2]
      have d2 := Chg.set (He.set r (.cells true false 1 [ptr H1.n 0] 51)) (b := Ha.n) (AHeap.get_lt gz') (.cells true false 78 (GC { G0 with k := 3, e := m.e, c := m.c } (.slice none 0 0)) 41)
      refine hq2 _ _ ⟨_, resC3 (b := Ha.n) rfl (full (get1 gz' _) (G_len _ rfl _)), rfl, ⟨H1.n, d2.at_ gr' (by simp; omega), d2.at_ gy' (by simp; omega), by omega⟩, ((kE.chg [r]).trans dr (fun x hx => .inl hx)).trans d2 (by simp; omega), .inr ⟨H1.n, by rw [cellA_of (d2.at_ gr' (by simp; omega))]; rfl, by omega⟩⟩
    simp only [hk, if_false] at hq2
    simp only [W_block, ANs, AOp.map, ↓reduceIte, Nat.reduceAdd, Nat.reduceEqDiff, reduceCtorEq, initFr, Nat.reduceLT, ANc, bi_u, hc, decide_false, cE0, show ((m.k : Int) == 1) = false by simp; omega, pE, full gdE (LC_len (x := ⟨m.be, m.b, S0⟩) rfl), full gxE (LC_len hl0)]
    obtain ⟨_, Hf, r35, rfl, k35⟩ := t34 (H := He) ⟨m.be, m.b, S0⟩ x0
    refine ⟨_, _, r35, trivial, ?_⟩
    have kF' := kE.trans k35
    have grF := k35.at_ grE
    have gxF := k35.at_ gxE
    have gyF := k35.at_ gyE
    have gbF := k35.at_ gbE
    have gaF := k35.at_ gaE
    have pF : cellA Hf r 0 = some (ptr b 0) := by rw [cellA_of grF]; rfl
    by_cases hd : cmpL ⟨m.be, m.b, S0⟩ x0 = 0
    case neg =>
      simp only [ne_eq, hd, not_false_eq_true, if_true] at hq2
      simp only [W_block, ANs, AOp.map, ↓reduceIte, Nat.reduceAdd, Nat.reduceEqDiff, reduceCtorEq, initFr, Nat.reduceLT, ANc, bi_u, show (cmpL ⟨m.be, m.b, S0⟩ x0 != 0) = true by simp [hd], flN]
      have st2 := stAll gbF (show Z78.length = 78 from rfl) (G_len (needM) rfl (.slice none 0 0)) (GC_one _ rfl)
      simp only [W_block, ANs, AOp.map, ↓reduceIte, Nat.reduceAdd, Nat.reduceEqDiff, reduceCtorEq, initFr, Nat.reduceLT, ANc, bi_u, st2]
      have d2 := Chg.set Hf (b := Ha.n) (AHeap.get_lt gbF) (.cells true false 78 (GC (needM) (.slice none 0 0)) 41)
      have kG := kF'.chg_trans d2 (by simp; omega)
      exact hq2 _ _ ⟨_, resC3 (b := Ha.n) rfl (full (get1 gbF _) (G_len _ rfl _)), rfl, rk h kG, kG.chg _, rc kG⟩
    simp only [ne_eq, hd, not_true_eq_false, if_false] at hq2
    have sx : rangeA Hf b 2 68 = some (SC x0.s) := by
      rw [rangeA_of gxF, if_pos (by rw [LC_len hl0]; omega)]; simp only [LC, List.drop]; rw [List.take_of_length_le (by rw [SC_len hl0]; omega)]
    simp only [W_block, ANs, AOp.map, ↓reduceIte, Nat.reduceAdd, Nat.reduceEqDiff, reduceCtorEq, initFr, Nat.reduceLT, ANc, bi_u, show (cmpL ⟨m.be, m.b, S0⟩ x0 != 0) = false by simp [hd], pF, sx, GC_d hs gaF]
    obtain ⟨_, Hg, r10, rfl, k10⟩ := t10 (H := Hf) (s := x0.s) (d := m.d) (v := v) hl0 (ht.keeps kF') hl
    refine ⟨_, _, r10, trivial, ?_⟩
    have kG := kF'.trans k10
    have grG := k10.at_ grF
    have gyG := k10.at_ gyF
    have gbG := k10.at_ gbF
    have pl := patchR_len hl0 m.d
    generalize (patchR x0.s m.d).2 = s' at *
    generalize (patchR x0.s m.d).1 = e' at *
    have sty : asem (.storen 68 (ptr H1.n 2) (.agg (SC s').toArray)) Hg = some (undef, Hg.set H1.n (.cells true false 70 (LC ⟨m.e, m.c, s'⟩) 54)) := by
      rw [a_storen gyG, if_pos ⟨by rw [LC_len (x := ⟨m.e, m.c, m.s⟩) hs]; omega, by simp [Value.cells, SC_len pl], by simpa [Value.cells] using SC_one s'⟩]
      simp only [LC, Value.cells, List.take, List.drop, List.cons_append, List.nil_append]
      rw [List.drop_of_length_le (by rw [SC_len hs]; omega)]
      simp
    have dy := Chg.set Hg (b := H1.n) (AHeap.get_lt gyG) (.cells true false 70 (LC ⟨m.e, m.c, s'⟩) 54)
    have gyH := get1 gyG (.cells true false 70 (LC ⟨m.e, m.c, s'⟩) 54)
    have grH := dy.at_ grG (by simp; omega)
    have gbH := dy.at_ gbG (by simp; omega)
    have kH := kG.chg_trans dy (by simp; omega)
    simp only [W_block, ANs, AOp.map, ↓reduceIte, Nat.reduceAdd, Nat.reduceEqDiff, reduceCtorEq, initFr, Nat.reduceLT, ANc, sty]
    generalize Hg.set H1.n (.cells true false 70 (LC ⟨m.e, m.c, s'⟩) 54) = Hh at *
    have st1 : asem (.store1 (ptr r 0) (ptr H1.n 0)) Hh = some (undef, Hh.set r (.cells true false 1 [ptr H1.n 0] 51)) := by rw [a_st (o := 0) (x := ptr H1.n 0) grH (by simp) rfl]; rfl
    have dr := Chg.set Hh (b := r) (AHeap.get_lt grH) (.cells true false 1 [ptr H1.n 0] 51)
    have gy' := dr.at_ gyH (by simp; omega)
    have gz' := dr.at_ gbH (by simp; omega)
    have gr' := get1 grH (.cells true false 1 [ptr H1.n 0] 51)
    have e0 : cellA (Hh.set r (.cells true false 1 [ptr H1.n 0] 51)) H1.n 0 = some (.int .i64 m.e) := by rw [cellA_of gy']; rfl
    have e1 : cellA (Hh.set r (.cells true false 1 [ptr H1.n 0] 51)) H1.n 1 = some (.int .i64 m.c) := by rw [cellA_of gy']; rfl
    have st2 := stAll gz' (show Z78.length = 78 from rfl) (G_len (ackM ⟨m.e, m.c, m.s⟩) rfl (.slice none 0 0)) (GC_one _ rfl)
    unfold ackM at st2 hq2
    simp only [W_block, ANs, AOp.map, ↓reduceIte, Nat.reduceAdd, Nat.reduceEqDiff, reduceCtorEq, initFr, Nat.reduceLT, ANc, bi_u, st1, e0, e1, flA, st2]
    have d2 := Chg.set (Hh.set r (.cells true false 1 [ptr H1.n 0] 51)) (b := Ha.n) (AHeap.get_lt gz') (.cells true false 78 (GC { G0 with k := 3, e := m.e, c := m.c } (.slice none 0 0)) 41)
    refine hq2 _ _ ⟨_, resC3 (b := Ha.n) rfl (full (get1 gz' _) (G_len _ rfl _)), rfl, ⟨H1.n, d2.at_ gr' (by simp; omega), d2.at_ gy' (by simp; omega), by omega⟩, ((kH.chg [r]).trans dr (fun x hx => .inl hx)).trans d2 (by simp; omega), .inr ⟨H1.n, by rw [cellA_of (d2.at_ gr' (by simp; omega))]; rfl, by omega⟩⟩
end Go.AM.Rp
